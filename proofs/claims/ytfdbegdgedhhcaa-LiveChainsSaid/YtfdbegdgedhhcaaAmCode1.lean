/- PRINTED by wip/tools/gen.py out of the program's form in the model: its functions as the abstract machine's code. -/
import Derived.Test.YtfdbegdgedhhcaaAmCore
set_option linter.all false
namespace Go.AM
namespace C
set_option maxRecDepth 100000
/-- gradus/gradusref1.Wider: number 101 -/
def ref1_Wider_b0 : ACode :=
 (.seq (.seq (.region [.one ⟨some 11, .move (.t 5)⟩,
     .one ⟨some 12, .move (.t 0)⟩,
     .one ⟨some 13, .len (.t 12)⟩,
     .one ⟨some 14, .bin .lss 0 (.t 11) (.t 13)⟩])
   (.cond (.t 14) .skip
    (.exit 0)))
  (.seq (.block 1 (.seq (.region [.one ⟨some 17, .move (.t 0)⟩,
       .one ⟨some 18, .move (.t 5)⟩,
       .one ⟨some 19, .indexAddr 1 (.t 17) (.t 18)⟩,
       .one ⟨some 20, .load 1 false .any (.t 19)⟩,
       .one ⟨some 21, .move (.t 1)⟩,
       .one ⟨some 22, .move (.t 5)⟩,
       .one ⟨some 23, .indexAddr 1 (.t 21) (.t 22)⟩,
       .one ⟨some 24, .load 1 false .any (.t 23)⟩,
       .one ⟨some 25, .bin .neq 0 (.t 20) (.t 24)⟩,
       .one ⟨some 26, .move (.t 25)⟩,
       .grd 26 true [⟨some 27, .move (.t 0)⟩, ⟨some 28, .move (.t 5)⟩, ⟨some 29, .indexAddr 1 (.t 27) (.t 28)⟩, ⟨some 30, .load 1 false .any (.t 29)⟩, ⟨some 31, .bin .neq 0 (.t 30) (.c (.int .i64 1))⟩],
       .one ⟨some 32, .pick (.t 26) (.t 31) (.c (.bool false))⟩])
     (.cond (.t 32) (.seq (.region [.one ⟨some 4, .move (.c (.bool false))⟩])
       .ret)
      .skip)))
   (.region [.one ⟨some 15, .move (.t 5)⟩,
     .one ⟨some 16, .bin .add 0 (.t 15) (.c (.int .i64 1))⟩,
     .one ⟨some 5, .move (.t 16)⟩])))
def ref1_Wider_l0 : ACode :=
 (.loop [(0, .any), (1, .any), (5, .any)] [(0, [])] [(4, .any)] ref1_Wider_b0)
def ref1_Wider : AFunc := { params := [.any, .any], results := [.tmp 4], body :=
  (.seq (.region [.one ⟨some 4, .move (.c (.bool false))⟩])
   (.seq (.seq (.region [.one ⟨some 6, .move (.t 0)⟩,
       .one ⟨some 7, .len (.t 6)⟩,
       .one ⟨some 8, .move (.t 1)⟩,
       .one ⟨some 9, .len (.t 8)⟩,
       .one ⟨some 10, .bin .neq 0 (.t 7) (.t 9)⟩])
     (.cond (.t 10) (.seq (.region [.one ⟨some 4, .move (.c (.bool false))⟩])
       .ret)
      .skip))
    (.seq (.seq (.region [.one ⟨some 5, .move (.c (.int .i64 0))⟩])
      (.block 0 ref1_Wider_l0))
     (.seq (.region [.one ⟨some 4, .move (.c (.bool true))⟩])
      .ret)))) }
/-- gradus/gradusref1.less: number 102 -/
def ref1_less : AFunc := { params := [.any, .any], results := [.tmp 4], body :=
  (.seq (.region [.one ⟨some 4, .move (.c (.nil))⟩])
   (.seq (.region [.one ⟨some 6, .move (.t 0)⟩,
      .one ⟨some 7, .call false .any 25 [.t 6]⟩,
      .one ⟨some 5, .move (.t 7)⟩])
    (.seq (.region [.one ⟨some 8, .move (.t 5)⟩,
       .one ⟨some 9, .move (.t 5)⟩,
       .one ⟨some 10, .len (.t 9)⟩,
       .one ⟨some 11, .bin .sub 0 (.t 10) (.c (.int .i64 1))⟩,
       .one ⟨some 12, .move (.t 5)⟩,
       .one ⟨some 13, .move (.t 5)⟩,
       .one ⟨some 14, .len (.t 13)⟩,
       .one ⟨some 15, .bin .sub 0 (.t 14) (.c (.int .i64 1))⟩,
       .one ⟨some 16, .indexAddr 1 (.t 12) (.t 15)⟩,
       .one ⟨some 17, .load 1 false .any (.t 16)⟩,
       .one ⟨some 18, .move (.t 1)⟩,
       .one ⟨some 19, .bin .quo 0 (.t 17) (.t 18)⟩,
       .one ⟨some 20, .indexAddr 1 (.t 8) (.t 11)⟩,
       .one ⟨none, .store 1 (.t 20) (.t 19)⟩])
     (.seq (.region [.one ⟨some 21, .move (.t 5)⟩,
        .one ⟨some 4, .move (.t 21)⟩])
      .ret)))) }
/-- gradus/graph.names: number 103 -/
def graph_names_b0 : ACode :=
 (.seq (.region [.one ⟨some 10, .bin .lss 0 (.t 9) (.t 8)⟩])
  (.seq (.cond (.t 10) .skip
    (.exit 0))
   (.seq (.block 1 (.seq (.region [.one ⟨some 11, .indexAddr 5 (.t 7) (.t 9)⟩,
        .one ⟨some 12, .load 5 true .any (.t 11)⟩,
        .one ⟨some 5, .alloc [.str (bs []), .int .i64 0, .nil, .nil, .int .i64 0]⟩,
        .one ⟨none, .store 5 (.t 5) (.t 12)⟩])
      (.seq (.seq (.region [.one ⟨some 13, .fieldAddr 0 (.t 5)⟩,
          .one ⟨some 14, .load 1 false .any (.t 13)⟩,
          .one ⟨some 15, .call false .any 129 [.t 14]⟩,
          .one ⟨some 16, .un .not (.t 15)⟩,
          .one ⟨some 17, .move (.t 16)⟩,
          .grd 17 false [⟨some 18, .move (.t 3)⟩, ⟨some 19, .fieldAddr 0 (.t 5)⟩, ⟨some 20, .load 1 false .any (.t 19)⟩, ⟨some 21, .lookup (.bool false) .any (.t 18) (.t 20)⟩],
          .one ⟨some 22, .pick (.t 17) (.c (.bool true)) (.t 21)⟩])
        (.cond (.t 22) (.seq (.region [.one ⟨some 2, .move (.c (.bool false))⟩])
          .ret)
         .skip))
       (.region [.one ⟨some 23, .move (.t 3)⟩,
         .one ⟨some 24, .fieldAddr 0 (.t 5)⟩,
         .one ⟨some 25, .load 1 false .any (.t 24)⟩,
         .one ⟨none, .mapUpdate (.t 23) (.t 25) (.c (.bool true))⟩]))))
    (.region [.one ⟨some 26, .bin .add 0 (.t 9) (.c (.int .i64 1))⟩,
      .one ⟨some 9, .move (.t 26)⟩]))))
def graph_names_l0 : ACode :=
 (.loop [(3, .any), (7, .any), (8, .any), (9, .any)] [(0, [])] [(2, .any)] graph_names_b0)
def graph_names : AFunc := { params := [.any], results := [.tmp 2], body :=
  (.seq (.region [.one ⟨some 2, .move (.c (.bool false))⟩])
   (.seq (.region [.one ⟨some 6, .makeMap⟩,
      .one ⟨some 3, .move (.t 6)⟩])
    (.seq (.seq (.region [.one ⟨some 7, .move (.t 0)⟩,
        .one ⟨some 8, .len (.t 7)⟩,
        .one ⟨some 9, .move (.c (.int .i64 0))⟩])
      (.block 0 graph_names_l0))
     (.seq (.region [.one ⟨some 2, .move (.c (.bool true))⟩])
      .ret)))) }
/-- gradus/graph.Is$1: number 104 -/
def graph_Is_1 : AFunc := { params := [.any], results := [.tmp 2], body :=
  (.seq (.region [.one ⟨some 1, .box (.t 0)⟩,
     .one ⟨some 2, .move (.c (.bool false))⟩])
   (.seq (.region [.one ⟨some 3, .fieldAddr 1 (.t 1)⟩,
      .one ⟨some 4, .load 1 false .any (.t 3)⟩,
      .one ⟨some 5, .bin .gtr 0 (.t 4) (.c (.int .i64 15))⟩,
      .one ⟨some 6, .move (.t 5)⟩,
      .grd 6 false [⟨some 7, .fieldAddr 4 (.t 1)⟩, ⟨some 8, .load 1 false .any (.t 7)⟩, ⟨some 9, .bin .lss 0 (.t 8) (.c (.int .i64 (-1073741824)))⟩],
      .one ⟨some 10, .pick (.t 6) (.c (.bool true)) (.t 9)⟩,
      .one ⟨some 11, .move (.t 10)⟩,
      .grd 11 false [⟨some 12, .fieldAddr 4 (.t 1)⟩, ⟨some 13, .load 1 false .any (.t 12)⟩, ⟨some 14, .bin .gtr 0 (.t 13) (.c (.int .i64 1073741824))⟩],
      .one ⟨some 15, .pick (.t 11) (.c (.bool true)) (.t 14)⟩,
      .one ⟨some 2, .move (.t 15)⟩])
    .ret)) }
/-- slices.ContainsFunc[[]gradus/api.Node,gradus/api.Node]: number 105 -/
def slices_ContainsFunc_Node : AFunc := { params := [.any, .any], results := [.tmp 4], body :=
  (.seq (.region [.one ⟨some 4, .move (.c (.bool false))⟩])
   (.seq (.region [.one ⟨some 5, .move (.t 0)⟩,
      .one ⟨some 6, .move (.t 1)⟩,
      .one ⟨some 7, .call false .any 130 [.t 5, .t 6]⟩,
      .one ⟨some 8, .bin .geq 0 (.t 7) (.c (.int .i64 0))⟩,
      .one ⟨some 4, .move (.t 8)⟩])
    .ret)) }
/-- gradus/shape.Product: number 106 -/
def shape_Product_b0 : ACode :=
 (.seq (.region [.one ⟨some 9, .bin .lss 0 (.t 8) (.t 7)⟩])
  (.seq (.cond (.t 9) .skip
    (.exit 0))
   (.seq (.block 1 (.seq (.region [.one ⟨some 10, .indexAddr 1 (.t 6) (.t 8)⟩,
        .one ⟨some 11, .load 1 false .any (.t 10)⟩,
        .one ⟨some 5, .move (.t 11)⟩])
      (.region [.one ⟨some 12, .move (.t 3)⟩,
        .one ⟨some 13, .move (.t 5)⟩,
        .one ⟨some 14, .bin .mul 0 (.t 12) (.t 13)⟩,
        .one ⟨some 3, .move (.t 14)⟩])))
    (.region [.one ⟨some 15, .bin .add 0 (.t 8) (.c (.int .i64 1))⟩,
      .one ⟨some 8, .move (.t 15)⟩]))))
def shape_Product_l0 : ACode :=
 (.loop [(3, .any), (6, .any), (7, .any), (8, .any)] [(0, [(3, .any)])] [] shape_Product_b0)
def shape_Product : AFunc := { params := [.any], results := [.tmp 2], body :=
  (.seq (.region [.one ⟨some 2, .move (.c (.int .i64 0))⟩])
   (.seq (.region [.one ⟨some 3, .move (.c (.int .i64 1))⟩])
    (.seq (.seq (.region [.one ⟨some 6, .move (.t 0)⟩,
        .one ⟨some 7, .len (.t 6)⟩,
        .one ⟨some 8, .move (.c (.int .i64 0))⟩])
      (.block 0 shape_Product_l0))
     (.seq (.region [.one ⟨some 16, .move (.t 3)⟩,
        .one ⟨some 2, .move (.t 16)⟩])
      .ret)))) }
/-- slices.Index[[]int,int]: number 107 -/
def slices_Index_int_b0 : ACode :=
 (.seq (.region [.one ⟨some 9, .bin .lss 0 (.t 8) (.t 7)⟩])
  (.seq (.cond (.t 9) .skip
    (.exit 0))
   (.seq (.block 1 (.seq (.region [.one ⟨some 10, .move (.t 8)⟩,
        .one ⟨some 5, .move (.t 10)⟩])
      (.seq (.region [.one ⟨some 11, .move (.t 1)⟩,
         .one ⟨some 12, .move (.t 0)⟩,
         .one ⟨some 13, .move (.t 5)⟩,
         .one ⟨some 14, .indexAddr 1 (.t 12) (.t 13)⟩,
         .one ⟨some 15, .load 1 false .any (.t 14)⟩,
         .one ⟨some 16, .bin .eql 0 (.t 11) (.t 15)⟩])
       (.cond (.t 16) (.seq (.region [.one ⟨some 17, .move (.t 5)⟩,
           .one ⟨some 4, .move (.t 17)⟩])
         .ret)
        .skip))))
    (.region [.one ⟨some 18, .bin .add 0 (.t 8) (.c (.int .i64 1))⟩,
      .one ⟨some 8, .move (.t 18)⟩]))))
def slices_Index_int_l0 : ACode :=
 (.loop [(0, .any), (1, .any), (7, .any), (8, .any)] [(0, [])] [(4, .any)] slices_Index_int_b0)
def slices_Index_int : AFunc := { params := [.any, .any], results := [.tmp 4], body :=
  (.seq (.region [.one ⟨some 4, .move (.c (.int .i64 0))⟩])
   (.seq (.seq (.region [.one ⟨some 6, .move (.t 0)⟩,
       .one ⟨some 7, .len (.t 6)⟩,
       .one ⟨some 8, .move (.c (.int .i64 0))⟩])
     (.block 0 slices_Index_int_l0))
    (.seq (.region [.one ⟨some 4, .move (.c (.int .i64 (-1)))⟩])
     .ret))) }
/-- gradus/back.May$1: number 108 -/
def back_May_1 : AFunc := { params := [.any, .any], results := [.tmp 3], body :=
  (.seq (.region [.one ⟨some 3, .move (.c (.bool false))⟩])
   (.seq (.region [.one ⟨some 4, .move (.t 0)⟩,
      .one ⟨some 5, .bin .geq 0 (.t 4) (.c (.int .i64 0))⟩,
      .one ⟨some 6, .move (.t 5)⟩,
      .grd 6 true [⟨some 7, .move (.t 0)⟩, ⟨some 8, .fieldAddr 0 (.t 1)⟩, ⟨some 9, .load 1 false .any (.t 8)⟩, ⟨some 10, .len (.t 9)⟩, ⟨some 11, .bin .lss 0 (.t 7) (.t 10)⟩],
      .one ⟨some 12, .pick (.t 6) (.t 11) (.c (.bool false))⟩,
      .one ⟨some 3, .move (.t 12)⟩])
    .ret)) }
/-- gradus/live.Told: number 109 -/
def live_Told_b0 : ACode :=
 (.seq (.region [.one ⟨some 13, .bin .lss 0 (.t 12) (.t 11)⟩])
  (.seq (.cond (.t 13) .skip
    (.exit 0))
   (.seq (.block 1 (.seq (.region [.one ⟨some 14, .indexAddr 1 (.t 10) (.t 12)⟩,
        .one ⟨some 15, .load 1 false .any (.t 14)⟩,
        .one ⟨some 5, .move (.t 15)⟩])
      (.seq (.region [.one ⟨some 16, .move (.t 3)⟩,
         .one ⟨some 17, .move (.t 5)⟩,
         .one ⟨some 18, .call false .any 70 [.t 16, .t 17]⟩,
         .one ⟨some 19, .un .not (.t 18)⟩])
       (.cond (.t 19) (.region [.one ⟨some 20, .move (.t 3)⟩,
          .one ⟨some 21, .move (.t 5)⟩,
          .one ⟨some 22, .buildSlice 1 1 [.int .i64 0] [(0, .t 21)]⟩,
          .one ⟨some 23, .append 1 8 (.t 20) (.t 22)⟩,
          .one ⟨some 3, .move (.t 23)⟩])
        .skip))))
    (.region [.one ⟨some 24, .bin .add 0 (.t 12) (.c (.int .i64 1))⟩,
      .one ⟨some 12, .move (.t 24)⟩]))))
def live_Told_l0 : ACode :=
 (.loop [(3, .any), (10, .any), (11, .any), (12, .any)] [(0, [(3, .any)])] [] live_Told_b0)
def live_Told : AFunc := { params := [.any], results := [.tmp 2], body :=
  (.seq (.region [.one ⟨some 1, .box (.t 0)⟩,
     .one ⟨some 2, .move (.c (.nil))⟩])
   (.seq (.region [.one ⟨some 6, .fieldAddr 1 (.t 1)⟩,
      .one ⟨some 7, .load 1 false .any (.t 6)⟩,
      .one ⟨some 8, .buildSlice 1 1 [.int .i64 0] [(0, .t 7)]⟩,
      .one ⟨some 3, .move (.t 8)⟩])
    (.seq (.seq (.region [.one ⟨some 9, .fieldAddr 2 (.t 1)⟩,
        .one ⟨some 10, .load 1 false .any (.t 9)⟩,
        .one ⟨some 11, .len (.t 10)⟩,
        .one ⟨some 12, .move (.c (.int .i64 0))⟩])
      (.block 0 live_Told_l0))
     (.seq (.region [.one ⟨some 25, .move (.t 3)⟩,
        .one ⟨some 2, .move (.t 25)⟩])
      .ret)))) }
/-- slices.IndexFunc[[]int,int]: number 110 -/
def slices_IndexFunc_int_b0 : ACode :=
 (.seq (.region [.one ⟨some 9, .bin .lss 0 (.t 8) (.t 7)⟩])
  (.seq (.cond (.t 9) .skip
    (.exit 0))
   (.seq (.block 1 (.seq (.region [.one ⟨some 10, .move (.t 8)⟩,
        .one ⟨some 5, .move (.t 10)⟩])
      (.seq (.region [.one ⟨some 11, .move (.t 1)⟩,
         .one ⟨some 12, .move (.t 0)⟩,
         .one ⟨some 13, .move (.t 5)⟩,
         .one ⟨some 14, .indexAddr 1 (.t 12) (.t 13)⟩,
         .one ⟨some 15, .load 1 false .any (.t 14)⟩,
         .one ⟨some 16, .callv false .any (.t 11) [.t 15]⟩])
       (.cond (.t 16) (.seq (.region [.one ⟨some 17, .move (.t 5)⟩,
           .one ⟨some 4, .move (.t 17)⟩])
         .ret)
        .skip))))
    (.region [.one ⟨some 18, .bin .add 0 (.t 8) (.c (.int .i64 1))⟩,
      .one ⟨some 8, .move (.t 18)⟩]))))
def slices_IndexFunc_int_l0 : ACode :=
 (.loop [(0, .any), (1, .any), (7, .any), (8, .any)] [(0, [])] [(4, .any)] slices_IndexFunc_int_b0)
def slices_IndexFunc_int : AFunc := { params := [.any, .any], results := [.tmp 4], body :=
  (.seq (.region [.one ⟨some 4, .move (.c (.int .i64 0))⟩])
   (.seq (.seq (.region [.one ⟨some 6, .move (.t 0)⟩,
       .one ⟨some 7, .len (.t 6)⟩,
       .one ⟨some 8, .move (.c (.int .i64 0))⟩])
     (.block 0 slices_IndexFunc_int_l0))
    (.seq (.region [.one ⟨some 4, .move (.c (.int .i64 (-1)))⟩])
     .ret))) }
/-- slices.Clone[[]int,int]: number 112 -/
def slices_Clone_int : AFunc := { params := [.any], results := [.tmp 2], body :=
  (.seq (.region [.one ⟨some 2, .move (.c (.nil))⟩])
   (.seq (.seq (.region [.one ⟨some 3, .move (.t 0)⟩,
       .one ⟨some 4, .bin .eql 2 (.t 3) (.c (.nil))⟩])
     (.cond (.t 4) (.seq (.region [.one ⟨some 2, .move (.c (.nil))⟩])
       .ret)
      .skip))
    (.seq (.region [.one ⟨some 5, .buildSlice 1 0 [.int .i64 0] []⟩,
       .one ⟨some 6, .move (.t 0)⟩,
       .one ⟨some 7, .append 1 8 (.t 5) (.t 6)⟩,
       .one ⟨some 2, .move (.t 7)⟩])
     .ret))) }
/-- gradus/kernel.Named: number 126 -/
def kernel_Named : AFunc := { params := [.any], results := [.tmp 2], body :=
  (.seq (.region [.one ⟨some 2, .move (.c (.bool false))⟩])
   (.seq (.region [.one ⟨some 3, .move (.t 0)⟩,
      .one ⟨some 4, .bin .geq 0 (.t 3) (.c (.int .i64 1))⟩,
      .one ⟨some 5, .move (.t 4)⟩,
      .grd 5 true [⟨some 6, .move (.t 0)⟩, ⟨some 7, .bin .leq 0 (.t 6) (.c (.int .i64 3))⟩],
      .one ⟨some 8, .pick (.t 5) (.t 7) (.c (.bool false))⟩,
      .one ⟨some 9, .move (.t 8)⟩,
      .grd 9 false [⟨some 10, .move (.t 0)⟩, ⟨some 11, .bin .geq 0 (.t 10) (.c (.int .i64 11))⟩, ⟨some 12, .move (.t 11)⟩],
      .grd 12 true [⟨some 13, .move (.t 0)⟩, ⟨some 14, .bin .leq 0 (.t 13) (.c (.int .i64 13))⟩],
      .grd 9 false [⟨some 15, .pick (.t 12) (.t 14) (.c (.bool false))⟩],
      .one ⟨some 16, .pick (.t 9) (.c (.bool true)) (.t 15)⟩,
      .one ⟨some 2, .move (.t 16)⟩])
    .ret)) }
/-- gradus/kernel.form: number 127 -/
def kernel_form : AFunc := { params := [.any, .any, .any, .any], results := [.tmp 8], body :=
  (.seq (.region [.one ⟨some 8, .move (.c (.bool false))⟩])
   (.seq (.region [.one ⟨some 9, .move (.c (.fn 141 []))⟩])
    (.seq (.seq (.region [.one ⟨some 10, .move (.t 0)⟩,
        .one ⟨some 11, .bin .lss 0 (.t 10) (.c (.int .i64 1))⟩,
        .one ⟨some 12, .move (.t 11)⟩,
        .grd 12 false [⟨some 13, .move (.t 0)⟩, ⟨some 14, .bin .gtr 0 (.t 13) (.c (.int .i64 17))⟩],
        .one ⟨some 15, .pick (.t 12) (.c (.bool true)) (.t 14)⟩,
        .one ⟨some 16, .move (.t 15)⟩,
        .grd 16 false [⟨some 17, .move (.t 3)⟩, ⟨some 18, .len (.t 17)⟩, ⟨some 19, .move (.t 0)⟩, ⟨some 20, .call false .any 142 [.t 19]⟩, ⟨some 21, .bin .neq 0 (.t 18) (.t 20)⟩],
        .one ⟨some 22, .pick (.t 16) (.c (.bool true)) (.t 21)⟩,
        .one ⟨some 23, .move (.t 22)⟩,
        .grd 23 false [⟨some 24, .move (.t 3)⟩, ⟨some 25, .move (.t 9)⟩, ⟨some 26, .call false .any 143 [.t 24, .t 25]⟩],
        .one ⟨some 27, .pick (.t 23) (.c (.bool true)) (.t 26)⟩,
        .one ⟨some 28, .move (.t 27)⟩,
        .grd 28 false [⟨some 29, .move (.t 0)⟩, ⟨some 30, .move (.t 1)⟩, ⟨some 31, .call false .any 144 [.t 29, .t 30]⟩, ⟨some 32, .un .not (.t 31)⟩],
        .one ⟨some 33, .pick (.t 28) (.c (.bool true)) (.t 32)⟩])
      (.cond (.t 33) (.seq (.region [.one ⟨some 8, .move (.c (.bool false))⟩])
        .ret)
       .skip))
     (.seq (.seq (.region [.one ⟨some 34, .move (.t 0)⟩,
         .one ⟨some 35, .call false .any 126 [.t 34]⟩])
       (.cond (.t 35) (.seq (.region [.one ⟨some 36, .move (.t 2)⟩,
           .one ⟨some 37, .call false .any 145 [.t 36]⟩,
           .one ⟨some 8, .move (.t 37)⟩])
         .ret)
        .skip))
      (.seq (.region [.one ⟨some 38, .move (.t 2)⟩,
         .one ⟨some 39, .len (.t 38)⟩,
         .one ⟨some 40, .bin .eql 0 (.t 39) (.c (.int .i64 0))⟩,
         .one ⟨some 8, .move (.t 40)⟩])
       .ret))))) }
/-- gradus/kernel.dims: number 128 -/
def kernel_dims : AFunc := { params := [.any, .any, .any, .any], results := [.tmp 8], body :=
  (.seq (.region [.one ⟨some 8, .move (.c (.nil))⟩])
   (.seq (.region [.one ⟨some 9, .move (.c (.bool true))⟩])
    (.seq (.seq (.region [.one ⟨some 10, .move (.t 0)⟩])
      (.block 0 (.seq (.seq (.region [.one ⟨some 15, .bin .eql 0 (.t 10) (.c (.int .i64 1))⟩,
           .one ⟨some 14, .move (.t 15)⟩])
         (.cond (.t 14) .skip
          (.seq (.region [.one ⟨some 16, .bin .eql 0 (.t 10) (.c (.int .i64 2))⟩,
             .one ⟨some 14, .move (.t 16)⟩])
           (.cond (.t 14) .skip
            (.region [.one ⟨some 17, .bin .eql 0 (.t 10) (.c (.int .i64 3))⟩,
              .one ⟨some 14, .move (.t 17)⟩])))))
        (.cond (.t 14) .skip
         (.seq (.seq (.region [.one ⟨some 19, .bin .eql 0 (.t 10) (.c (.int .i64 4))⟩,
             .one ⟨some 18, .move (.t 19)⟩])
           (.cond (.t 18) .skip
            (.seq (.region [.one ⟨some 20, .bin .eql 0 (.t 10) (.c (.int .i64 5))⟩,
               .one ⟨some 18, .move (.t 20)⟩])
             (.cond (.t 18) .skip
              (.seq (.region [.one ⟨some 21, .bin .eql 0 (.t 10) (.c (.int .i64 6))⟩,
                 .one ⟨some 18, .move (.t 21)⟩])
               (.cond (.t 18) .skip
                (.region [.one ⟨some 22, .bin .eql 0 (.t 10) (.c (.int .i64 16))⟩,
                  .one ⟨some 18, .move (.t 22)⟩])))))))
          (.cond (.t 18) (.region [.one ⟨some 23, .move (.t 3)⟩,
             .one ⟨some 24, .indexAddr 1 (.t 23) (.c (.int .i64 0))⟩,
             .one ⟨some 25, .load 1 false .any (.t 24)⟩,
             .one ⟨some 26, .move (.t 3)⟩,
             .one ⟨some 27, .indexAddr 1 (.t 26) (.c (.int .i64 0))⟩,
             .one ⟨some 28, .load 1 false .any (.t 27)⟩,
             .one ⟨some 29, .move (.t 3)⟩,
             .one ⟨some 30, .indexAddr 1 (.t 29) (.c (.int .i64 1))⟩,
             .one ⟨some 31, .load 1 false .any (.t 30)⟩,
             .one ⟨some 32, .call true .any 98 [.t 28, .t 31]⟩,
             .one ⟨some 2, .move (.t 25)⟩,
             .one ⟨some 9, .move (.t 32)⟩])
           (.seq (.region [.one ⟨some 34, .bin .eql 0 (.t 10) (.c (.int .i64 9))⟩,
              .one ⟨some 33, .move (.t 34)⟩])
            (.cond (.t 33) (.seq (.region [.one ⟨some 35, .move (.t 3)⟩,
                .one ⟨some 36, .indexAddr 1 (.t 35) (.c (.int .i64 0))⟩,
                .one ⟨some 37, .load 1 false .any (.t 36)⟩,
                .one ⟨some 38, .len (.t 37)⟩,
                .one ⟨some 39, .bin .eql 0 (.t 38) (.c (.int .i64 2))⟩,
                .one ⟨some 40, .move (.t 39)⟩,
                .grd 40 true [⟨some 41, .move (.t 3)⟩, ⟨some 42, .indexAddr 1 (.t 41) (.c (.int .i64 1))⟩, ⟨some 43, .load 1 false .any (.t 42)⟩, ⟨some 44, .len (.t 43)⟩, ⟨some 45, .bin .eql 0 (.t 44) (.c (.int .i64 2))⟩],
                .one ⟨some 46, .pick (.t 40) (.t 45) (.c (.bool false))⟩,
                .one ⟨some 47, .move (.t 46)⟩,
                .grd 47 true [⟨some 48, .move (.t 3)⟩, ⟨some 49, .indexAddr 1 (.t 48) (.c (.int .i64 0))⟩, ⟨some 50, .load 1 false .any (.t 49)⟩, ⟨some 51, .indexAddr 1 (.t 50) (.c (.int .i64 1))⟩, ⟨some 52, .load 1 false .any (.t 51)⟩, ⟨some 53, .move (.t 3)⟩, ⟨some 54, .indexAddr 1 (.t 53) (.c (.int .i64 1))⟩, ⟨some 55, .load 1 false .any (.t 54)⟩, ⟨some 56, .indexAddr 1 (.t 55) (.c (.int .i64 0))⟩, ⟨some 57, .load 1 false .any (.t 56)⟩, ⟨some 58, .bin .eql 0 (.t 52) (.t 57)⟩],
                .one ⟨some 59, .pick (.t 47) (.t 58) (.c (.bool false))⟩,
                .one ⟨some 9, .move (.t 59)⟩])
              (.seq (.seq (.region [.one ⟨some 60, .move (.t 9)⟩])
                (.cond (.t 60) (.region [.one ⟨some 61, .move (.t 3)⟩,
                   .one ⟨some 62, .indexAddr 1 (.t 61) (.c (.int .i64 0))⟩,
                   .one ⟨some 63, .load 1 false .any (.t 62)⟩,
                   .one ⟨some 64, .indexAddr 1 (.t 63) (.c (.int .i64 0))⟩,
                   .one ⟨some 65, .load 1 false .any (.t 64)⟩,
                   .one ⟨some 66, .move (.t 3)⟩,
                   .one ⟨some 67, .indexAddr 1 (.t 66) (.c (.int .i64 1))⟩,
                   .one ⟨some 68, .load 1 false .any (.t 67)⟩,
                   .one ⟨some 69, .indexAddr 1 (.t 68) (.c (.int .i64 1))⟩,
                   .one ⟨some 70, .load 1 false .any (.t 69)⟩,
                   .one ⟨some 71, .buildSlice 1 2 [.int .i64 0] [(0, .t 65), (1, .t 70)]⟩,
                   .one ⟨some 2, .move (.t 71)⟩])
                 .skip))
               (.region [.one ⟨some 72, .move (.t 9)⟩,
                 .one ⟨some 73, .move (.t 72)⟩,
                 .grd 73 true [⟨some 74, .move (.t 2)⟩, ⟨some 75, .call false .any 145 [.t 74]⟩],
                 .one ⟨some 76, .pick (.t 73) (.t 75) (.c (.bool false))⟩,
                 .one ⟨some 9, .move (.t 76)⟩])))
             (.seq (.region [.one ⟨some 78, .bin .eql 0 (.t 10) (.c (.int .i64 10))⟩,
                .one ⟨some 77, .move (.t 78)⟩])
              (.cond (.t 77) (.seq (.region [.one ⟨some 79, .move (.t 3)⟩,
                  .one ⟨some 80, .indexAddr 1 (.t 79) (.c (.int .i64 0))⟩,
                  .one ⟨some 81, .load 1 false .any (.t 80)⟩,
                  .one ⟨some 82, .len (.t 81)⟩,
                  .one ⟨some 83, .bin .eql 0 (.t 82) (.c (.int .i64 2))⟩,
                  .one ⟨some 9, .move (.t 83)⟩])
                (.seq (.region [.one ⟨some 84, .move (.t 9)⟩])
                 (.cond (.t 84) (.region [.one ⟨some 85, .move (.t 3)⟩,
                    .one ⟨some 86, .indexAddr 1 (.t 85) (.c (.int .i64 0))⟩,
                    .one ⟨some 87, .load 1 false .any (.t 86)⟩,
                    .one ⟨some 88, .indexAddr 1 (.t 87) (.c (.int .i64 1))⟩,
                    .one ⟨some 89, .load 1 false .any (.t 88)⟩,
                    .one ⟨some 90, .move (.t 3)⟩,
                    .one ⟨some 91, .indexAddr 1 (.t 90) (.c (.int .i64 0))⟩,
                    .one ⟨some 92, .load 1 false .any (.t 91)⟩,
                    .one ⟨some 93, .indexAddr 1 (.t 92) (.c (.int .i64 0))⟩,
                    .one ⟨some 94, .load 1 false .any (.t 93)⟩,
                    .one ⟨some 95, .buildSlice 1 2 [.int .i64 0] [(0, .t 89), (1, .t 94)]⟩,
                    .one ⟨some 2, .move (.t 95)⟩])
                  .skip)))
               (.seq (.region [.one ⟨some 97, .bin .eql 0 (.t 10) (.c (.int .i64 11))⟩,
                  .one ⟨some 96, .move (.t 97)⟩])
                (.cond (.t 96) (.region [.one ⟨some 98, .move (.t 2)⟩,
                   .one ⟨some 99, .call true .any 106 [.t 98]⟩,
                   .one ⟨some 100, .move (.t 3)⟩,
                   .one ⟨some 101, .indexAddr 1 (.t 100) (.c (.int .i64 0))⟩,
                   .one ⟨some 102, .load 1 false .any (.t 101)⟩,
                   .one ⟨some 103, .call true .any 106 [.t 102]⟩,
                   .one ⟨some 104, .bin .eql 0 (.t 99) (.t 103)⟩,
                   .one ⟨some 9, .move (.t 104)⟩])
                 (.seq (.region [.one ⟨some 106, .bin .eql 0 (.t 10) (.c (.int .i64 12))⟩,
                    .one ⟨some 105, .move (.t 106)⟩])
                  (.cond (.t 105) (.region [.one ⟨some 107, .move (.t 3)⟩,
                     .one ⟨some 108, .indexAddr 1 (.t 107) (.c (.int .i64 0))⟩,
                     .one ⟨some 109, .load 1 false .any (.t 108)⟩,
                     .one ⟨some 110, .move (.t 2)⟩,
                     .one ⟨some 111, .call false .any 146 [.t 109, .t 110]⟩,
                     .one ⟨some 9, .move (.t 111)⟩])
                   (.seq (.region [.one ⟨some 113, .bin .eql 0 (.t 10) (.c (.int .i64 13))⟩,
                      .one ⟨some 112, .move (.t 113)⟩])
                    (.cond (.t 112) (.region [.one ⟨some 114, .move (.t 2)⟩,
                       .one ⟨some 115, .move (.t 3)⟩,
                       .one ⟨some 116, .indexAddr 1 (.t 115) (.c (.int .i64 0))⟩,
                       .one ⟨some 117, .load 1 false .any (.t 116)⟩,
                       .one ⟨some 118, .call false .any 146 [.t 114, .t 117]⟩,
                       .one ⟨some 9, .move (.t 118)⟩])
                     (.seq (.region [.one ⟨some 120, .bin .eql 0 (.t 10) (.c (.int .i64 15))⟩,
                        .one ⟨some 119, .move (.t 120)⟩])
                      (.cond (.t 119) (.region [.one ⟨some 122, .move (.t 3)⟩,
                         .one ⟨some 123, .indexAddr 1 (.t 122) (.c (.int .i64 0))⟩,
                         .one ⟨some 124, .load 1 false .any (.t 123)⟩,
                         .one ⟨some 125, .move (.t 1)⟩,
                         .one ⟨some 126, .call false .any 147 [.t 124, .t 125]⟩,
                         .one ⟨some 121, .move (.t 126)⟩,
                         .one ⟨some 127, .extract (.t 121) 0⟩,
                         .one ⟨some 128, .extract (.t 121) 1⟩,
                         .one ⟨some 2, .move (.t 127)⟩,
                         .one ⟨some 9, .move (.t 128)⟩])
                       (.seq (.region [.one ⟨some 130, .bin .eql 0 (.t 10) (.c (.int .i64 17))⟩,
                          .one ⟨some 129, .move (.t 130)⟩])
                        (.cond (.t 129) (.seq (.region [.one ⟨some 132, .move (.t 3)⟩,
                            .one ⟨some 133, .indexAddr 1 (.t 132) (.c (.int .i64 0))⟩,
                            .one ⟨some 134, .load 1 false .any (.t 133)⟩,
                            .one ⟨some 135, .move (.t 1)⟩,
                            .one ⟨some 136, .call false .any 147 [.t 134, .t 135]⟩,
                            .one ⟨some 131, .move (.t 136)⟩,
                            .one ⟨some 137, .extract (.t 131) 0⟩,
                            .one ⟨some 138, .extract (.t 131) 1⟩,
                            .one ⟨some 2, .move (.t 137)⟩,
                            .one ⟨some 9, .move (.t 138)⟩])
                          (.seq (.region [.one ⟨some 139, .move (.t 9)⟩,
                             .one ⟨some 140, .move (.t 139)⟩,
                             .grd 140 true [⟨some 141, .move (.t 2)⟩, ⟨some 142, .move (.t 3)⟩, ⟨some 143, .indexAddr 1 (.t 142) (.c (.int .i64 1))⟩, ⟨some 144, .load 1 false .any (.t 143)⟩, ⟨some 145, .call false .any 98 [.t 141, .t 144]⟩],
                             .one ⟨some 146, .pick (.t 140) (.t 145) (.c (.bool false))⟩,
                             .one ⟨some 9, .move (.t 146)⟩])
                           (.region [.one ⟨some 147, .move (.t 3)⟩,
                             .one ⟨some 148, .indexAddr 1 (.t 147) (.c (.int .i64 0))⟩,
                             .one ⟨some 149, .load 1 false .any (.t 148)⟩,
                             .one ⟨some 2, .move (.t 149)⟩])))
                         (.region [.one ⟨some 11, .move (.t 3)⟩,
                           .one ⟨some 12, .indexAddr 1 (.t 11) (.c (.int .i64 0))⟩,
                           .one ⟨some 13, .load 1 false .any (.t 12)⟩,
                           .one ⟨some 2, .move (.t 13)⟩])))))))))))))))))))))
     (.seq (.seq (.region [.one ⟨some 150, .move (.t 9)⟩,
         .one ⟨some 151, .un .not (.t 150)⟩])
       (.cond (.t 151) (.seq (.region [.one ⟨some 8, .move (.c (.nil))⟩])
         .ret)
        .skip))
      (.seq (.region [.one ⟨some 152, .move (.t 2)⟩,
         .one ⟨some 153, .call false .any 112 [.t 152]⟩,
         .one ⟨some 8, .move (.t 153)⟩])
       .ret))))) }
/-- gradus/word.IsName: number 129 -/
def word_IsName_b0 : ACode :=
 (.seq (.region [.one ⟨some 8, .next (.t 7)⟩,
    .one ⟨some 9, .extract (.t 8) 0⟩])
  (.seq (.cond (.t 9) .skip
    (.exit 0))
   (.block 1 (.seq (.region [.one ⟨some 10, .extract (.t 8) 2⟩,
       .one ⟨some 5, .move (.t 10)⟩])
     (.seq (.seq (.region [.one ⟨some 11, .move (.t 5)⟩,
         .one ⟨some 12, .call false .any 148 [.t 11]⟩,
         .one ⟨some 13, .un .not (.t 12)⟩,
         .one ⟨some 14, .move (.t 13)⟩,
         .grd 14 true [⟨some 15, .move (.t 3)⟩, ⟨some 16, .bin .eql 0 (.t 15) (.c (.int .i64 0))⟩, ⟨some 17, .move (.t 16)⟩],
         .grd 17 false [⟨some 18, .move (.t 5)⟩, ⟨some 19, .call false .any 149 [.t 18]⟩, ⟨some 20, .un .not (.t 19)⟩],
         .grd 14 true [⟨some 21, .pick (.t 17) (.c (.bool true)) (.t 20)⟩],
         .one ⟨some 22, .pick (.t 14) (.t 21) (.c (.bool false))⟩])
       (.cond (.t 22) (.seq (.region [.one ⟨some 2, .move (.c (.bool false))⟩])
         .ret)
        .skip))
      (.region [.one ⟨some 23, .move (.t 3)⟩,
        .one ⟨some 24, .bin .add 0 (.t 23) (.c (.int .i64 1))⟩,
        .one ⟨some 3, .move (.t 24)⟩]))))))
def word_IsName_l0 : ACode :=
 (.loop [(3, .any), (7, .any)] [(0, [(3, .any)])] [(2, .any)] word_IsName_b0)
def word_IsName : AFunc := { params := [.any], results := [.tmp 2], body :=
  (.seq (.region [.one ⟨some 2, .move (.c (.bool false))⟩])
   (.seq (.region [.one ⟨some 3, .move (.c (.int .i64 0))⟩])
    (.seq (.seq (.region [.one ⟨some 6, .move (.t 0)⟩,
        .one ⟨some 7, .range (.t 6)⟩])
      (.block 0 word_IsName_l0))
     (.seq (.region [.one ⟨some 25, .move (.t 3)⟩,
        .one ⟨some 26, .bin .geq 0 (.t 25) (.c (.int .i64 1))⟩,
        .one ⟨some 27, .move (.t 26)⟩,
        .grd 27 true [⟨some 28, .move (.t 3)⟩, ⟨some 29, .bin .leq 0 (.t 28) (.c (.int .i64 6))⟩],
        .one ⟨some 30, .pick (.t 27) (.t 29) (.c (.bool false))⟩,
        .one ⟨some 2, .move (.t 30)⟩])
      .ret)))) }
/-- slices.IndexFunc[[]gradus/api.Node,gradus/api.Node]: number 130 -/
def slices_IndexFunc_Node_b0 : ACode :=
 (.seq (.region [.one ⟨some 9, .bin .lss 0 (.t 8) (.t 7)⟩])
  (.seq (.cond (.t 9) .skip
    (.exit 0))
   (.seq (.block 1 (.seq (.region [.one ⟨some 10, .move (.t 8)⟩,
        .one ⟨some 5, .move (.t 10)⟩])
      (.seq (.region [.one ⟨some 11, .move (.t 1)⟩,
         .one ⟨some 12, .move (.t 0)⟩,
         .one ⟨some 13, .move (.t 5)⟩,
         .one ⟨some 14, .indexAddr 5 (.t 12) (.t 13)⟩,
         .one ⟨some 15, .load 5 true .any (.t 14)⟩,
         .one ⟨some 16, .callv false .any (.t 11) [.t 15]⟩])
       (.cond (.t 16) (.seq (.region [.one ⟨some 17, .move (.t 5)⟩,
           .one ⟨some 4, .move (.t 17)⟩])
         .ret)
        .skip))))
    (.region [.one ⟨some 18, .bin .add 0 (.t 8) (.c (.int .i64 1))⟩,
      .one ⟨some 8, .move (.t 18)⟩]))))
def slices_IndexFunc_Node_l0 : ACode :=
 (.loop [(0, .any), (1, .any), (7, .any), (8, .any)] [(0, [])] [(4, .any)] slices_IndexFunc_Node_b0)
def slices_IndexFunc_Node : AFunc := { params := [.any, .any], results := [.tmp 4], body :=
  (.seq (.region [.one ⟨some 4, .move (.c (.int .i64 0))⟩])
   (.seq (.seq (.region [.one ⟨some 6, .move (.t 0)⟩,
       .one ⟨some 7, .len (.t 6)⟩,
       .one ⟨some 8, .move (.c (.int .i64 0))⟩])
     (.block 0 slices_IndexFunc_Node_l0))
    (.seq (.region [.one ⟨some 4, .move (.c (.int .i64 (-1)))⟩])
     .ret))) }
/-- slices.ContainsFunc[[]gradus/api.Tensor,gradus/api.Tensor]: number 133 -/
def slices_ContainsFunc_Tensor : AFunc := { params := [.any, .any], results := [.tmp 4], body :=
  (.seq (.region [.one ⟨some 4, .move (.c (.bool false))⟩])
   (.seq (.region [.one ⟨some 5, .move (.t 0)⟩,
      .one ⟨some 6, .move (.t 1)⟩,
      .one ⟨some 7, .call false .any 150 [.t 5, .t 6]⟩,
      .one ⟨some 8, .bin .geq 0 (.t 7) (.c (.int .i64 0))⟩,
      .one ⟨some 4, .move (.t 8)⟩])
    .ret)) }
/-- gradus/kernel.form$1: number 141 -/
def kernel_form_1 : AFunc := { params := [.any], results := [.tmp 2], body :=
  (.seq (.region [.one ⟨some 2, .move (.c (.bool false))⟩])
   (.seq (.region [.one ⟨some 3, .move (.t 0)⟩,
      .one ⟨some 4, .call false .any 145 [.t 3]⟩,
      .one ⟨some 5, .un .not (.t 4)⟩,
      .one ⟨some 2, .move (.t 5)⟩])
    .ret)) }
/-- gradus/kernel.Many: number 142 -/
def kernel_Many : AFunc := { params := [.any], results := [.tmp 2], body :=
  (.seq (.region [.one ⟨some 2, .move (.c (.int .i64 0))⟩])
   (.seq (.seq (.region [.one ⟨some 3, .move (.t 0)⟩])
     (.block 0 (.seq (.seq (.region [.one ⟨some 5, .bin .eql 0 (.t 3) (.c (.int .i64 1))⟩,
          .one ⟨some 4, .move (.t 5)⟩])
        (.cond (.t 4) .skip
         (.seq (.region [.one ⟨some 6, .bin .eql 0 (.t 3) (.c (.int .i64 2))⟩,
            .one ⟨some 4, .move (.t 6)⟩])
          (.cond (.t 4) .skip
           (.region [.one ⟨some 7, .bin .eql 0 (.t 3) (.c (.int .i64 3))⟩,
             .one ⟨some 4, .move (.t 7)⟩])))))
       (.cond (.t 4) (.seq (.region [.one ⟨some 2, .move (.c (.int .i64 0))⟩])
         .ret)
        (.seq (.seq (.region [.one ⟨some 9, .bin .eql 0 (.t 3) (.c (.int .i64 4))⟩,
            .one ⟨some 8, .move (.t 9)⟩])
          (.cond (.t 8) .skip
           (.seq (.region [.one ⟨some 10, .bin .eql 0 (.t 3) (.c (.int .i64 5))⟩,
              .one ⟨some 8, .move (.t 10)⟩])
            (.cond (.t 8) .skip
             (.seq (.region [.one ⟨some 11, .bin .eql 0 (.t 3) (.c (.int .i64 6))⟩,
                .one ⟨some 8, .move (.t 11)⟩])
              (.cond (.t 8) .skip
               (.seq (.region [.one ⟨some 12, .bin .eql 0 (.t 3) (.c (.int .i64 9))⟩,
                  .one ⟨some 8, .move (.t 12)⟩])
                (.cond (.t 8) .skip
                 (.seq (.region [.one ⟨some 13, .bin .eql 0 (.t 3) (.c (.int .i64 16))⟩,
                    .one ⟨some 8, .move (.t 13)⟩])
                  (.cond (.t 8) .skip
                   (.region [.one ⟨some 14, .bin .eql 0 (.t 3) (.c (.int .i64 17))⟩,
                     .one ⟨some 8, .move (.t 14)⟩])))))))))))
         (.cond (.t 8) (.seq (.region [.one ⟨some 2, .move (.c (.int .i64 2))⟩])
           .ret)
          .skip))))))
    (.seq (.region [.one ⟨some 2, .move (.c (.int .i64 1))⟩])
     .ret))) }
/-- slices.ContainsFunc[[][]int,[]int]: number 143 -/
def slices_ContainsFunc_ints : AFunc := { params := [.any, .any], results := [.tmp 4], body :=
  (.seq (.region [.one ⟨some 4, .move (.c (.bool false))⟩])
   (.seq (.region [.one ⟨some 5, .move (.t 0)⟩,
      .one ⟨some 6, .move (.t 1)⟩,
      .one ⟨some 7, .call false .any 179 [.t 5, .t 6]⟩,
      .one ⟨some 8, .bin .geq 0 (.t 7) (.c (.int .i64 0))⟩,
      .one ⟨some 4, .move (.t 8)⟩])
    .ret)) }
/-- gradus/kernel.number: number 144 -/
def kernel_number : AFunc := { params := [.any, .any], results := [.tmp 4], body :=
  (.seq (.region [.one ⟨some 4, .move (.c (.bool false))⟩])
   (.seq (.seq (.region [.one ⟨some 5, .move (.t 0)⟩])
     (.block 0 (.seq (.seq (.region [.one ⟨some 7, .bin .eql 0 (.t 5) (.c (.int .i64 3))⟩,
          .one ⟨some 6, .move (.t 7)⟩])
        (.cond (.t 6) .skip
         (.region [.one ⟨some 8, .bin .eql 0 (.t 5) (.c (.int .i64 8))⟩,
           .one ⟨some 6, .move (.t 8)⟩])))
       (.cond (.t 6) (.seq (.region [.one ⟨some 4, .move (.c (.bool true))⟩])
         .ret)
        (.seq (.seq (.region [.one ⟨some 10, .bin .eql 0 (.t 5) (.c (.int .i64 15))⟩,
            .one ⟨some 9, .move (.t 10)⟩])
          (.cond (.t 9) .skip
           (.region [.one ⟨some 11, .bin .eql 0 (.t 5) (.c (.int .i64 17))⟩,
             .one ⟨some 9, .move (.t 11)⟩])))
         (.cond (.t 9) (.seq (.region [.one ⟨some 12, .move (.t 1)⟩,
             .one ⟨some 13, .bin .geq 0 (.t 12) (.c (.int .i64 1))⟩,
             .one ⟨some 14, .move (.t 13)⟩,
             .grd 14 true [⟨some 15, .move (.t 1)⟩, ⟨some 16, .bin .leq 0 (.t 15) (.c (.int .i64 8))⟩],
             .one ⟨some 17, .pick (.t 14) (.t 16) (.c (.bool false))⟩,
             .one ⟨some 4, .move (.t 17)⟩])
           .ret)
          .skip))))))
    (.seq (.region [.one ⟨some 18, .move (.t 1)⟩,
       .one ⟨some 19, .bin .eql 0 (.t 18) (.c (.int .i64 0))⟩,
       .one ⟨some 4, .move (.t 19)⟩])
     .ret))) }
/-- gradus/shape.May: number 145 -/
def shape_May : AFunc := { params := [.any], results := [.tmp 2], body :=
  (.seq (.region [.one ⟨some 2, .move (.c (.bool false))⟩])
   (.seq (.seq (.region [.one ⟨some 3, .move (.t 0)⟩,
       .one ⟨some 4, .len (.t 3)⟩,
       .one ⟨some 5, .bin .lss 0 (.t 4) (.c (.int .i64 1))⟩,
       .one ⟨some 6, .move (.t 5)⟩,
       .grd 6 false [⟨some 7, .move (.t 0)⟩, ⟨some 8, .len (.t 7)⟩, ⟨some 9, .bin .gtr 0 (.t 8) (.c (.int .i64 3))⟩],
       .one ⟨some 10, .pick (.t 6) (.c (.bool true)) (.t 9)⟩,
       .one ⟨some 11, .move (.t 10)⟩,
       .grd 11 false [⟨some 12, .move (.t 0)⟩, ⟨some 13, .call false .any 75 [.t 12, .c (.fn 178 [])]⟩],
       .one ⟨some 14, .pick (.t 11) (.c (.bool true)) (.t 13)⟩])
     (.cond (.t 14) (.seq (.region [.one ⟨some 2, .move (.c (.bool false))⟩])
       .ret)
      .skip))
    (.seq (.region [.one ⟨some 15, .move (.t 0)⟩,
       .one ⟨some 16, .call false .any 106 [.t 15]⟩,
       .one ⟨some 17, .bin .leq 0 (.t 16) (.c (.int .i64 64))⟩,
       .one ⟨some 2, .move (.t 17)⟩])
     .ret))) }
/-- gradus/shape.Grows: number 146 -/
def shape_Grows_b0 : ACode :=
 (.seq (.region [.one ⟨some 15, .bin .lss 0 (.t 14) (.t 13)⟩])
  (.seq (.cond (.t 15) .skip
    (.exit 0))
   (.seq (.block 1 (.seq (.region [.one ⟨some 16, .move (.t 14)⟩,
        .one ⟨some 17, .indexAddr 1 (.t 12) (.t 14)⟩,
        .one ⟨some 18, .load 1 false .any (.t 17)⟩,
        .one ⟨some 5, .move (.t 16)⟩,
        .one ⟨some 6, .move (.t 18)⟩])
      (.seq (.region [.one ⟨some 19, .move (.t 6)⟩,
         .one ⟨some 20, .bin .neq 0 (.t 19) (.c (.int .i64 1))⟩,
         .one ⟨some 21, .move (.t 20)⟩,
         .grd 21 true [⟨some 22, .move (.t 6)⟩, ⟨some 23, .move (.t 1)⟩, ⟨some 24, .move (.t 5)⟩, ⟨some 25, .indexAddr 1 (.t 23) (.t 24)⟩, ⟨some 26, .load 1 false .any (.t 25)⟩, ⟨some 27, .bin .neq 0 (.t 22) (.t 26)⟩],
         .one ⟨some 28, .pick (.t 21) (.t 27) (.c (.bool false))⟩])
       (.cond (.t 28) (.seq (.region [.one ⟨some 4, .move (.c (.bool false))⟩])
         .ret)
        .skip))))
    (.region [.one ⟨some 29, .bin .add 0 (.t 14) (.c (.int .i64 1))⟩,
      .one ⟨some 14, .move (.t 29)⟩]))))
def shape_Grows_l0 : ACode :=
 (.loop [(1, .any), (12, .any), (13, .any), (14, .any)] [(0, [])] [(4, .any)] shape_Grows_b0)
def shape_Grows : AFunc := { params := [.any, .any], results := [.tmp 4], body :=
  (.seq (.region [.one ⟨some 4, .move (.c (.bool false))⟩])
   (.seq (.seq (.region [.one ⟨some 7, .move (.t 0)⟩,
       .one ⟨some 8, .len (.t 7)⟩,
       .one ⟨some 9, .move (.t 1)⟩,
       .one ⟨some 10, .len (.t 9)⟩,
       .one ⟨some 11, .bin .neq 0 (.t 8) (.t 10)⟩])
     (.cond (.t 11) (.seq (.region [.one ⟨some 4, .move (.c (.bool false))⟩])
       .ret)
      .skip))
    (.seq (.seq (.region [.one ⟨some 12, .move (.t 0)⟩,
        .one ⟨some 13, .len (.t 12)⟩,
        .one ⟨some 14, .move (.c (.int .i64 0))⟩])
      (.block 0 shape_Grows_l0))
     (.seq (.region [.one ⟨some 4, .move (.c (.bool true))⟩])
      .ret)))) }
/-- gradus/gate.Less: number 147 -/
def gate_Less : AFunc := { params := [.any, .any], results := [.tmp 4, .tmp 5], body :=
  (.seq (.region [.one ⟨some 4, .move (.c (.nil))⟩,
     .one ⟨some 5, .move (.c (.bool false))⟩])
   (.seq (.region [.one ⟨some 7, .move (.t 0)⟩,
      .one ⟨some 8, .call false .any 112 [.t 7]⟩,
      .one ⟨some 0, .move (.t 8)⟩])
    (.seq (.region [.one ⟨some 9, .move (.t 0)⟩,
       .one ⟨some 10, .len (.t 9)⟩,
       .one ⟨some 11, .bin .sub 0 (.t 10) (.c (.int .i64 1))⟩,
       .one ⟨some 6, .move (.t 11)⟩])
     (.seq (.seq (.region [.one ⟨some 12, .move (.t 0)⟩,
         .one ⟨some 13, .move (.t 6)⟩,
         .one ⟨some 14, .indexAddr 1 (.t 12) (.t 13)⟩,
         .one ⟨some 15, .load 1 false .any (.t 14)⟩,
         .one ⟨some 16, .move (.t 1)⟩,
         .one ⟨some 17, .bin .rem 0 (.t 15) (.t 16)⟩,
         .one ⟨some 18, .bin .neq 0 (.t 17) (.c (.int .i64 0))⟩])
       (.cond (.t 18) (.seq (.region [.one ⟨some 4, .move (.c (.nil))⟩,
           .one ⟨some 5, .move (.c (.bool false))⟩])
         .ret)
        .skip))
      (.seq (.region [.one ⟨some 19, .move (.t 0)⟩,
         .one ⟨some 20, .move (.t 6)⟩,
         .one ⟨some 21, .indexAddr 1 (.t 19) (.t 20)⟩,
         .one ⟨some 22, .load 1 false .any (.t 21)⟩,
         .one ⟨some 23, .move (.t 1)⟩,
         .one ⟨some 24, .bin .quo 0 (.t 22) (.t 23)⟩,
         .one ⟨some 25, .indexAddr 1 (.t 19) (.t 20)⟩,
         .one ⟨none, .store 1 (.t 25) (.t 24)⟩])
       (.seq (.region [.one ⟨some 26, .move (.t 0)⟩,
          .one ⟨some 4, .move (.t 26)⟩,
          .one ⟨some 5, .move (.c (.bool true))⟩])
        .ret)))))) }
/-- gradus/word.letter: number 148 -/
def word_letter : AFunc := { params := [.any], results := [.tmp 2], body :=
  (.seq (.region [.one ⟨some 2, .move (.c (.bool false))⟩])
   (.seq (.region [.one ⟨some 3, .move (.t 0)⟩,
      .one ⟨some 4, .bin .geq 0 (.t 3) (.c (.int .i32 97))⟩,
      .one ⟨some 5, .move (.t 4)⟩,
      .grd 5 true [⟨some 6, .move (.t 0)⟩, ⟨some 7, .bin .leq 0 (.t 6) (.c (.int .i32 122))⟩],
      .one ⟨some 8, .pick (.t 5) (.t 7) (.c (.bool false))⟩,
      .one ⟨some 9, .move (.t 8)⟩,
      .grd 9 false [⟨some 10, .move (.t 0)⟩, ⟨some 11, .bin .geq 0 (.t 10) (.c (.int .i32 945))⟩, ⟨some 12, .move (.t 11)⟩],
      .grd 12 true [⟨some 13, .move (.t 0)⟩, ⟨some 14, .bin .leq 0 (.t 13) (.c (.int .i32 969))⟩],
      .grd 9 false [⟨some 15, .pick (.t 12) (.t 14) (.c (.bool false))⟩],
      .one ⟨some 16, .pick (.t 9) (.c (.bool true)) (.t 15)⟩,
      .one ⟨some 2, .move (.t 16)⟩])
    .ret)) }
/-- gradus/word.digit: number 149 -/
def word_digit : AFunc := { params := [.any], results := [.tmp 2], body :=
  (.seq (.region [.one ⟨some 2, .move (.c (.bool false))⟩])
   (.seq (.region [.one ⟨some 3, .move (.t 0)⟩,
      .one ⟨some 4, .bin .geq 0 (.t 3) (.c (.int .i32 48))⟩,
      .one ⟨some 5, .move (.t 4)⟩,
      .grd 5 true [⟨some 6, .move (.t 0)⟩, ⟨some 7, .bin .leq 0 (.t 6) (.c (.int .i32 57))⟩],
      .one ⟨some 8, .pick (.t 5) (.t 7) (.c (.bool false))⟩,
      .one ⟨some 2, .move (.t 8)⟩])
    .ret)) }
/-- slices.IndexFunc[[]gradus/api.Tensor,gradus/api.Tensor]: number 150 -/
def slices_IndexFunc_Tensor_b0 : ACode :=
 (.seq (.region [.one ⟨some 9, .bin .lss 0 (.t 8) (.t 7)⟩])
  (.seq (.cond (.t 9) .skip
    (.exit 0))
   (.seq (.block 1 (.seq (.region [.one ⟨some 10, .move (.t 8)⟩,
        .one ⟨some 5, .move (.t 10)⟩])
      (.seq (.region [.one ⟨some 11, .move (.t 1)⟩,
         .one ⟨some 12, .move (.t 0)⟩,
         .one ⟨some 13, .move (.t 5)⟩,
         .one ⟨some 14, .indexAddr 2 (.t 12) (.t 13)⟩,
         .one ⟨some 15, .load 2 true .any (.t 14)⟩,
         .one ⟨some 16, .callv false .any (.t 11) [.t 15]⟩])
       (.cond (.t 16) (.seq (.region [.one ⟨some 17, .move (.t 5)⟩,
           .one ⟨some 4, .move (.t 17)⟩])
         .ret)
        .skip))))
    (.region [.one ⟨some 18, .bin .add 0 (.t 8) (.c (.int .i64 1))⟩,
      .one ⟨some 8, .move (.t 18)⟩]))))
def slices_IndexFunc_Tensor_l0 : ACode :=
 (.loop [(0, .any), (1, .any), (7, .any), (8, .any)] [(0, [])] [(4, .any)] slices_IndexFunc_Tensor_b0)
def slices_IndexFunc_Tensor : AFunc := { params := [.any, .any], results := [.tmp 4], body :=
  (.seq (.region [.one ⟨some 4, .move (.c (.int .i64 0))⟩])
   (.seq (.seq (.region [.one ⟨some 6, .move (.t 0)⟩,
       .one ⟨some 7, .len (.t 6)⟩,
       .one ⟨some 8, .move (.c (.int .i64 0))⟩])
     (.block 0 slices_IndexFunc_Tensor_l0))
    (.seq (.region [.one ⟨some 4, .move (.c (.int .i64 (-1)))⟩])
     .ret))) }
/-- gradus/shape.May$1: number 178 -/
def shape_May_1 : AFunc := { params := [.any], results := [.tmp 2], body :=
  (.seq (.region [.one ⟨some 2, .move (.c (.bool false))⟩])
   (.seq (.region [.one ⟨some 3, .move (.t 0)⟩,
      .one ⟨some 4, .bin .lss 0 (.t 3) (.c (.int .i64 1))⟩,
      .one ⟨some 5, .move (.t 4)⟩,
      .grd 5 false [⟨some 6, .move (.t 0)⟩, ⟨some 7, .bin .gtr 0 (.t 6) (.c (.int .i64 8))⟩],
      .one ⟨some 8, .pick (.t 5) (.c (.bool true)) (.t 7)⟩,
      .one ⟨some 2, .move (.t 8)⟩])
    .ret)) }
/-- slices.IndexFunc[[][]int,[]int]: number 179 -/
def slices_IndexFunc_ints_b0 : ACode :=
 (.seq (.region [.one ⟨some 9, .bin .lss 0 (.t 8) (.t 7)⟩])
  (.seq (.cond (.t 9) .skip
    (.exit 0))
   (.seq (.block 1 (.seq (.region [.one ⟨some 10, .move (.t 8)⟩,
        .one ⟨some 5, .move (.t 10)⟩])
      (.seq (.region [.one ⟨some 11, .move (.t 1)⟩,
         .one ⟨some 12, .move (.t 0)⟩,
         .one ⟨some 13, .move (.t 5)⟩,
         .one ⟨some 14, .indexAddr 1 (.t 12) (.t 13)⟩,
         .one ⟨some 15, .load 1 false .any (.t 14)⟩,
         .one ⟨some 16, .callv false .any (.t 11) [.t 15]⟩])
       (.cond (.t 16) (.seq (.region [.one ⟨some 17, .move (.t 5)⟩,
           .one ⟨some 4, .move (.t 17)⟩])
         .ret)
        .skip))))
    (.region [.one ⟨some 18, .bin .add 0 (.t 8) (.c (.int .i64 1))⟩,
      .one ⟨some 8, .move (.t 18)⟩]))))
def slices_IndexFunc_ints_l0 : ACode :=
 (.loop [(0, .any), (1, .any), (7, .any), (8, .any)] [(0, [])] [(4, .any)] slices_IndexFunc_ints_b0)
def slices_IndexFunc_ints : AFunc := { params := [.any, .any], results := [.tmp 4], body :=
  (.seq (.region [.one ⟨some 4, .move (.c (.int .i64 0))⟩])
   (.seq (.seq (.region [.one ⟨some 6, .move (.t 0)⟩,
       .one ⟨some 7, .len (.t 6)⟩,
       .one ⟨some 8, .move (.c (.int .i64 0))⟩])
     (.block 0 slices_IndexFunc_ints_l0))
    (.seq (.region [.one ⟨some 4, .move (.c (.int .i64 (-1)))⟩])
     .ret))) }
end C
end Go.AM
