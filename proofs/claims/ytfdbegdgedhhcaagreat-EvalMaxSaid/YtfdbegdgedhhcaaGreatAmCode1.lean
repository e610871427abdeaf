/- PRINTED by wip/tools/gen.py out of the program's form in the model: its functions as the abstract machine's code. -/
import Derived.Test.YtfdbegdgedhhcaaGreatAmCore
set_option linter.all false
namespace Go.AM
namespace C
set_option maxRecDepth 100000
/-- gradus/kernel.dims: number 128 -/
def kernel_dims : AFunc := { params := [.any, .any, .any, .any], results := [.tmp 8], body :=
  (.seq (.region [.one ⟨some 8, .move (.c (.nil))⟩])
   (.seq (.region [.one ⟨some 9, .move (.c (.bool true))⟩])
    (.seq (.seq (.region [.one ⟨some 10, .move (.t 0)⟩])
      (.block 0 (.seq (.seq (.region [.one ⟨some 15, .bin .eql 0 (.t 10) (.c (.int .i64 1))⟩,
           .one ⟨some 14, .move (.t 15)⟩])
         (.cond (.t 14) .skip
          (.seq (.region [.one ⟨some 16, .bin .eql 0 (.t 10) (.c (.int .i64 2))⟩,
             .one ⟨some 14, .move (.t 16)⟩])
           (.cond (.t 14) .skip
            (.region [.one ⟨some 17, .bin .eql 0 (.t 10) (.c (.int .i64 3))⟩,
              .one ⟨some 14, .move (.t 17)⟩])))))
        (.cond (.t 14) .skip
         (.seq (.seq (.region [.one ⟨some 19, .bin .eql 0 (.t 10) (.c (.int .i64 4))⟩,
             .one ⟨some 18, .move (.t 19)⟩])
           (.cond (.t 18) .skip
            (.seq (.region [.one ⟨some 20, .bin .eql 0 (.t 10) (.c (.int .i64 5))⟩,
               .one ⟨some 18, .move (.t 20)⟩])
             (.cond (.t 18) .skip
              (.seq (.region [.one ⟨some 21, .bin .eql 0 (.t 10) (.c (.int .i64 6))⟩,
                 .one ⟨some 18, .move (.t 21)⟩])
               (.cond (.t 18) .skip
                (.region [.one ⟨some 22, .bin .eql 0 (.t 10) (.c (.int .i64 16))⟩,
                  .one ⟨some 18, .move (.t 22)⟩])))))))
          (.cond (.t 18) (.region [.one ⟨some 23, .move (.t 3)⟩,
             .one ⟨some 24, .indexAddr 1 (.t 23) (.c (.int .i64 0))⟩,
             .one ⟨some 25, .load 1 false .any (.t 24)⟩,
             .one ⟨some 26, .move (.t 3)⟩,
             .one ⟨some 27, .indexAddr 1 (.t 26) (.c (.int .i64 0))⟩,
             .one ⟨some 28, .load 1 false .any (.t 27)⟩,
             .one ⟨some 29, .move (.t 3)⟩,
             .one ⟨some 30, .indexAddr 1 (.t 29) (.c (.int .i64 1))⟩,
             .one ⟨some 31, .load 1 false .any (.t 30)⟩,
             .one ⟨some 32, .call true .any 98 [.t 28, .t 31]⟩,
             .one ⟨some 2, .move (.t 25)⟩,
             .one ⟨some 9, .move (.t 32)⟩])
           (.seq (.region [.one ⟨some 34, .bin .eql 0 (.t 10) (.c (.int .i64 9))⟩,
              .one ⟨some 33, .move (.t 34)⟩])
            (.cond (.t 33) (.seq (.region [.one ⟨some 35, .move (.t 3)⟩,
                .one ⟨some 36, .indexAddr 1 (.t 35) (.c (.int .i64 0))⟩,
                .one ⟨some 37, .load 1 false .any (.t 36)⟩,
                .one ⟨some 38, .len (.t 37)⟩,
                .one ⟨some 39, .bin .eql 0 (.t 38) (.c (.int .i64 2))⟩,
                .one ⟨some 40, .move (.t 39)⟩,
                .grd 40 true [⟨some 41, .move (.t 3)⟩, ⟨some 42, .indexAddr 1 (.t 41) (.c (.int .i64 1))⟩, ⟨some 43, .load 1 false .any (.t 42)⟩, ⟨some 44, .len (.t 43)⟩, ⟨some 45, .bin .eql 0 (.t 44) (.c (.int .i64 2))⟩],
                .one ⟨some 46, .pick (.t 40) (.t 45) (.c (.bool false))⟩,
                .one ⟨some 47, .move (.t 46)⟩,
                .grd 47 true [⟨some 48, .move (.t 3)⟩, ⟨some 49, .indexAddr 1 (.t 48) (.c (.int .i64 0))⟩, ⟨some 50, .load 1 false .any (.t 49)⟩, ⟨some 51, .indexAddr 1 (.t 50) (.c (.int .i64 1))⟩, ⟨some 52, .load 1 false .any (.t 51)⟩, ⟨some 53, .move (.t 3)⟩, ⟨some 54, .indexAddr 1 (.t 53) (.c (.int .i64 1))⟩, ⟨some 55, .load 1 false .any (.t 54)⟩, ⟨some 56, .indexAddr 1 (.t 55) (.c (.int .i64 0))⟩, ⟨some 57, .load 1 false .any (.t 56)⟩, ⟨some 58, .bin .eql 0 (.t 52) (.t 57)⟩],
                .one ⟨some 59, .pick (.t 47) (.t 58) (.c (.bool false))⟩,
                .one ⟨some 9, .move (.t 59)⟩])
              (.seq (.seq (.region [.one ⟨some 60, .move (.t 9)⟩])
                (.cond (.t 60) (.region [.one ⟨some 61, .move (.t 3)⟩,
                   .one ⟨some 62, .indexAddr 1 (.t 61) (.c (.int .i64 0))⟩,
                   .one ⟨some 63, .load 1 false .any (.t 62)⟩,
                   .one ⟨some 64, .indexAddr 1 (.t 63) (.c (.int .i64 0))⟩,
                   .one ⟨some 65, .load 1 false .any (.t 64)⟩,
                   .one ⟨some 66, .move (.t 3)⟩,
                   .one ⟨some 67, .indexAddr 1 (.t 66) (.c (.int .i64 1))⟩,
                   .one ⟨some 68, .load 1 false .any (.t 67)⟩,
                   .one ⟨some 69, .indexAddr 1 (.t 68) (.c (.int .i64 1))⟩,
                   .one ⟨some 70, .load 1 false .any (.t 69)⟩,
                   .one ⟨some 71, .buildSlice 1 2 [.int .i64 0] [(0, .t 65), (1, .t 70)]⟩,
                   .one ⟨some 2, .move (.t 71)⟩])
                 .skip))
               (.region [.one ⟨some 72, .move (.t 9)⟩,
                 .one ⟨some 73, .move (.t 72)⟩,
                 .grd 73 true [⟨some 74, .move (.t 2)⟩, ⟨some 75, .call false .any 145 [.t 74]⟩],
                 .one ⟨some 76, .pick (.t 73) (.t 75) (.c (.bool false))⟩,
                 .one ⟨some 9, .move (.t 76)⟩])))
             (.seq (.region [.one ⟨some 78, .bin .eql 0 (.t 10) (.c (.int .i64 10))⟩,
                .one ⟨some 77, .move (.t 78)⟩])
              (.cond (.t 77) (.seq (.region [.one ⟨some 79, .move (.t 3)⟩,
                  .one ⟨some 80, .indexAddr 1 (.t 79) (.c (.int .i64 0))⟩,
                  .one ⟨some 81, .load 1 false .any (.t 80)⟩,
                  .one ⟨some 82, .len (.t 81)⟩,
                  .one ⟨some 83, .bin .eql 0 (.t 82) (.c (.int .i64 2))⟩,
                  .one ⟨some 9, .move (.t 83)⟩])
                (.seq (.region [.one ⟨some 84, .move (.t 9)⟩])
                 (.cond (.t 84) (.region [.one ⟨some 85, .move (.t 3)⟩,
                    .one ⟨some 86, .indexAddr 1 (.t 85) (.c (.int .i64 0))⟩,
                    .one ⟨some 87, .load 1 false .any (.t 86)⟩,
                    .one ⟨some 88, .indexAddr 1 (.t 87) (.c (.int .i64 1))⟩,
                    .one ⟨some 89, .load 1 false .any (.t 88)⟩,
                    .one ⟨some 90, .move (.t 3)⟩,
                    .one ⟨some 91, .indexAddr 1 (.t 90) (.c (.int .i64 0))⟩,
                    .one ⟨some 92, .load 1 false .any (.t 91)⟩,
                    .one ⟨some 93, .indexAddr 1 (.t 92) (.c (.int .i64 0))⟩,
                    .one ⟨some 94, .load 1 false .any (.t 93)⟩,
                    .one ⟨some 95, .buildSlice 1 2 [.int .i64 0] [(0, .t 89), (1, .t 94)]⟩,
                    .one ⟨some 2, .move (.t 95)⟩])
                  .skip)))
               (.seq (.region [.one ⟨some 97, .bin .eql 0 (.t 10) (.c (.int .i64 11))⟩,
                  .one ⟨some 96, .move (.t 97)⟩])
                (.cond (.t 96) (.region [.one ⟨some 98, .move (.t 2)⟩,
                   .one ⟨some 99, .call true .any 106 [.t 98]⟩,
                   .one ⟨some 100, .move (.t 3)⟩,
                   .one ⟨some 101, .indexAddr 1 (.t 100) (.c (.int .i64 0))⟩,
                   .one ⟨some 102, .load 1 false .any (.t 101)⟩,
                   .one ⟨some 103, .call true .any 106 [.t 102]⟩,
                   .one ⟨some 104, .bin .eql 0 (.t 99) (.t 103)⟩,
                   .one ⟨some 9, .move (.t 104)⟩])
                 (.seq (.region [.one ⟨some 106, .bin .eql 0 (.t 10) (.c (.int .i64 12))⟩,
                    .one ⟨some 105, .move (.t 106)⟩])
                  (.cond (.t 105) (.region [.one ⟨some 107, .move (.t 3)⟩,
                     .one ⟨some 108, .indexAddr 1 (.t 107) (.c (.int .i64 0))⟩,
                     .one ⟨some 109, .load 1 false .any (.t 108)⟩,
                     .one ⟨some 110, .move (.t 2)⟩,
                     .one ⟨some 111, .call false .any 146 [.t 109, .t 110]⟩,
                     .one ⟨some 9, .move (.t 111)⟩])
                   (.seq (.region [.one ⟨some 113, .bin .eql 0 (.t 10) (.c (.int .i64 13))⟩,
                      .one ⟨some 112, .move (.t 113)⟩])
                    (.cond (.t 112) (.region [.one ⟨some 114, .move (.t 2)⟩,
                       .one ⟨some 115, .move (.t 3)⟩,
                       .one ⟨some 116, .indexAddr 1 (.t 115) (.c (.int .i64 0))⟩,
                       .one ⟨some 117, .load 1 false .any (.t 116)⟩,
                       .one ⟨some 118, .call false .any 146 [.t 114, .t 117]⟩,
                       .one ⟨some 9, .move (.t 118)⟩])
                     (.seq (.region [.one ⟨some 120, .bin .eql 0 (.t 10) (.c (.int .i64 15))⟩,
                        .one ⟨some 119, .move (.t 120)⟩])
                      (.cond (.t 119) (.region [.one ⟨some 122, .move (.t 3)⟩,
                         .one ⟨some 123, .indexAddr 1 (.t 122) (.c (.int .i64 0))⟩,
                         .one ⟨some 124, .load 1 false .any (.t 123)⟩,
                         .one ⟨some 125, .move (.t 1)⟩,
                         .one ⟨some 126, .call false .any 147 [.t 124, .t 125]⟩,
                         .one ⟨some 121, .move (.t 126)⟩,
                         .one ⟨some 127, .extract (.t 121) 0⟩,
                         .one ⟨some 128, .extract (.t 121) 1⟩,
                         .one ⟨some 2, .move (.t 127)⟩,
                         .one ⟨some 9, .move (.t 128)⟩])
                       (.seq (.region [.one ⟨some 130, .bin .eql 0 (.t 10) (.c (.int .i64 17))⟩,
                          .one ⟨some 129, .move (.t 130)⟩])
                        (.cond (.t 129) (.seq (.region [.one ⟨some 132, .move (.t 3)⟩,
                            .one ⟨some 133, .indexAddr 1 (.t 132) (.c (.int .i64 0))⟩,
                            .one ⟨some 134, .load 1 false .any (.t 133)⟩,
                            .one ⟨some 135, .move (.t 1)⟩,
                            .one ⟨some 136, .call false .any 147 [.t 134, .t 135]⟩,
                            .one ⟨some 131, .move (.t 136)⟩,
                            .one ⟨some 137, .extract (.t 131) 0⟩,
                            .one ⟨some 138, .extract (.t 131) 1⟩,
                            .one ⟨some 2, .move (.t 137)⟩,
                            .one ⟨some 9, .move (.t 138)⟩])
                          (.seq (.region [.one ⟨some 139, .move (.t 9)⟩,
                             .one ⟨some 140, .move (.t 139)⟩,
                             .grd 140 true [⟨some 141, .move (.t 2)⟩, ⟨some 142, .move (.t 3)⟩, ⟨some 143, .indexAddr 1 (.t 142) (.c (.int .i64 1))⟩, ⟨some 144, .load 1 false .any (.t 143)⟩, ⟨some 145, .call false .any 98 [.t 141, .t 144]⟩],
                             .one ⟨some 146, .pick (.t 140) (.t 145) (.c (.bool false))⟩,
                             .one ⟨some 9, .move (.t 146)⟩])
                           (.region [.one ⟨some 147, .move (.t 3)⟩,
                             .one ⟨some 148, .indexAddr 1 (.t 147) (.c (.int .i64 0))⟩,
                             .one ⟨some 149, .load 1 false .any (.t 148)⟩,
                             .one ⟨some 2, .move (.t 149)⟩])))
                         (.region [.one ⟨some 11, .move (.t 3)⟩,
                           .one ⟨some 12, .indexAddr 1 (.t 11) (.c (.int .i64 0))⟩,
                           .one ⟨some 13, .load 1 false .any (.t 12)⟩,
                           .one ⟨some 2, .move (.t 13)⟩])))))))))))))))))))))
     (.seq (.seq (.region [.one ⟨some 150, .move (.t 9)⟩,
         .one ⟨some 151, .un .not (.t 150)⟩])
       (.cond (.t 151) (.seq (.region [.one ⟨some 8, .move (.c (.nil))⟩])
         .ret)
        .skip))
      (.seq (.region [.one ⟨some 152, .move (.t 2)⟩,
         .one ⟨some 153, .call false .any 112 [.t 152]⟩,
         .one ⟨some 8, .move (.t 153)⟩])
       .ret))))) }
/-- gradus/word.IsName: number 129 -/
def word_IsName_b0 : ACode :=
 (.seq (.region [.one ⟨some 8, .next (.t 7)⟩,
    .one ⟨some 9, .extract (.t 8) 0⟩])
  (.seq (.cond (.t 9) .skip
    (.exit 0))
   (.block 1 (.seq (.region [.one ⟨some 10, .extract (.t 8) 2⟩,
       .one ⟨some 5, .move (.t 10)⟩])
     (.seq (.seq (.region [.one ⟨some 11, .move (.t 5)⟩,
         .one ⟨some 12, .call false .any 148 [.t 11]⟩,
         .one ⟨some 13, .un .not (.t 12)⟩,
         .one ⟨some 14, .move (.t 13)⟩,
         .grd 14 true [⟨some 15, .move (.t 3)⟩, ⟨some 16, .bin .eql 0 (.t 15) (.c (.int .i64 0))⟩, ⟨some 17, .move (.t 16)⟩],
         .grd 17 false [⟨some 18, .move (.t 5)⟩, ⟨some 19, .call false .any 149 [.t 18]⟩, ⟨some 20, .un .not (.t 19)⟩],
         .grd 14 true [⟨some 21, .pick (.t 17) (.c (.bool true)) (.t 20)⟩],
         .one ⟨some 22, .pick (.t 14) (.t 21) (.c (.bool false))⟩])
       (.cond (.t 22) (.seq (.region [.one ⟨some 2, .move (.c (.bool false))⟩])
         .ret)
        .skip))
      (.region [.one ⟨some 23, .move (.t 3)⟩,
        .one ⟨some 24, .bin .add 0 (.t 23) (.c (.int .i64 1))⟩,
        .one ⟨some 3, .move (.t 24)⟩]))))))
def word_IsName_l0 : ACode :=
 (.loop [(3, .any), (7, .any)] [(0, [(3, .any)])] [(2, .any)] word_IsName_b0)
def word_IsName : AFunc := { params := [.any], results := [.tmp 2], body :=
  (.seq (.region [.one ⟨some 2, .move (.c (.bool false))⟩])
   (.seq (.region [.one ⟨some 3, .move (.c (.int .i64 0))⟩])
    (.seq (.seq (.region [.one ⟨some 6, .move (.t 0)⟩,
        .one ⟨some 7, .range (.t 6)⟩])
      (.block 0 word_IsName_l0))
     (.seq (.region [.one ⟨some 25, .move (.t 3)⟩,
        .one ⟨some 26, .bin .geq 0 (.t 25) (.c (.int .i64 1))⟩,
        .one ⟨some 27, .move (.t 26)⟩,
        .grd 27 true [⟨some 28, .move (.t 3)⟩, ⟨some 29, .bin .leq 0 (.t 28) (.c (.int .i64 6))⟩],
        .one ⟨some 30, .pick (.t 27) (.t 29) (.c (.bool false))⟩,
        .one ⟨some 2, .move (.t 30)⟩])
      .ret)))) }
/-- slices.IndexFunc[[]gradus/api.Node,gradus/api.Node]: number 130 -/
def slices_IndexFunc_Node_b0 : ACode :=
 (.seq (.region [.one ⟨some 9, .bin .lss 0 (.t 8) (.t 7)⟩])
  (.seq (.cond (.t 9) .skip
    (.exit 0))
   (.seq (.block 1 (.seq (.region [.one ⟨some 10, .move (.t 8)⟩,
        .one ⟨some 5, .move (.t 10)⟩])
      (.seq (.region [.one ⟨some 11, .move (.t 1)⟩,
         .one ⟨some 12, .move (.t 0)⟩,
         .one ⟨some 13, .move (.t 5)⟩,
         .one ⟨some 14, .indexAddr 5 (.t 12) (.t 13)⟩,
         .one ⟨some 15, .load 5 true .any (.t 14)⟩,
         .one ⟨some 16, .callv false .any (.t 11) [.t 15]⟩])
       (.cond (.t 16) (.seq (.region [.one ⟨some 17, .move (.t 5)⟩,
           .one ⟨some 4, .move (.t 17)⟩])
         .ret)
        .skip))))
    (.region [.one ⟨some 18, .bin .add 0 (.t 8) (.c (.int .i64 1))⟩,
      .one ⟨some 8, .move (.t 18)⟩]))))
def slices_IndexFunc_Node_l0 : ACode :=
 (.loop [(0, .any), (1, .any), (7, .any), (8, .any)] [(0, [])] [(4, .any)] slices_IndexFunc_Node_b0)
def slices_IndexFunc_Node : AFunc := { params := [.any, .any], results := [.tmp 4], body :=
  (.seq (.region [.one ⟨some 4, .move (.c (.int .i64 0))⟩])
   (.seq (.seq (.region [.one ⟨some 6, .move (.t 0)⟩,
       .one ⟨some 7, .len (.t 6)⟩,
       .one ⟨some 8, .move (.c (.int .i64 0))⟩])
     (.block 0 slices_IndexFunc_Node_l0))
    (.seq (.region [.one ⟨some 4, .move (.c (.int .i64 (-1)))⟩])
     .ret))) }
/-- slices.ContainsFunc[[]gradus/api.Tensor,gradus/api.Tensor]: number 133 -/
def slices_ContainsFunc_Tensor : AFunc := { params := [.any, .any], results := [.tmp 4], body :=
  (.seq (.region [.one ⟨some 4, .move (.c (.bool false))⟩])
   (.seq (.region [.one ⟨some 5, .move (.t 0)⟩,
      .one ⟨some 6, .move (.t 1)⟩,
      .one ⟨some 7, .call false .any 150 [.t 5, .t 6]⟩,
      .one ⟨some 8, .bin .geq 0 (.t 7) (.c (.int .i64 0))⟩,
      .one ⟨some 4, .move (.t 8)⟩])
    .ret)) }
/-- gradus/shape.All$1: number 134 -/
def shape_All_1 : AFunc := { params := [.any], results := [.tmp 2], body :=
  (.seq (.region [.one ⟨some 1, .box (.t 0)⟩,
     .one ⟨some 2, .move (.c (.bool false))⟩])
   (.seq (.region [.one ⟨some 3, .load 2 true .any (.t 1)⟩,
      .one ⟨some 4, .call false .any 151 [.t 3]⟩,
      .one ⟨some 5, .un .not (.t 4)⟩,
      .one ⟨some 2, .move (.t 5)⟩])
    .ret)) }
/-- gradus/eval.Own: number 135 -/
def eval_Own : AFunc := { params := [.any], results := [.cell 2 2 true], body :=
  (.seq (.region [.one ⟨some 1, .box (.t 0)⟩,
     .one ⟨some 2, .alloc [.nil, .nil]⟩])
   (.seq (.region [.one ⟨some 3, .fieldAddr 0 (.t 1)⟩,
      .one ⟨some 4, .load 1 false .any (.t 3)⟩,
      .one ⟨some 5, .call true .any 112 [.t 4]⟩,
      .one ⟨some 6, .fieldAddr 1 (.t 1)⟩,
      .one ⟨some 7, .load 1 false .any (.t 6)⟩,
      .one ⟨some 8, .call true .any 112 [.t 7]⟩,
      .one ⟨some 9, .build [.nil, .nil] [(0, 1, .t 5), (1, 1, .t 8)]⟩,
      .one ⟨none, .store 2 (.t 2) (.t 9)⟩])
    .ret)) }
/-- gradus/shape.Fill: number 136 -/
def shape_Fill_b0 : ACode :=
 (.seq (.region [.one ⟨some 18, .bin .lss 0 (.t 17) (.t 16)⟩])
  (.seq (.cond (.t 18) .skip
    (.exit 0))
   (.seq (.block 1 (.seq (.region [.one ⟨some 19, .move (.t 17)⟩,
        .one ⟨some 7, .move (.t 19)⟩])
      (.region [.one ⟨some 20, .fieldAddr 1 (.t 6)⟩,
        .one ⟨some 21, .load 1 false .any (.t 20)⟩,
        .one ⟨some 22, .move (.t 7)⟩,
        .one ⟨some 23, .move (.t 1)⟩,
        .one ⟨some 24, .indexAddr 1 (.t 21) (.t 22)⟩,
        .one ⟨none, .store 1 (.t 24) (.t 23)⟩])))
    (.region [.one ⟨some 25, .bin .add 0 (.t 17) (.c (.int .i64 1))⟩,
      .one ⟨some 17, .move (.t 25)⟩]))))
def shape_Fill_l0 : ACode :=
 (.loop [(1, .any), (4, .any), (6, .any), (16, .any), (17, .any)] [(0, [(4, .any), (6, .any)])] [] shape_Fill_b0)
def shape_Fill : AFunc := { params := [.any, .any], results := [.cell 4 2 true, .tmp 5], body :=
  (.seq (.region [.one ⟨some 4, .alloc [.nil, .nil]⟩,
     .one ⟨some 5, .move (.c (.int .i64 0))⟩])
   (.seq (.seq (.region [.one ⟨some 8, .move (.t 0)⟩,
       .one ⟨some 9, .call false .any 145 [.t 8]⟩,
       .one ⟨some 10, .un .not (.t 9)⟩])
     (.cond (.t 10) (.seq (.region [.one ⟨some 11, .build [.nil, .nil] []⟩,
         .one ⟨none, .store 2 (.t 4) (.t 11)⟩,
         .one ⟨some 5, .move (.c (.int .i64 1))⟩])
       .ret)
      .skip))
    (.seq (.region [.one ⟨some 12, .move (.t 0)⟩,
       .one ⟨some 13, .call false .any 152 [.t 12]⟩,
       .one ⟨some 6, .alloc [.nil, .nil]⟩,
       .one ⟨none, .store 2 (.t 6) (.t 13)⟩])
     (.seq (.seq (.region [.one ⟨some 14, .fieldAddr 1 (.t 6)⟩,
         .one ⟨some 15, .load 1 false .any (.t 14)⟩,
         .one ⟨some 16, .len (.t 15)⟩,
         .one ⟨some 17, .move (.c (.int .i64 0))⟩])
       (.block 0 shape_Fill_l0))
      (.seq (.region [.one ⟨some 26, .load 2 true .any (.t 6)⟩,
         .one ⟨none, .store 2 (.t 4) (.t 26)⟩,
         .one ⟨some 5, .move (.c (.int .i64 0))⟩])
       .ret))))) }
/-- gradus/kernel.double: number 137 -/
def kernel_double : AFunc := { params := [.any, .any, .any, .any], results := [.cell 8 2 true, .tmp 9], body :=
  (.seq (.region [.one ⟨some 6, .box (.t 2)⟩,
     .one ⟨some 7, .box (.t 3)⟩,
     .one ⟨some 8, .alloc [.nil, .nil]⟩,
     .one ⟨some 9, .move (.c (.int .i64 0))⟩])
   (.seq (.seq (.region [.one ⟨some 10, .move (.t 0)⟩])
     (.block 0 (.seq (.region [.one ⟨some 12, .bin .eql 0 (.t 10) (.c (.int .i64 4))⟩,
         .one ⟨some 11, .move (.t 12)⟩])
       (.cond (.t 11) (.seq (.region [.one ⟨some 13, .load 2 true .any (.t 6)⟩,
           .one ⟨some 14, .load 2 true .any (.t 7)⟩,
           .one ⟨some 15, .call false .any 153 [.t 13, .t 14]⟩,
           .one ⟨some 16, .extract (.t 15) 0⟩,
           .one ⟨some 17, .extract (.t 15) 1⟩,
           .one ⟨none, .store 2 (.t 8) (.t 16)⟩,
           .one ⟨some 9, .move (.t 17)⟩])
         .ret)
        (.seq (.region [.one ⟨some 19, .bin .eql 0 (.t 10) (.c (.int .i64 5))⟩,
           .one ⟨some 18, .move (.t 19)⟩])
         (.cond (.t 18) (.seq (.region [.one ⟨some 20, .load 2 true .any (.t 6)⟩,
             .one ⟨some 21, .load 2 true .any (.t 7)⟩,
             .one ⟨some 22, .call false .any 154 [.t 20, .t 21]⟩,
             .one ⟨some 23, .extract (.t 22) 0⟩,
             .one ⟨some 24, .extract (.t 22) 1⟩,
             .one ⟨none, .store 2 (.t 8) (.t 23)⟩,
             .one ⟨some 9, .move (.t 24)⟩])
           .ret)
          (.seq (.region [.one ⟨some 26, .bin .eql 0 (.t 10) (.c (.int .i64 6))⟩,
             .one ⟨some 25, .move (.t 26)⟩])
           (.cond (.t 25) (.seq (.region [.one ⟨some 27, .load 2 true .any (.t 6)⟩,
               .one ⟨some 28, .load 2 true .any (.t 7)⟩,
               .one ⟨some 29, .call false .any 155 [.t 27, .t 28]⟩,
               .one ⟨some 30, .extract (.t 29) 0⟩,
               .one ⟨some 31, .extract (.t 29) 1⟩,
               .one ⟨none, .store 2 (.t 8) (.t 30)⟩,
               .one ⟨some 9, .move (.t 31)⟩])
             .ret)
            (.seq (.region [.one ⟨some 33, .bin .eql 0 (.t 10) (.c (.int .i64 9))⟩,
               .one ⟨some 32, .move (.t 33)⟩])
             (.cond (.t 32) (.seq (.region [.one ⟨some 34, .load 2 true .any (.t 6)⟩,
                 .one ⟨some 35, .load 2 true .any (.t 7)⟩,
                 .one ⟨some 36, .call false .any 156 [.t 34, .t 35]⟩,
                 .one ⟨some 37, .extract (.t 36) 0⟩,
                 .one ⟨some 38, .extract (.t 36) 1⟩,
                 .one ⟨none, .store 2 (.t 8) (.t 37)⟩,
                 .one ⟨some 9, .move (.t 38)⟩])
               .ret)
              (.seq (.region [.one ⟨some 40, .bin .eql 0 (.t 10) (.c (.int .i64 16))⟩,
                 .one ⟨some 39, .move (.t 40)⟩])
               (.cond (.t 39) (.seq (.region [.one ⟨some 41, .load 2 true .any (.t 6)⟩,
                   .one ⟨some 42, .load 2 true .any (.t 7)⟩,
                   .one ⟨some 43, .call false .any 157 [.t 41, .t 42]⟩,
                   .one ⟨some 44, .extract (.t 43) 0⟩,
                   .one ⟨some 45, .extract (.t 43) 1⟩,
                   .one ⟨none, .store 2 (.t 8) (.t 44)⟩,
                   .one ⟨some 9, .move (.t 45)⟩])
                 .ret)
                .skip))))))))))))
    (.seq (.region [.one ⟨some 46, .load 2 true .any (.t 6)⟩,
       .one ⟨some 47, .load 2 true .any (.t 7)⟩,
       .one ⟨some 48, .move (.t 1)⟩,
       .one ⟨some 49, .call false .any 158 [.t 46, .t 47, .t 48]⟩,
       .one ⟨some 50, .extract (.t 49) 0⟩,
       .one ⟨some 51, .extract (.t 49) 1⟩,
       .one ⟨none, .store 2 (.t 8) (.t 50)⟩,
       .one ⟨some 9, .move (.t 51)⟩])
     .ret))) }
/-- gradus/kernel.single: number 138 -/
def kernel_single : AFunc := { params := [.any, .any, .any, .any], results := [.cell 8 2 true, .tmp 9], body :=
  (.seq (.region [.one ⟨some 7, .box (.t 3)⟩,
     .one ⟨some 8, .alloc [.nil, .nil]⟩,
     .one ⟨some 9, .move (.c (.int .i64 0))⟩])
   (.seq (.seq (.region [.one ⟨some 10, .move (.t 0)⟩])
     (.block 0 (.seq (.region [.one ⟨some 12, .bin .eql 0 (.t 10) (.c (.int .i64 7))⟩,
         .one ⟨some 11, .move (.t 12)⟩])
       (.cond (.t 11) (.seq (.region [.one ⟨some 13, .load 2 true .any (.t 7)⟩,
           .one ⟨some 14, .call false .any 159 [.t 13]⟩,
           .one ⟨some 15, .extract (.t 14) 0⟩,
           .one ⟨some 16, .extract (.t 14) 1⟩,
           .one ⟨none, .store 2 (.t 8) (.t 15)⟩,
           .one ⟨some 9, .move (.t 16)⟩])
         .ret)
        (.seq (.region [.one ⟨some 18, .bin .eql 0 (.t 10) (.c (.int .i64 8))⟩,
           .one ⟨some 17, .move (.t 18)⟩])
         (.cond (.t 17) (.seq (.region [.one ⟨some 19, .load 2 true .any (.t 7)⟩,
             .one ⟨some 20, .move (.t 1)⟩,
             .one ⟨some 21, .call false .any 160 [.t 19, .t 20]⟩,
             .one ⟨some 22, .extract (.t 21) 0⟩,
             .one ⟨some 23, .extract (.t 21) 1⟩,
             .one ⟨none, .store 2 (.t 8) (.t 22)⟩,
             .one ⟨some 9, .move (.t 23)⟩])
           .ret)
          (.seq (.region [.one ⟨some 25, .bin .eql 0 (.t 10) (.c (.int .i64 10))⟩,
             .one ⟨some 24, .move (.t 25)⟩])
           (.cond (.t 24) (.seq (.region [.one ⟨some 26, .load 2 true .any (.t 7)⟩,
               .one ⟨some 27, .call false .any 161 [.t 26]⟩,
               .one ⟨some 28, .extract (.t 27) 0⟩,
               .one ⟨some 29, .extract (.t 27) 1⟩,
               .one ⟨none, .store 2 (.t 8) (.t 28)⟩,
               .one ⟨some 9, .move (.t 29)⟩])
             .ret)
            (.seq (.region [.one ⟨some 31, .bin .eql 0 (.t 10) (.c (.int .i64 11))⟩,
               .one ⟨some 30, .move (.t 31)⟩])
             (.cond (.t 30) (.seq (.region [.one ⟨some 32, .load 2 true .any (.t 7)⟩,
                 .one ⟨some 33, .move (.t 2)⟩,
                 .one ⟨some 34, .call false .any 162 [.t 32, .t 33]⟩,
                 .one ⟨some 35, .extract (.t 34) 0⟩,
                 .one ⟨some 36, .extract (.t 34) 1⟩,
                 .one ⟨none, .store 2 (.t 8) (.t 35)⟩,
                 .one ⟨some 9, .move (.t 36)⟩])
               .ret)
              (.seq (.region [.one ⟨some 38, .bin .eql 0 (.t 10) (.c (.int .i64 12))⟩,
                 .one ⟨some 37, .move (.t 38)⟩])
               (.cond (.t 37) (.seq (.region [.one ⟨some 39, .load 2 true .any (.t 7)⟩,
                   .one ⟨some 40, .move (.t 2)⟩,
                   .one ⟨some 41, .call false .any 163 [.t 39, .t 40]⟩,
                   .one ⟨some 42, .extract (.t 41) 0⟩,
                   .one ⟨some 43, .extract (.t 41) 1⟩,
                   .one ⟨none, .store 2 (.t 8) (.t 42)⟩,
                   .one ⟨some 9, .move (.t 43)⟩])
                 .ret)
                (.seq (.region [.one ⟨some 45, .bin .eql 0 (.t 10) (.c (.int .i64 13))⟩,
                   .one ⟨some 44, .move (.t 45)⟩])
                 (.cond (.t 44) (.seq (.region [.one ⟨some 46, .load 2 true .any (.t 7)⟩,
                     .one ⟨some 47, .move (.t 2)⟩,
                     .one ⟨some 48, .call false .any 164 [.t 46, .t 47]⟩,
                     .one ⟨some 49, .extract (.t 48) 0⟩,
                     .one ⟨some 50, .extract (.t 48) 1⟩,
                     .one ⟨none, .store 2 (.t 8) (.t 49)⟩,
                     .one ⟨some 9, .move (.t 50)⟩])
                   .ret)
                  (.seq (.region [.one ⟨some 52, .bin .eql 0 (.t 10) (.c (.int .i64 14))⟩,
                     .one ⟨some 51, .move (.t 52)⟩])
                   (.cond (.t 51) (.seq (.region [.one ⟨some 53, .load 2 true .any (.t 7)⟩,
                       .one ⟨some 54, .call false .any 165 [.t 53]⟩,
                       .one ⟨some 55, .extract (.t 54) 0⟩,
                       .one ⟨some 56, .extract (.t 54) 1⟩,
                       .one ⟨none, .store 2 (.t 8) (.t 55)⟩,
                       .one ⟨some 9, .move (.t 56)⟩])
                     .ret)
                    .skip))))))))))))))))
    (.seq (.region [.one ⟨some 57, .load 2 true .any (.t 7)⟩,
       .one ⟨some 58, .move (.t 1)⟩,
       .one ⟨some 59, .call false .any 166 [.t 57, .t 58]⟩,
       .one ⟨some 60, .extract (.t 59) 0⟩,
       .one ⟨some 61, .extract (.t 59) 1⟩,
       .one ⟨none, .store 2 (.t 8) (.t 60)⟩,
       .one ⟨some 9, .move (.t 61)⟩])
     .ret))) }
/-- gradus/kernel.form$1: number 141 -/
def kernel_form_1 : AFunc := { params := [.any], results := [.tmp 2], body :=
  (.seq (.region [.one ⟨some 2, .move (.c (.bool false))⟩])
   (.seq (.region [.one ⟨some 3, .move (.t 0)⟩,
      .one ⟨some 4, .call false .any 145 [.t 3]⟩,
      .one ⟨some 5, .un .not (.t 4)⟩,
      .one ⟨some 2, .move (.t 5)⟩])
    .ret)) }
/-- gradus/kernel.Many: number 142 -/
def kernel_Many : AFunc := { params := [.any], results := [.tmp 2], body :=
  (.seq (.region [.one ⟨some 2, .move (.c (.int .i64 0))⟩])
   (.seq (.seq (.region [.one ⟨some 3, .move (.t 0)⟩])
     (.block 0 (.seq (.seq (.region [.one ⟨some 5, .bin .eql 0 (.t 3) (.c (.int .i64 1))⟩,
          .one ⟨some 4, .move (.t 5)⟩])
        (.cond (.t 4) .skip
         (.seq (.region [.one ⟨some 6, .bin .eql 0 (.t 3) (.c (.int .i64 2))⟩,
            .one ⟨some 4, .move (.t 6)⟩])
          (.cond (.t 4) .skip
           (.region [.one ⟨some 7, .bin .eql 0 (.t 3) (.c (.int .i64 3))⟩,
             .one ⟨some 4, .move (.t 7)⟩])))))
       (.cond (.t 4) (.seq (.region [.one ⟨some 2, .move (.c (.int .i64 0))⟩])
         .ret)
        (.seq (.seq (.region [.one ⟨some 9, .bin .eql 0 (.t 3) (.c (.int .i64 4))⟩,
            .one ⟨some 8, .move (.t 9)⟩])
          (.cond (.t 8) .skip
           (.seq (.region [.one ⟨some 10, .bin .eql 0 (.t 3) (.c (.int .i64 5))⟩,
              .one ⟨some 8, .move (.t 10)⟩])
            (.cond (.t 8) .skip
             (.seq (.region [.one ⟨some 11, .bin .eql 0 (.t 3) (.c (.int .i64 6))⟩,
                .one ⟨some 8, .move (.t 11)⟩])
              (.cond (.t 8) .skip
               (.seq (.region [.one ⟨some 12, .bin .eql 0 (.t 3) (.c (.int .i64 9))⟩,
                  .one ⟨some 8, .move (.t 12)⟩])
                (.cond (.t 8) .skip
                 (.seq (.region [.one ⟨some 13, .bin .eql 0 (.t 3) (.c (.int .i64 16))⟩,
                    .one ⟨some 8, .move (.t 13)⟩])
                  (.cond (.t 8) .skip
                   (.region [.one ⟨some 14, .bin .eql 0 (.t 3) (.c (.int .i64 17))⟩,
                     .one ⟨some 8, .move (.t 14)⟩])))))))))))
         (.cond (.t 8) (.seq (.region [.one ⟨some 2, .move (.c (.int .i64 2))⟩])
           .ret)
          .skip))))))
    (.seq (.region [.one ⟨some 2, .move (.c (.int .i64 1))⟩])
     .ret))) }
/-- slices.ContainsFunc[[][]int,[]int]: number 143 -/
def slices_ContainsFunc_ints : AFunc := { params := [.any, .any], results := [.tmp 4], body :=
  (.seq (.region [.one ⟨some 4, .move (.c (.bool false))⟩])
   (.seq (.region [.one ⟨some 5, .move (.t 0)⟩,
      .one ⟨some 6, .move (.t 1)⟩,
      .one ⟨some 7, .call false .any 179 [.t 5, .t 6]⟩,
      .one ⟨some 8, .bin .geq 0 (.t 7) (.c (.int .i64 0))⟩,
      .one ⟨some 4, .move (.t 8)⟩])
    .ret)) }
/-- gradus/kernel.number: number 144 -/
def kernel_number : AFunc := { params := [.any, .any], results := [.tmp 4], body :=
  (.seq (.region [.one ⟨some 4, .move (.c (.bool false))⟩])
   (.seq (.seq (.region [.one ⟨some 5, .move (.t 0)⟩])
     (.block 0 (.seq (.seq (.region [.one ⟨some 7, .bin .eql 0 (.t 5) (.c (.int .i64 3))⟩,
          .one ⟨some 6, .move (.t 7)⟩])
        (.cond (.t 6) .skip
         (.region [.one ⟨some 8, .bin .eql 0 (.t 5) (.c (.int .i64 8))⟩,
           .one ⟨some 6, .move (.t 8)⟩])))
       (.cond (.t 6) (.seq (.region [.one ⟨some 4, .move (.c (.bool true))⟩])
         .ret)
        (.seq (.seq (.region [.one ⟨some 10, .bin .eql 0 (.t 5) (.c (.int .i64 15))⟩,
            .one ⟨some 9, .move (.t 10)⟩])
          (.cond (.t 9) .skip
           (.region [.one ⟨some 11, .bin .eql 0 (.t 5) (.c (.int .i64 17))⟩,
             .one ⟨some 9, .move (.t 11)⟩])))
         (.cond (.t 9) (.seq (.region [.one ⟨some 12, .move (.t 1)⟩,
             .one ⟨some 13, .bin .geq 0 (.t 12) (.c (.int .i64 1))⟩,
             .one ⟨some 14, .move (.t 13)⟩,
             .grd 14 true [⟨some 15, .move (.t 1)⟩, ⟨some 16, .bin .leq 0 (.t 15) (.c (.int .i64 8))⟩],
             .one ⟨some 17, .pick (.t 14) (.t 16) (.c (.bool false))⟩,
             .one ⟨some 4, .move (.t 17)⟩])
           .ret)
          .skip))))))
    (.seq (.region [.one ⟨some 18, .move (.t 1)⟩,
       .one ⟨some 19, .bin .eql 0 (.t 18) (.c (.int .i64 0))⟩,
       .one ⟨some 4, .move (.t 19)⟩])
     .ret))) }
/-- gradus/shape.May: number 145 -/
def shape_May : AFunc := { params := [.any], results := [.tmp 2], body :=
  (.seq (.region [.one ⟨some 2, .move (.c (.bool false))⟩])
   (.seq (.seq (.region [.one ⟨some 3, .move (.t 0)⟩,
       .one ⟨some 4, .len (.t 3)⟩,
       .one ⟨some 5, .bin .lss 0 (.t 4) (.c (.int .i64 1))⟩,
       .one ⟨some 6, .move (.t 5)⟩,
       .grd 6 false [⟨some 7, .move (.t 0)⟩, ⟨some 8, .len (.t 7)⟩, ⟨some 9, .bin .gtr 0 (.t 8) (.c (.int .i64 3))⟩],
       .one ⟨some 10, .pick (.t 6) (.c (.bool true)) (.t 9)⟩,
       .one ⟨some 11, .move (.t 10)⟩,
       .grd 11 false [⟨some 12, .move (.t 0)⟩, ⟨some 13, .call false .any 75 [.t 12, .c (.fn 178 [])]⟩],
       .one ⟨some 14, .pick (.t 11) (.c (.bool true)) (.t 13)⟩])
     (.cond (.t 14) (.seq (.region [.one ⟨some 2, .move (.c (.bool false))⟩])
       .ret)
      .skip))
    (.seq (.region [.one ⟨some 15, .move (.t 0)⟩,
       .one ⟨some 16, .call false .any 106 [.t 15]⟩,
       .one ⟨some 17, .bin .leq 0 (.t 16) (.c (.int .i64 64))⟩,
       .one ⟨some 2, .move (.t 17)⟩])
     .ret))) }
/-- gradus/shape.Grows: number 146 -/
def shape_Grows_b0 : ACode :=
 (.seq (.region [.one ⟨some 15, .bin .lss 0 (.t 14) (.t 13)⟩])
  (.seq (.cond (.t 15) .skip
    (.exit 0))
   (.seq (.block 1 (.seq (.region [.one ⟨some 16, .move (.t 14)⟩,
        .one ⟨some 17, .indexAddr 1 (.t 12) (.t 14)⟩,
        .one ⟨some 18, .load 1 false .any (.t 17)⟩,
        .one ⟨some 5, .move (.t 16)⟩,
        .one ⟨some 6, .move (.t 18)⟩])
      (.seq (.region [.one ⟨some 19, .move (.t 6)⟩,
         .one ⟨some 20, .bin .neq 0 (.t 19) (.c (.int .i64 1))⟩,
         .one ⟨some 21, .move (.t 20)⟩,
         .grd 21 true [⟨some 22, .move (.t 6)⟩, ⟨some 23, .move (.t 1)⟩, ⟨some 24, .move (.t 5)⟩, ⟨some 25, .indexAddr 1 (.t 23) (.t 24)⟩, ⟨some 26, .load 1 false .any (.t 25)⟩, ⟨some 27, .bin .neq 0 (.t 22) (.t 26)⟩],
         .one ⟨some 28, .pick (.t 21) (.t 27) (.c (.bool false))⟩])
       (.cond (.t 28) (.seq (.region [.one ⟨some 4, .move (.c (.bool false))⟩])
         .ret)
        .skip))))
    (.region [.one ⟨some 29, .bin .add 0 (.t 14) (.c (.int .i64 1))⟩,
      .one ⟨some 14, .move (.t 29)⟩]))))
def shape_Grows_l0 : ACode :=
 (.loop [(1, .any), (12, .any), (13, .any), (14, .any)] [(0, [])] [(4, .any)] shape_Grows_b0)
def shape_Grows : AFunc := { params := [.any, .any], results := [.tmp 4], body :=
  (.seq (.region [.one ⟨some 4, .move (.c (.bool false))⟩])
   (.seq (.seq (.region [.one ⟨some 7, .move (.t 0)⟩,
       .one ⟨some 8, .len (.t 7)⟩,
       .one ⟨some 9, .move (.t 1)⟩,
       .one ⟨some 10, .len (.t 9)⟩,
       .one ⟨some 11, .bin .neq 0 (.t 8) (.t 10)⟩])
     (.cond (.t 11) (.seq (.region [.one ⟨some 4, .move (.c (.bool false))⟩])
       .ret)
      .skip))
    (.seq (.seq (.region [.one ⟨some 12, .move (.t 0)⟩,
        .one ⟨some 13, .len (.t 12)⟩,
        .one ⟨some 14, .move (.c (.int .i64 0))⟩])
      (.block 0 shape_Grows_l0))
     (.seq (.region [.one ⟨some 4, .move (.c (.bool true))⟩])
      .ret)))) }
/-- gradus/gate.Less: number 147 -/
def gate_Less : AFunc := { params := [.any, .any], results := [.tmp 4, .tmp 5], body :=
  (.seq (.region [.one ⟨some 4, .move (.c (.nil))⟩,
     .one ⟨some 5, .move (.c (.bool false))⟩])
   (.seq (.region [.one ⟨some 7, .move (.t 0)⟩,
      .one ⟨some 8, .call false .any 112 [.t 7]⟩,
      .one ⟨some 0, .move (.t 8)⟩])
    (.seq (.region [.one ⟨some 9, .move (.t 0)⟩,
       .one ⟨some 10, .len (.t 9)⟩,
       .one ⟨some 11, .bin .sub 0 (.t 10) (.c (.int .i64 1))⟩,
       .one ⟨some 6, .move (.t 11)⟩])
     (.seq (.seq (.region [.one ⟨some 12, .move (.t 0)⟩,
         .one ⟨some 13, .move (.t 6)⟩,
         .one ⟨some 14, .indexAddr 1 (.t 12) (.t 13)⟩,
         .one ⟨some 15, .load 1 false .any (.t 14)⟩,
         .one ⟨some 16, .move (.t 1)⟩,
         .one ⟨some 17, .bin .rem 0 (.t 15) (.t 16)⟩,
         .one ⟨some 18, .bin .neq 0 (.t 17) (.c (.int .i64 0))⟩])
       (.cond (.t 18) (.seq (.region [.one ⟨some 4, .move (.c (.nil))⟩,
           .one ⟨some 5, .move (.c (.bool false))⟩])
         .ret)
        .skip))
      (.seq (.region [.one ⟨some 19, .move (.t 0)⟩,
         .one ⟨some 20, .move (.t 6)⟩,
         .one ⟨some 21, .indexAddr 1 (.t 19) (.t 20)⟩,
         .one ⟨some 22, .load 1 false .any (.t 21)⟩,
         .one ⟨some 23, .move (.t 1)⟩,
         .one ⟨some 24, .bin .quo 0 (.t 22) (.t 23)⟩,
         .one ⟨some 25, .indexAddr 1 (.t 19) (.t 20)⟩,
         .one ⟨none, .store 1 (.t 25) (.t 24)⟩])
       (.seq (.region [.one ⟨some 26, .move (.t 0)⟩,
          .one ⟨some 4, .move (.t 26)⟩,
          .one ⟨some 5, .move (.c (.bool true))⟩])
        .ret)))))) }
/-- gradus/word.letter: number 148 -/
def word_letter : AFunc := { params := [.any], results := [.tmp 2], body :=
  (.seq (.region [.one ⟨some 2, .move (.c (.bool false))⟩])
   (.seq (.region [.one ⟨some 3, .move (.t 0)⟩,
      .one ⟨some 4, .bin .geq 0 (.t 3) (.c (.int .i32 97))⟩,
      .one ⟨some 5, .move (.t 4)⟩,
      .grd 5 true [⟨some 6, .move (.t 0)⟩, ⟨some 7, .bin .leq 0 (.t 6) (.c (.int .i32 122))⟩],
      .one ⟨some 8, .pick (.t 5) (.t 7) (.c (.bool false))⟩,
      .one ⟨some 9, .move (.t 8)⟩,
      .grd 9 false [⟨some 10, .move (.t 0)⟩, ⟨some 11, .bin .geq 0 (.t 10) (.c (.int .i32 945))⟩, ⟨some 12, .move (.t 11)⟩],
      .grd 12 true [⟨some 13, .move (.t 0)⟩, ⟨some 14, .bin .leq 0 (.t 13) (.c (.int .i32 969))⟩],
      .grd 9 false [⟨some 15, .pick (.t 12) (.t 14) (.c (.bool false))⟩],
      .one ⟨some 16, .pick (.t 9) (.c (.bool true)) (.t 15)⟩,
      .one ⟨some 2, .move (.t 16)⟩])
    .ret)) }
/-- gradus/word.digit: number 149 -/
def word_digit : AFunc := { params := [.any], results := [.tmp 2], body :=
  (.seq (.region [.one ⟨some 2, .move (.c (.bool false))⟩])
   (.seq (.region [.one ⟨some 3, .move (.t 0)⟩,
      .one ⟨some 4, .bin .geq 0 (.t 3) (.c (.int .i32 48))⟩,
      .one ⟨some 5, .move (.t 4)⟩,
      .grd 5 true [⟨some 6, .move (.t 0)⟩, ⟨some 7, .bin .leq 0 (.t 6) (.c (.int .i32 57))⟩],
      .one ⟨some 8, .pick (.t 5) (.t 7) (.c (.bool false))⟩,
      .one ⟨some 2, .move (.t 8)⟩])
    .ret)) }
/-- slices.IndexFunc[[]gradus/api.Tensor,gradus/api.Tensor]: number 150 -/
def slices_IndexFunc_Tensor_b0 : ACode :=
 (.seq (.region [.one ⟨some 9, .bin .lss 0 (.t 8) (.t 7)⟩])
  (.seq (.cond (.t 9) .skip
    (.exit 0))
   (.seq (.block 1 (.seq (.region [.one ⟨some 10, .move (.t 8)⟩,
        .one ⟨some 5, .move (.t 10)⟩])
      (.seq (.region [.one ⟨some 11, .move (.t 1)⟩,
         .one ⟨some 12, .move (.t 0)⟩,
         .one ⟨some 13, .move (.t 5)⟩,
         .one ⟨some 14, .indexAddr 2 (.t 12) (.t 13)⟩,
         .one ⟨some 15, .load 2 true .any (.t 14)⟩,
         .one ⟨some 16, .callv false .any (.t 11) [.t 15]⟩])
       (.cond (.t 16) (.seq (.region [.one ⟨some 17, .move (.t 5)⟩,
           .one ⟨some 4, .move (.t 17)⟩])
         .ret)
        .skip))))
    (.region [.one ⟨some 18, .bin .add 0 (.t 8) (.c (.int .i64 1))⟩,
      .one ⟨some 8, .move (.t 18)⟩]))))
def slices_IndexFunc_Tensor_l0 : ACode :=
 (.loop [(0, .any), (1, .any), (7, .any), (8, .any)] [(0, [])] [(4, .any)] slices_IndexFunc_Tensor_b0)
def slices_IndexFunc_Tensor : AFunc := { params := [.any, .any], results := [.tmp 4], body :=
  (.seq (.region [.one ⟨some 4, .move (.c (.int .i64 0))⟩])
   (.seq (.seq (.region [.one ⟨some 6, .move (.t 0)⟩,
       .one ⟨some 7, .len (.t 6)⟩,
       .one ⟨some 8, .move (.c (.int .i64 0))⟩])
     (.block 0 slices_IndexFunc_Tensor_l0))
    (.seq (.region [.one ⟨some 4, .move (.c (.int .i64 (-1)))⟩])
     .ret))) }
/-- gradus/shape.Is: number 151 -/
def shape_Is : AFunc := { params := [.any], results := [.tmp 2], body :=
  (.seq (.region [.one ⟨some 1, .box (.t 0)⟩,
     .one ⟨some 2, .move (.c (.bool false))⟩])
   (.seq (.region [.one ⟨some 3, .fieldAddr 0 (.t 1)⟩,
      .one ⟨some 4, .load 1 false .any (.t 3)⟩,
      .one ⟨some 5, .call true .any 145 [.t 4]⟩,
      .one ⟨some 6, .move (.t 5)⟩,
      .grd 6 true [⟨some 7, .fieldAddr 1 (.t 1)⟩, ⟨some 8, .load 1 false .any (.t 7)⟩, ⟨some 9, .len (.t 8)⟩, ⟨some 10, .fieldAddr 0 (.t 1)⟩, ⟨some 11, .load 1 false .any (.t 10)⟩, ⟨some 12, .call true .any 106 [.t 11]⟩, ⟨some 13, .bin .eql 0 (.t 9) (.t 12)⟩],
      .one ⟨some 14, .pick (.t 6) (.t 13) (.c (.bool false))⟩,
      .one ⟨some 2, .move (.t 14)⟩])
    .ret)) }
/-- gradus/shape.New: number 152 -/
def shape_New : AFunc := { params := [.any], results := [.cell 2 2 true], body :=
  (.seq (.region [.one ⟨some 2, .alloc [.nil, .nil]⟩])
   (.seq (.region [.one ⟨some 3, .move (.t 0)⟩,
      .one ⟨some 4, .call false .any 112 [.t 3]⟩,
      .one ⟨some 5, .move (.t 0)⟩,
      .one ⟨some 6, .call false .any 106 [.t 5]⟩,
      .one ⟨some 7, .makeSlice 1 8 [.int .i64 0] (.t 6)⟩,
      .one ⟨some 8, .build [.nil, .nil] [(0, 1, .t 4), (1, 1, .t 7)]⟩,
      .one ⟨none, .store 2 (.t 2) (.t 8)⟩])
    .ret)) }
/-- gradus/ring.Add: number 153 -/
def ring_Add : AFunc := { params := [.any, .any], results := [.cell 4 2 true, .tmp 5], body :=
  (.seq (.region [.one ⟨some 2, .box (.t 0)⟩,
     .one ⟨some 3, .box (.t 1)⟩,
     .one ⟨some 4, .alloc [.nil, .nil]⟩,
     .one ⟨some 5, .move (.c (.int .i64 0))⟩])
   (.seq (.region [.one ⟨some 6, .load 2 true .any (.t 2)⟩,
      .one ⟨some 7, .load 2 true .any (.t 3)⟩,
      .one ⟨some 8, .call false .any 180 [.t 6, .t 7, .c (.fn 181 [])]⟩,
      .one ⟨some 9, .extract (.t 8) 0⟩,
      .one ⟨some 10, .extract (.t 8) 1⟩,
      .one ⟨none, .store 2 (.t 4) (.t 9)⟩,
      .one ⟨some 5, .move (.t 10)⟩])
    .ret)) }
/-- gradus/ring.Sub: number 154 -/
def ring_Sub : AFunc := { params := [.any, .any], results := [.cell 4 2 true, .tmp 5], body :=
  (.seq (.region [.one ⟨some 2, .box (.t 0)⟩,
     .one ⟨some 3, .box (.t 1)⟩,
     .one ⟨some 4, .alloc [.nil, .nil]⟩,
     .one ⟨some 5, .move (.c (.int .i64 0))⟩])
   (.seq (.region [.one ⟨some 6, .load 2 true .any (.t 2)⟩,
      .one ⟨some 7, .load 2 true .any (.t 3)⟩,
      .one ⟨some 8, .call false .any 180 [.t 6, .t 7, .c (.fn 182 [])]⟩,
      .one ⟨some 9, .extract (.t 8) 0⟩,
      .one ⟨some 10, .extract (.t 8) 1⟩,
      .one ⟨none, .store 2 (.t 4) (.t 9)⟩,
      .one ⟨some 5, .move (.t 10)⟩])
    .ret)) }
/-- gradus/ring.Mul: number 155 -/
def ring_Mul : AFunc := { params := [.any, .any], results := [.cell 4 2 true, .tmp 5], body :=
  (.seq (.region [.one ⟨some 2, .box (.t 0)⟩,
     .one ⟨some 3, .box (.t 1)⟩,
     .one ⟨some 4, .alloc [.nil, .nil]⟩,
     .one ⟨some 5, .move (.c (.int .i64 0))⟩])
   (.seq (.region [.one ⟨some 6, .load 2 true .any (.t 2)⟩,
      .one ⟨some 7, .load 2 true .any (.t 3)⟩,
      .one ⟨some 8, .call false .any 180 [.t 6, .t 7, .c (.fn 183 [])]⟩,
      .one ⟨some 9, .extract (.t 8) 0⟩,
      .one ⟨some 10, .extract (.t 8) 1⟩,
      .one ⟨none, .store 2 (.t 4) (.t 9)⟩,
      .one ⟨some 5, .move (.t 10)⟩])
    .ret)) }
/-- gradus/mat.Mul: number 156 -/
def mat_Mul_b0 : ACode :=
 (.seq (.region [.one ⟨some 75, .bin .lss 0 (.t 74) (.t 73)⟩])
  (.seq (.cond (.t 75) .skip
    (.exit 5))
   (.seq (.block 6 (.seq (.region [.one ⟨some 76, .move (.t 74)⟩,
        .one ⟨some 13, .move (.t 76)⟩])
      (.region [.one ⟨some 77, .fieldAddr 1 (.t 10)⟩,
        .one ⟨some 78, .load 1 false .any (.t 77)⟩,
        .one ⟨some 79, .move (.t 11)⟩,
        .one ⟨some 80, .move (.t 8)⟩,
        .one ⟨some 81, .bin .mul 0 (.t 79) (.t 80)⟩,
        .one ⟨some 82, .move (.t 12)⟩,
        .one ⟨some 83, .bin .add 0 (.t 81) (.t 82)⟩,
        .one ⟨some 84, .indexAddr 1 (.t 78) (.t 83)⟩,
        .one ⟨some 85, .load 1 false .any (.t 84)⟩,
        .one ⟨some 86, .fieldAddr 1 (.t 2)⟩,
        .one ⟨some 87, .load 1 false .any (.t 86)⟩,
        .one ⟨some 88, .move (.t 11)⟩,
        .one ⟨some 89, .move (.t 7)⟩,
        .one ⟨some 90, .bin .mul 0 (.t 88) (.t 89)⟩,
        .one ⟨some 91, .move (.t 13)⟩,
        .one ⟨some 92, .bin .add 0 (.t 90) (.t 91)⟩,
        .one ⟨some 93, .indexAddr 1 (.t 87) (.t 92)⟩,
        .one ⟨some 94, .load 1 false .any (.t 93)⟩,
        .one ⟨some 95, .fieldAddr 1 (.t 3)⟩,
        .one ⟨some 96, .load 1 false .any (.t 95)⟩,
        .one ⟨some 97, .move (.t 13)⟩,
        .one ⟨some 98, .move (.t 8)⟩,
        .one ⟨some 99, .bin .mul 0 (.t 97) (.t 98)⟩,
        .one ⟨some 100, .move (.t 12)⟩,
        .one ⟨some 101, .bin .add 0 (.t 99) (.t 100)⟩,
        .one ⟨some 102, .indexAddr 1 (.t 96) (.t 101)⟩,
        .one ⟨some 103, .load 1 false .any (.t 102)⟩,
        .one ⟨some 104, .bin .mul 0 (.t 94) (.t 103)⟩,
        .one ⟨some 105, .bin .add 0 (.t 85) (.t 104)⟩,
        .one ⟨some 106, .indexAddr 1 (.t 78) (.t 83)⟩,
        .one ⟨none, .store 1 (.t 106) (.t 105)⟩])))
    (.region [.one ⟨some 107, .bin .add 0 (.t 74) (.c (.int .i64 1))⟩,
      .one ⟨some 74, .move (.t 107)⟩]))))
def mat_Mul_l0 : ACode :=
 (.loop [(2, .any), (3, .any), (4, .any), (7, .any), (8, .any), (10, .any), (11, .any), (12, .any), (65, .any), (66, .any), (69, .any), (70, .any), (73, .any), (74, .any)] [(5, [(2, .any), (3, .any), (4, .any), (7, .any), (8, .any), (10, .any), (11, .any), (65, .any), (66, .any), (69, .any), (70, .any)])] [] mat_Mul_b0)
def mat_Mul_b1 : ACode :=
 (.seq (.region [.one ⟨some 71, .bin .lss 0 (.t 70) (.t 69)⟩])
  (.seq (.cond (.t 71) .skip
    (.exit 3))
   (.seq (.block 4 (.seq (.region [.one ⟨some 72, .move (.t 70)⟩,
        .one ⟨some 12, .move (.t 72)⟩])
      (.seq (.region [.one ⟨some 73, .move (.t 7)⟩,
         .one ⟨some 74, .move (.c (.int .i64 0))⟩])
       (.block 5 mat_Mul_l0))))
    (.region [.one ⟨some 108, .bin .add 0 (.t 70) (.c (.int .i64 1))⟩,
      .one ⟨some 70, .move (.t 108)⟩]))))
def mat_Mul_l1 : ACode :=
 (.loop [(2, .any), (3, .any), (4, .any), (7, .any), (8, .any), (10, .any), (11, .any), (65, .any), (66, .any), (69, .any), (70, .any)] [(3, [(2, .any), (3, .any), (4, .any), (7, .any), (8, .any), (10, .any), (65, .any), (66, .any)])] [] mat_Mul_b1)
def mat_Mul_b2 : ACode :=
 (.seq (.region [.one ⟨some 67, .bin .lss 0 (.t 66) (.t 65)⟩])
  (.seq (.cond (.t 67) .skip
    (.exit 1))
   (.seq (.block 2 (.seq (.region [.one ⟨some 68, .move (.t 66)⟩,
        .one ⟨some 11, .move (.t 68)⟩])
      (.seq (.region [.one ⟨some 69, .move (.t 8)⟩,
         .one ⟨some 70, .move (.c (.int .i64 0))⟩])
       (.block 3 mat_Mul_l1))))
    (.region [.one ⟨some 109, .bin .add 0 (.t 66) (.c (.int .i64 1))⟩,
      .one ⟨some 66, .move (.t 109)⟩]))))
def mat_Mul_l2 : ACode :=
 (.loop [(2, .any), (3, .any), (4, .any), (7, .any), (8, .any), (10, .any), (65, .any), (66, .any)] [(1, [(4, .any), (10, .any)])] [] mat_Mul_b2)
def mat_Mul : AFunc := { params := [.any, .any], results := [.cell 4 2 true, .tmp 5], body :=
  (.seq (.region [.one ⟨some 2, .box (.t 0)⟩,
     .one ⟨some 3, .box (.t 1)⟩,
     .one ⟨some 4, .alloc [.nil, .nil]⟩,
     .one ⟨some 5, .move (.c (.int .i64 0))⟩])
   (.seq (.block 0 (.seq (.region [.one ⟨some 15, .load 2 true .any (.t 2)⟩,
        .one ⟨some 16, .load 2 true .any (.t 3)⟩,
        .one ⟨some 17, .buildSlice 2 2 [.nil, .nil] [(0, .t 15), (1, .t 16)]⟩,
        .one ⟨some 18, .call false .any 118 [.t 17]⟩,
        .one ⟨some 19, .un .not (.t 18)⟩,
        .one ⟨some 14, .move (.t 19)⟩])
      (.cond (.t 14) (.seq (.region [.one ⟨some 20, .build [.nil, .nil] []⟩,
          .one ⟨none, .store 2 (.t 4) (.t 20)⟩,
          .one ⟨some 5, .move (.c (.int .i64 1))⟩])
        .ret)
       (.seq (.region [.one ⟨some 22, .fieldAddr 0 (.t 2)⟩,
          .one ⟨some 23, .load 1 false .any (.t 22)⟩,
          .one ⟨some 24, .len (.t 23)⟩,
          .one ⟨some 25, .bin .neq 0 (.t 24) (.c (.int .i64 2))⟩,
          .one ⟨some 26, .move (.t 25)⟩,
          .grd 26 false [⟨some 27, .fieldAddr 0 (.t 3)⟩, ⟨some 28, .load 1 false .any (.t 27)⟩, ⟨some 29, .len (.t 28)⟩, ⟨some 30, .bin .neq 0 (.t 29) (.c (.int .i64 2))⟩],
          .one ⟨some 31, .pick (.t 26) (.c (.bool true)) (.t 30)⟩,
          .one ⟨some 32, .move (.t 31)⟩,
          .grd 32 false [⟨some 33, .fieldAddr 0 (.t 2)⟩, ⟨some 34, .load 1 false .any (.t 33)⟩, ⟨some 35, .indexAddr 1 (.t 34) (.c (.int .i64 1))⟩, ⟨some 36, .load 1 false .any (.t 35)⟩, ⟨some 37, .fieldAddr 0 (.t 3)⟩, ⟨some 38, .load 1 false .any (.t 37)⟩, ⟨some 39, .indexAddr 1 (.t 38) (.c (.int .i64 0))⟩, ⟨some 40, .load 1 false .any (.t 39)⟩, ⟨some 41, .bin .neq 0 (.t 36) (.t 40)⟩],
          .one ⟨some 42, .pick (.t 32) (.c (.bool true)) (.t 41)⟩,
          .one ⟨some 21, .move (.t 42)⟩])
        (.cond (.t 21) (.seq (.region [.one ⟨some 43, .build [.nil, .nil] []⟩,
            .one ⟨none, .store 2 (.t 4) (.t 43)⟩,
            .one ⟨some 5, .move (.c (.int .i64 4))⟩])
          .ret)
         .skip)))))
    (.seq (.region [.one ⟨some 44, .fieldAddr 0 (.t 2)⟩,
       .one ⟨some 45, .load 1 false .any (.t 44)⟩,
       .one ⟨some 46, .indexAddr 1 (.t 45) (.c (.int .i64 0))⟩,
       .one ⟨some 47, .load 1 false .any (.t 46)⟩,
       .one ⟨some 48, .fieldAddr 0 (.t 2)⟩,
       .one ⟨some 49, .load 1 false .any (.t 48)⟩,
       .one ⟨some 50, .indexAddr 1 (.t 49) (.c (.int .i64 1))⟩,
       .one ⟨some 51, .load 1 false .any (.t 50)⟩,
       .one ⟨some 52, .fieldAddr 0 (.t 3)⟩,
       .one ⟨some 53, .load 1 false .any (.t 52)⟩,
       .one ⟨some 54, .indexAddr 1 (.t 53) (.c (.int .i64 1))⟩,
       .one ⟨some 55, .load 1 false .any (.t 54)⟩,
       .one ⟨some 6, .move (.t 47)⟩,
       .one ⟨some 7, .move (.t 51)⟩,
       .one ⟨some 8, .move (.t 55)⟩])
     (.seq (.region [.one ⟨some 56, .move (.t 6)⟩,
        .one ⟨some 57, .move (.t 8)⟩,
        .one ⟨some 58, .buildSlice 1 2 [.int .i64 0] [(0, .t 56), (1, .t 57)]⟩,
        .one ⟨some 9, .move (.t 58)⟩])
      (.seq (.seq (.region [.one ⟨some 59, .move (.t 9)⟩,
          .one ⟨some 60, .call false .any 145 [.t 59]⟩,
          .one ⟨some 61, .un .not (.t 60)⟩])
        (.cond (.t 61) (.seq (.region [.one ⟨some 62, .build [.nil, .nil] []⟩,
            .one ⟨none, .store 2 (.t 4) (.t 62)⟩,
            .one ⟨some 5, .move (.c (.int .i64 4))⟩])
          .ret)
         .skip))
       (.seq (.region [.one ⟨some 63, .move (.t 9)⟩,
          .one ⟨some 64, .call false .any 152 [.t 63]⟩,
          .one ⟨some 10, .alloc [.nil, .nil]⟩,
          .one ⟨none, .store 2 (.t 10) (.t 64)⟩])
        (.seq (.seq (.region [.one ⟨some 65, .move (.t 6)⟩,
            .one ⟨some 66, .move (.c (.int .i64 0))⟩])
          (.block 1 mat_Mul_l2))
         (.seq (.region [.one ⟨some 110, .load 2 true .any (.t 10)⟩,
            .one ⟨none, .store 2 (.t 4) (.t 110)⟩,
            .one ⟨some 5, .move (.c (.int .i64 0))⟩])
          .ret)))))))) }
/-- gradus/gate.Step: number 157 -/
def gate_Step_b0 : ACode :=
 (.seq (.region [.one ⟨some 31, .bin .lss 0 (.t 30) (.t 29)⟩])
  (.seq (.cond (.t 31) .skip
    (.exit 1))
   (.seq (.block 2 (.seq (.region [.one ⟨some 32, .move (.t 30)⟩,
        .one ⟨some 33, .indexAddr 1 (.t 28) (.t 30)⟩,
        .one ⟨some 34, .load 1 false .any (.t 33)⟩,
        .one ⟨some 7, .move (.t 32)⟩,
        .one ⟨some 8, .move (.t 34)⟩])
      (.seq (.region [.one ⟨some 35, .move (.t 8)⟩,
         .one ⟨some 36, .bin .gtr 0 (.t 35) (.c (.int .i64 0))⟩])
       (.cond (.t 36) (.region [.one ⟨some 37, .fieldAddr 1 (.t 6)⟩,
          .one ⟨some 38, .load 1 false .any (.t 37)⟩,
          .one ⟨some 39, .move (.t 7)⟩,
          .one ⟨some 40, .fieldAddr 1 (.t 3)⟩,
          .one ⟨some 41, .load 1 false .any (.t 40)⟩,
          .one ⟨some 42, .move (.t 7)⟩,
          .one ⟨some 43, .indexAddr 1 (.t 41) (.t 42)⟩,
          .one ⟨some 44, .load 1 false .any (.t 43)⟩,
          .one ⟨some 45, .indexAddr 1 (.t 38) (.t 39)⟩,
          .one ⟨none, .store 1 (.t 45) (.t 44)⟩])
        .skip))))
    (.region [.one ⟨some 46, .bin .add 0 (.t 30) (.c (.int .i64 1))⟩,
      .one ⟨some 30, .move (.t 46)⟩]))))
def gate_Step_l0 : ACode :=
 (.loop [(3, .any), (4, .any), (6, .any), (28, .any), (29, .any), (30, .any)] [(1, [(4, .any), (6, .any)])] [] gate_Step_b0)
def gate_Step : AFunc := { params := [.any, .any], results := [.cell 4 2 true, .tmp 5], body :=
  (.seq (.region [.one ⟨some 2, .box (.t 0)⟩,
     .one ⟨some 3, .box (.t 1)⟩,
     .one ⟨some 4, .alloc [.nil, .nil]⟩,
     .one ⟨some 5, .move (.c (.int .i64 0))⟩])
   (.seq (.block 0 (.seq (.region [.one ⟨some 10, .load 2 true .any (.t 2)⟩,
        .one ⟨some 11, .load 2 true .any (.t 3)⟩,
        .one ⟨some 12, .buildSlice 2 2 [.nil, .nil] [(0, .t 10), (1, .t 11)]⟩,
        .one ⟨some 13, .call false .any 118 [.t 12]⟩,
        .one ⟨some 14, .un .not (.t 13)⟩,
        .one ⟨some 9, .move (.t 14)⟩])
      (.cond (.t 9) (.seq (.region [.one ⟨some 15, .build [.nil, .nil] []⟩,
          .one ⟨none, .store 2 (.t 4) (.t 15)⟩,
          .one ⟨some 5, .move (.c (.int .i64 1))⟩])
        .ret)
       (.seq (.region [.one ⟨some 17, .fieldAddr 0 (.t 2)⟩,
          .one ⟨some 18, .load 1 false .any (.t 17)⟩,
          .one ⟨some 19, .fieldAddr 0 (.t 3)⟩,
          .one ⟨some 20, .load 1 false .any (.t 19)⟩,
          .one ⟨some 21, .call false .any 98 [.t 18, .t 20]⟩,
          .one ⟨some 22, .un .not (.t 21)⟩,
          .one ⟨some 16, .move (.t 22)⟩])
        (.cond (.t 16) (.seq (.region [.one ⟨some 23, .build [.nil, .nil] []⟩,
            .one ⟨none, .store 2 (.t 4) (.t 23)⟩,
            .one ⟨some 5, .move (.c (.int .i64 4))⟩])
          .ret)
         .skip)))))
    (.seq (.region [.one ⟨some 24, .fieldAddr 0 (.t 2)⟩,
       .one ⟨some 25, .load 1 false .any (.t 24)⟩,
       .one ⟨some 26, .call false .any 152 [.t 25]⟩,
       .one ⟨some 6, .alloc [.nil, .nil]⟩,
       .one ⟨none, .store 2 (.t 6) (.t 26)⟩])
     (.seq (.seq (.region [.one ⟨some 27, .fieldAddr 1 (.t 2)⟩,
         .one ⟨some 28, .load 1 false .any (.t 27)⟩,
         .one ⟨some 29, .len (.t 28)⟩,
         .one ⟨some 30, .move (.c (.int .i64 0))⟩])
       (.block 1 gate_Step_l0))
      (.seq (.region [.one ⟨some 47, .load 2 true .any (.t 6)⟩,
         .one ⟨none, .store 2 (.t 4) (.t 47)⟩,
         .one ⟨some 5, .move (.c (.int .i64 0))⟩])
       .ret))))) }
/-- gradus/gate.Pick: number 158 -/
def gate_Pick_b0 : ACode :=
 (.seq (.region [.one ⟨some 42, .bin .lss 0 (.t 41) (.t 40)⟩])
  (.seq (.cond (.t 42) .skip
    (.exit 1))
   (.seq (.block 2 (.seq (.region [.one ⟨some 43, .move (.t 41)⟩,
        .one ⟨some 44, .indexAddr 1 (.t 39) (.t 41)⟩,
        .one ⟨some 45, .load 1 false .any (.t 44)⟩,
        .one ⟨some 11, .move (.t 43)⟩,
        .one ⟨some 12, .move (.t 45)⟩])
      (.region [.one ⟨some 46, .fieldAddr 1 (.t 10)⟩,
        .one ⟨some 47, .load 1 false .any (.t 46)⟩,
        .one ⟨some 48, .move (.t 11)⟩,
        .one ⟨some 49, .move (.t 2)⟩,
        .one ⟨some 50, .bin .mul 0 (.t 48) (.t 49)⟩,
        .one ⟨some 51, .fieldAddr 1 (.t 3)⟩,
        .one ⟨some 52, .load 1 false .any (.t 51)⟩,
        .one ⟨some 53, .move (.t 11)⟩,
        .one ⟨some 54, .move (.t 2)⟩,
        .one ⟨some 55, .bin .mul 0 (.t 53) (.t 54)⟩,
        .one ⟨some 56, .move (.t 11)⟩,
        .one ⟨some 57, .move (.t 2)⟩,
        .one ⟨some 58, .bin .mul 0 (.t 56) (.t 57)⟩,
        .one ⟨some 59, .move (.t 2)⟩,
        .one ⟨some 60, .bin .add 0 (.t 58) (.t 59)⟩,
        .one ⟨some 61, .cut 1 (.t 52) (some (.t 55)) (some (.t 60))⟩,
        .one ⟨some 62, .call true .any 185 [.t 61]⟩,
        .one ⟨some 63, .bin .add 0 (.t 50) (.t 62)⟩,
        .one ⟨some 64, .move (.t 12)⟩,
        .one ⟨some 65, .indexAddr 1 (.t 47) (.t 63)⟩,
        .one ⟨none, .store 1 (.t 65) (.t 64)⟩])))
    (.region [.one ⟨some 66, .bin .add 0 (.t 41) (.c (.int .i64 1))⟩,
      .one ⟨some 41, .move (.t 66)⟩]))))
def gate_Pick_l0 : ACode :=
 (.loop [(2, .any), (3, .any), (6, .any), (10, .any), (39, .any), (40, .any), (41, .any)] [(1, [(6, .any), (10, .any)])] [] gate_Pick_b0)
def gate_Pick : AFunc := { params := [.any, .any, .any], results := [.cell 6 2 true, .tmp 7], body :=
  (.seq (.region [.one ⟨some 3, .box (.t 0)⟩,
     .one ⟨some 4, .box (.t 1)⟩,
     .one ⟨some 6, .alloc [.nil, .nil]⟩,
     .one ⟨some 7, .move (.c (.int .i64 0))⟩])
   (.seq (.seq (.region [.one ⟨some 13, .load 2 true .any (.t 4)⟩,
       .one ⟨some 14, .call false .any 151 [.t 13]⟩,
       .one ⟨some 15, .un .not (.t 14)⟩])
     (.cond (.t 15) (.seq (.region [.one ⟨some 16, .build [.nil, .nil] []⟩,
         .one ⟨none, .store 2 (.t 6) (.t 16)⟩,
         .one ⟨some 7, .move (.c (.int .i64 1))⟩])
       .ret)
      .skip))
    (.seq (.region [.one ⟨some 18, .load 2 true .any (.t 3)⟩,
       .one ⟨some 19, .move (.t 2)⟩,
       .one ⟨some 20, .call false .any 184 [.t 18, .t 19]⟩,
       .one ⟨some 17, .move (.t 20)⟩,
       .one ⟨some 21, .extract (.t 17) 0⟩,
       .one ⟨some 22, .extract (.t 17) 1⟩,
       .one ⟨some 8, .move (.t 21)⟩,
       .one ⟨some 9, .move (.t 22)⟩])
     (.seq (.block 0 (.seq (.region [.one ⟨some 24, .move (.t 9)⟩,
          .one ⟨some 25, .bin .neq 0 (.t 24) (.c (.int .i64 0))⟩,
          .one ⟨some 23, .move (.t 25)⟩])
        (.cond (.t 23) (.seq (.region [.one ⟨some 26, .build [.nil, .nil] []⟩,
            .one ⟨some 27, .move (.t 9)⟩,
            .one ⟨none, .store 2 (.t 6) (.t 26)⟩,
            .one ⟨some 7, .move (.t 27)⟩])
          .ret)
         (.seq (.region [.one ⟨some 29, .move (.t 8)⟩,
            .one ⟨some 30, .fieldAddr 0 (.t 4)⟩,
            .one ⟨some 31, .load 1 false .any (.t 30)⟩,
            .one ⟨some 32, .call false .any 98 [.t 29, .t 31]⟩,
            .one ⟨some 33, .un .not (.t 32)⟩,
            .one ⟨some 28, .move (.t 33)⟩])
          (.cond (.t 28) (.seq (.region [.one ⟨some 34, .build [.nil, .nil] []⟩,
              .one ⟨none, .store 2 (.t 6) (.t 34)⟩,
              .one ⟨some 7, .move (.c (.int .i64 4))⟩])
            .ret)
           .skip)))))
      (.seq (.region [.one ⟨some 35, .fieldAddr 0 (.t 3)⟩,
         .one ⟨some 36, .load 1 false .any (.t 35)⟩,
         .one ⟨some 37, .call false .any 152 [.t 36]⟩,
         .one ⟨some 10, .alloc [.nil, .nil]⟩,
         .one ⟨none, .store 2 (.t 10) (.t 37)⟩])
       (.seq (.seq (.region [.one ⟨some 38, .fieldAddr 1 (.t 4)⟩,
           .one ⟨some 39, .load 1 false .any (.t 38)⟩,
           .one ⟨some 40, .len (.t 39)⟩,
           .one ⟨some 41, .move (.c (.int .i64 0))⟩])
         (.block 1 gate_Pick_l0))
        (.seq (.region [.one ⟨some 67, .load 2 true .any (.t 10)⟩,
           .one ⟨none, .store 2 (.t 6) (.t 67)⟩,
           .one ⟨some 7, .move (.c (.int .i64 0))⟩])
         .ret))))))) }
/-- gradus/ring.Neg: number 159 -/
def ring_Neg : AFunc := { params := [.any], results := [.cell 2 2 true, .tmp 3], body :=
  (.seq (.region [.one ⟨some 1, .box (.t 0)⟩,
     .one ⟨some 2, .alloc [.nil, .nil]⟩,
     .one ⟨some 3, .move (.c (.int .i64 0))⟩])
   (.seq (.region [.one ⟨some 4, .load 2 true .any (.t 1)⟩,
      .one ⟨some 5, .call false .any 160 [.t 4, .c (.int .i64 (-1))]⟩,
      .one ⟨some 6, .extract (.t 5) 0⟩,
      .one ⟨some 7, .extract (.t 5) 1⟩,
      .one ⟨none, .store 2 (.t 2) (.t 6)⟩,
      .one ⟨some 3, .move (.t 7)⟩])
    .ret)) }
/-- gradus/ring.Scale: number 160 -/
def ring_Scale : AFunc := { params := [.any, .any], results := [.cell 4 2 true, .tmp 5], body :=
  (.seq (.region [.one ⟨some 2, .box (.t 0)⟩,
     .one ⟨some 3, .box (.t 1)⟩,
     .one ⟨some 4, .alloc [.nil, .nil]⟩,
     .one ⟨some 5, .move (.c (.int .i64 0))⟩])
   (.seq (.region [.one ⟨some 6, .load 2 true .any (.t 2)⟩,
      .one ⟨some 7, .load 2 true .any (.t 2)⟩,
      .one ⟨some 8, .mkfn 186 [.t 3]⟩,
      .one ⟨some 9, .call false .any 180 [.t 6, .t 7, .t 8]⟩,
      .one ⟨some 10, .extract (.t 9) 0⟩,
      .one ⟨some 11, .extract (.t 9) 1⟩,
      .one ⟨none, .store 2 (.t 4) (.t 10)⟩,
      .one ⟨some 5, .move (.t 11)⟩])
    .ret)) }
/-- gradus/turn.Turn: number 161 -/
def turn_Turn_b0 : ACode :=
 (.seq (.region [.one ⟨some 38, .bin .lss 0 (.t 37) (.t 36)⟩])
  (.seq (.cond (.t 38) .skip
    (.exit 3))
   (.seq (.block 4 (.seq (.region [.one ⟨some 39, .move (.t 37)⟩,
        .one ⟨some 8, .move (.t 39)⟩])
      (.region [.one ⟨some 40, .fieldAddr 1 (.t 6)⟩,
        .one ⟨some 41, .load 1 false .any (.t 40)⟩,
        .one ⟨some 42, .move (.t 8)⟩,
        .one ⟨some 43, .move (.t 4)⟩,
        .one ⟨some 44, .bin .mul 0 (.t 42) (.t 43)⟩,
        .one ⟨some 45, .move (.t 7)⟩,
        .one ⟨some 46, .bin .add 0 (.t 44) (.t 45)⟩,
        .one ⟨some 47, .fieldAddr 1 (.t 1)⟩,
        .one ⟨some 48, .load 1 false .any (.t 47)⟩,
        .one ⟨some 49, .move (.t 7)⟩,
        .one ⟨some 50, .move (.t 5)⟩,
        .one ⟨some 51, .bin .mul 0 (.t 49) (.t 50)⟩,
        .one ⟨some 52, .move (.t 8)⟩,
        .one ⟨some 53, .bin .add 0 (.t 51) (.t 52)⟩,
        .one ⟨some 54, .indexAddr 1 (.t 48) (.t 53)⟩,
        .one ⟨some 55, .load 1 false .any (.t 54)⟩,
        .one ⟨some 56, .indexAddr 1 (.t 41) (.t 46)⟩,
        .one ⟨none, .store 1 (.t 56) (.t 55)⟩])))
    (.region [.one ⟨some 57, .bin .add 0 (.t 37) (.c (.int .i64 1))⟩,
      .one ⟨some 37, .move (.t 57)⟩]))))
def turn_Turn_l0 : ACode :=
 (.loop [(1, .any), (2, .any), (4, .any), (5, .any), (6, .any), (7, .any), (32, .any), (33, .any), (36, .any), (37, .any)] [(3, [(1, .any), (2, .any), (4, .any), (5, .any), (6, .any), (32, .any), (33, .any)])] [] turn_Turn_b0)
def turn_Turn_b1 : ACode :=
 (.seq (.region [.one ⟨some 34, .bin .lss 0 (.t 33) (.t 32)⟩])
  (.seq (.cond (.t 34) .skip
    (.exit 1))
   (.seq (.block 2 (.seq (.region [.one ⟨some 35, .move (.t 33)⟩,
        .one ⟨some 7, .move (.t 35)⟩])
      (.seq (.region [.one ⟨some 36, .move (.t 5)⟩,
         .one ⟨some 37, .move (.c (.int .i64 0))⟩])
       (.block 3 turn_Turn_l0))))
    (.region [.one ⟨some 58, .bin .add 0 (.t 33) (.c (.int .i64 1))⟩,
      .one ⟨some 33, .move (.t 58)⟩]))))
def turn_Turn_l1 : ACode :=
 (.loop [(1, .any), (2, .any), (4, .any), (5, .any), (6, .any), (32, .any), (33, .any)] [(1, [(2, .any), (6, .any)])] [] turn_Turn_b1)
def turn_Turn : AFunc := { params := [.any], results := [.cell 2 2 true, .tmp 3], body :=
  (.seq (.region [.one ⟨some 1, .box (.t 0)⟩,
     .one ⟨some 2, .alloc [.nil, .nil]⟩,
     .one ⟨some 3, .move (.c (.int .i64 0))⟩])
   (.seq (.block 0 (.seq (.region [.one ⟨some 10, .load 2 true .any (.t 1)⟩,
        .one ⟨some 11, .call false .any 151 [.t 10]⟩,
        .one ⟨some 12, .un .not (.t 11)⟩,
        .one ⟨some 9, .move (.t 12)⟩])
      (.cond (.t 9) (.seq (.region [.one ⟨some 13, .build [.nil, .nil] []⟩,
          .one ⟨none, .store 2 (.t 2) (.t 13)⟩,
          .one ⟨some 3, .move (.c (.int .i64 1))⟩])
        .ret)
       (.seq (.region [.one ⟨some 15, .fieldAddr 0 (.t 1)⟩,
          .one ⟨some 16, .load 1 false .any (.t 15)⟩,
          .one ⟨some 17, .len (.t 16)⟩,
          .one ⟨some 18, .bin .neq 0 (.t 17) (.c (.int .i64 2))⟩,
          .one ⟨some 14, .move (.t 18)⟩])
        (.cond (.t 14) (.seq (.region [.one ⟨some 19, .build [.nil, .nil] []⟩,
            .one ⟨none, .store 2 (.t 2) (.t 19)⟩,
            .one ⟨some 3, .move (.c (.int .i64 4))⟩])
          .ret)
         .skip)))))
    (.seq (.region [.one ⟨some 20, .fieldAddr 0 (.t 1)⟩,
       .one ⟨some 21, .load 1 false .any (.t 20)⟩,
       .one ⟨some 22, .indexAddr 1 (.t 21) (.c (.int .i64 0))⟩,
       .one ⟨some 23, .load 1 false .any (.t 22)⟩,
       .one ⟨some 24, .fieldAddr 0 (.t 1)⟩,
       .one ⟨some 25, .load 1 false .any (.t 24)⟩,
       .one ⟨some 26, .indexAddr 1 (.t 25) (.c (.int .i64 1))⟩,
       .one ⟨some 27, .load 1 false .any (.t 26)⟩,
       .one ⟨some 4, .move (.t 23)⟩,
       .one ⟨some 5, .move (.t 27)⟩])
     (.seq (.region [.one ⟨some 28, .move (.t 5)⟩,
        .one ⟨some 29, .move (.t 4)⟩,
        .one ⟨some 30, .buildSlice 1 2 [.int .i64 0] [(0, .t 28), (1, .t 29)]⟩,
        .one ⟨some 31, .call false .any 152 [.t 30]⟩,
        .one ⟨some 6, .alloc [.nil, .nil]⟩,
        .one ⟨none, .store 2 (.t 6) (.t 31)⟩])
      (.seq (.seq (.region [.one ⟨some 32, .move (.t 4)⟩,
          .one ⟨some 33, .move (.c (.int .i64 0))⟩])
        (.block 1 turn_Turn_l1))
       (.seq (.region [.one ⟨some 59, .load 2 true .any (.t 6)⟩,
          .one ⟨none, .store 2 (.t 2) (.t 59)⟩,
          .one ⟨some 3, .move (.c (.int .i64 0))⟩])
        .ret)))))) }
/-- gradus/turn.Shape: number 162 -/
def turn_Shape : AFunc := { params := [.any, .any], results := [.cell 4 2 true, .tmp 5], body :=
  (.seq (.region [.one ⟨some 2, .box (.t 0)⟩,
     .one ⟨some 4, .alloc [.nil, .nil]⟩,
     .one ⟨some 5, .move (.c (.int .i64 0))⟩])
   (.seq (.block 0 (.seq (.region [.one ⟨some 7, .load 2 true .any (.t 2)⟩,
        .one ⟨some 8, .call false .any 151 [.t 7]⟩,
        .one ⟨some 9, .un .not (.t 8)⟩,
        .one ⟨some 10, .move (.t 9)⟩,
        .grd 10 false [⟨some 11, .move (.t 1)⟩, ⟨some 12, .call false .any 145 [.t 11]⟩, ⟨some 13, .un .not (.t 12)⟩],
        .one ⟨some 14, .pick (.t 10) (.c (.bool true)) (.t 13)⟩,
        .one ⟨some 6, .move (.t 14)⟩])
      (.cond (.t 6) (.seq (.region [.one ⟨some 15, .build [.nil, .nil] []⟩,
          .one ⟨none, .store 2 (.t 4) (.t 15)⟩,
          .one ⟨some 5, .move (.c (.int .i64 1))⟩])
        .ret)
       (.seq (.region [.one ⟨some 17, .move (.t 1)⟩,
          .one ⟨some 18, .call true .any 106 [.t 17]⟩,
          .one ⟨some 19, .fieldAddr 1 (.t 2)⟩,
          .one ⟨some 20, .load 1 false .any (.t 19)⟩,
          .one ⟨some 21, .len (.t 20)⟩,
          .one ⟨some 22, .bin .neq 0 (.t 18) (.t 21)⟩,
          .one ⟨some 16, .move (.t 22)⟩])
        (.cond (.t 16) (.seq (.region [.one ⟨some 23, .build [.nil, .nil] []⟩,
            .one ⟨none, .store 2 (.t 4) (.t 23)⟩,
            .one ⟨some 5, .move (.c (.int .i64 4))⟩])
          .ret)
         .skip)))))
    (.seq (.region [.one ⟨some 24, .move (.t 1)⟩,
       .one ⟨some 25, .call true .any 112 [.t 24]⟩,
       .one ⟨some 26, .fieldAddr 1 (.t 2)⟩,
       .one ⟨some 27, .load 1 false .any (.t 26)⟩,
       .one ⟨some 28, .call true .any 112 [.t 27]⟩,
       .one ⟨some 29, .build [.nil, .nil] [(0, 1, .t 25), (1, 1, .t 28)]⟩,
       .one ⟨none, .store 2 (.t 4) (.t 29)⟩,
       .one ⟨some 5, .move (.c (.int .i64 0))⟩])
     .ret))) }
/-- gradus/turn.Wide: number 163 -/
def turn_Wide_b0 : ACode :=
 (.seq (.region [.one ⟨some 31, .bin .lss 0 (.t 30) (.t 29)⟩])
  (.seq (.cond (.t 31) .skip
    (.exit 1))
   (.seq (.block 2 (.seq (.region [.one ⟨some 32, .move (.t 30)⟩,
        .one ⟨some 7, .move (.t 32)⟩])
      (.region [.one ⟨some 33, .fieldAddr 1 (.t 6)⟩,
        .one ⟨some 34, .load 1 false .any (.t 33)⟩,
        .one ⟨some 35, .move (.t 7)⟩,
        .one ⟨some 36, .fieldAddr 1 (.t 2)⟩,
        .one ⟨some 37, .load 1 false .any (.t 36)⟩,
        .one ⟨some 38, .fieldAddr 0 (.t 2)⟩,
        .one ⟨some 39, .load 1 false .any (.t 38)⟩,
        .one ⟨some 40, .move (.t 1)⟩,
        .one ⟨some 41, .move (.t 7)⟩,
        .one ⟨some 42, .call true .any 187 [.t 39, .t 40, .t 41]⟩,
        .one ⟨some 43, .indexAddr 1 (.t 37) (.t 42)⟩,
        .one ⟨some 44, .load 1 false .any (.t 43)⟩,
        .one ⟨some 45, .indexAddr 1 (.t 34) (.t 35)⟩,
        .one ⟨none, .store 1 (.t 45) (.t 44)⟩])))
    (.region [.one ⟨some 46, .bin .add 0 (.t 30) (.c (.int .i64 1))⟩,
      .one ⟨some 30, .move (.t 46)⟩]))))
def turn_Wide_l0 : ACode :=
 (.loop [(1, .any), (2, .any), (4, .any), (6, .any), (29, .any), (30, .any)] [(1, [(4, .any), (6, .any)])] [] turn_Wide_b0)
def turn_Wide : AFunc := { params := [.any, .any], results := [.cell 4 2 true, .tmp 5], body :=
  (.seq (.region [.one ⟨some 2, .box (.t 0)⟩,
     .one ⟨some 4, .alloc [.nil, .nil]⟩,
     .one ⟨some 5, .move (.c (.int .i64 0))⟩])
   (.seq (.block 0 (.seq (.region [.one ⟨some 9, .load 2 true .any (.t 2)⟩,
        .one ⟨some 10, .call false .any 151 [.t 9]⟩,
        .one ⟨some 11, .un .not (.t 10)⟩,
        .one ⟨some 12, .move (.t 11)⟩,
        .grd 12 false [⟨some 13, .move (.t 1)⟩, ⟨some 14, .call false .any 145 [.t 13]⟩, ⟨some 15, .un .not (.t 14)⟩],
        .one ⟨some 16, .pick (.t 12) (.c (.bool true)) (.t 15)⟩,
        .one ⟨some 8, .move (.t 16)⟩])
      (.cond (.t 8) (.seq (.region [.one ⟨some 17, .build [.nil, .nil] []⟩,
          .one ⟨none, .store 2 (.t 4) (.t 17)⟩,
          .one ⟨some 5, .move (.c (.int .i64 1))⟩])
        .ret)
       (.seq (.region [.one ⟨some 19, .fieldAddr 0 (.t 2)⟩,
          .one ⟨some 20, .load 1 false .any (.t 19)⟩,
          .one ⟨some 21, .move (.t 1)⟩,
          .one ⟨some 22, .call false .any 146 [.t 20, .t 21]⟩,
          .one ⟨some 23, .un .not (.t 22)⟩,
          .one ⟨some 18, .move (.t 23)⟩])
        (.cond (.t 18) (.seq (.region [.one ⟨some 24, .build [.nil, .nil] []⟩,
            .one ⟨none, .store 2 (.t 4) (.t 24)⟩,
            .one ⟨some 5, .move (.c (.int .i64 4))⟩])
          .ret)
         .skip)))))
    (.seq (.region [.one ⟨some 25, .move (.t 1)⟩,
       .one ⟨some 26, .call false .any 152 [.t 25]⟩,
       .one ⟨some 6, .alloc [.nil, .nil]⟩,
       .one ⟨none, .store 2 (.t 6) (.t 26)⟩])
     (.seq (.seq (.region [.one ⟨some 27, .fieldAddr 1 (.t 6)⟩,
         .one ⟨some 28, .load 1 false .any (.t 27)⟩,
         .one ⟨some 29, .len (.t 28)⟩,
         .one ⟨some 30, .move (.c (.int .i64 0))⟩])
       (.block 1 turn_Wide_l0))
      (.seq (.region [.one ⟨some 47, .load 2 true .any (.t 6)⟩,
         .one ⟨none, .store 2 (.t 4) (.t 47)⟩,
         .one ⟨some 5, .move (.c (.int .i64 0))⟩])
       .ret))))) }
/-- gradus/turn.Sum: number 164 -/
def turn_Sum_b0 : ACode :=
 (.seq (.region [.one ⟨some 32, .bin .lss 0 (.t 31) (.t 30)⟩])
  (.seq (.cond (.t 32) .skip
    (.exit 1))
   (.seq (.block 2 (.seq (.region [.one ⟨some 33, .move (.t 31)⟩,
        .one ⟨some 34, .indexAddr 1 (.t 29) (.t 31)⟩,
        .one ⟨some 35, .load 1 false .any (.t 34)⟩,
        .one ⟨some 7, .move (.t 33)⟩,
        .one ⟨some 8, .move (.t 35)⟩])
      (.region [.one ⟨some 36, .fieldAddr 1 (.t 6)⟩,
        .one ⟨some 37, .load 1 false .any (.t 36)⟩,
        .one ⟨some 38, .move (.t 1)⟩,
        .one ⟨some 39, .fieldAddr 0 (.t 2)⟩,
        .one ⟨some 40, .load 1 false .any (.t 39)⟩,
        .one ⟨some 41, .move (.t 7)⟩,
        .one ⟨some 42, .call true .any 187 [.t 38, .t 40, .t 41]⟩,
        .one ⟨some 43, .indexAddr 1 (.t 37) (.t 42)⟩,
        .one ⟨some 44, .load 1 false .any (.t 43)⟩,
        .one ⟨some 45, .move (.t 8)⟩,
        .one ⟨some 46, .bin .add 0 (.t 44) (.t 45)⟩,
        .one ⟨some 47, .indexAddr 1 (.t 37) (.t 42)⟩,
        .one ⟨none, .store 1 (.t 47) (.t 46)⟩])))
    (.region [.one ⟨some 48, .bin .add 0 (.t 31) (.c (.int .i64 1))⟩,
      .one ⟨some 31, .move (.t 48)⟩]))))
def turn_Sum_l0 : ACode :=
 (.loop [(1, .any), (2, .any), (4, .any), (6, .any), (29, .any), (30, .any), (31, .any)] [(1, [(4, .any), (6, .any)])] [] turn_Sum_b0)
def turn_Sum : AFunc := { params := [.any, .any], results := [.cell 4 2 true, .tmp 5], body :=
  (.seq (.region [.one ⟨some 2, .box (.t 0)⟩,
     .one ⟨some 4, .alloc [.nil, .nil]⟩,
     .one ⟨some 5, .move (.c (.int .i64 0))⟩])
   (.seq (.block 0 (.seq (.region [.one ⟨some 10, .load 2 true .any (.t 2)⟩,
        .one ⟨some 11, .call false .any 151 [.t 10]⟩,
        .one ⟨some 12, .un .not (.t 11)⟩,
        .one ⟨some 13, .move (.t 12)⟩,
        .grd 13 false [⟨some 14, .move (.t 1)⟩, ⟨some 15, .call false .any 145 [.t 14]⟩, ⟨some 16, .un .not (.t 15)⟩],
        .one ⟨some 17, .pick (.t 13) (.c (.bool true)) (.t 16)⟩,
        .one ⟨some 9, .move (.t 17)⟩])
      (.cond (.t 9) (.seq (.region [.one ⟨some 18, .build [.nil, .nil] []⟩,
          .one ⟨none, .store 2 (.t 4) (.t 18)⟩,
          .one ⟨some 5, .move (.c (.int .i64 1))⟩])
        .ret)
       (.seq (.region [.one ⟨some 20, .move (.t 1)⟩,
          .one ⟨some 21, .fieldAddr 0 (.t 2)⟩,
          .one ⟨some 22, .load 1 false .any (.t 21)⟩,
          .one ⟨some 23, .call false .any 146 [.t 20, .t 22]⟩,
          .one ⟨some 24, .un .not (.t 23)⟩,
          .one ⟨some 19, .move (.t 24)⟩])
        (.cond (.t 19) (.seq (.region [.one ⟨some 25, .build [.nil, .nil] []⟩,
            .one ⟨none, .store 2 (.t 4) (.t 25)⟩,
            .one ⟨some 5, .move (.c (.int .i64 4))⟩])
          .ret)
         .skip)))))
    (.seq (.region [.one ⟨some 26, .move (.t 1)⟩,
       .one ⟨some 27, .call false .any 152 [.t 26]⟩,
       .one ⟨some 6, .alloc [.nil, .nil]⟩,
       .one ⟨none, .store 2 (.t 6) (.t 27)⟩])
     (.seq (.seq (.region [.one ⟨some 28, .fieldAddr 1 (.t 2)⟩,
         .one ⟨some 29, .load 1 false .any (.t 28)⟩,
         .one ⟨some 30, .len (.t 29)⟩,
         .one ⟨some 31, .move (.c (.int .i64 0))⟩])
       (.block 1 turn_Sum_l0))
      (.seq (.region [.one ⟨some 49, .load 2 true .any (.t 6)⟩,
         .one ⟨none, .store 2 (.t 4) (.t 49)⟩,
         .one ⟨some 5, .move (.c (.int .i64 0))⟩])
       .ret))))) }
/-- gradus/gate.Relu: number 165 -/
def gate_Relu : AFunc := { params := [.any], results := [.cell 2 2 true, .tmp 3], body :=
  (.seq (.region [.one ⟨some 1, .box (.t 0)⟩,
     .one ⟨some 2, .alloc [.nil, .nil]⟩,
     .one ⟨some 3, .move (.c (.int .i64 0))⟩])
   (.seq (.region [.one ⟨some 4, .load 2 true .any (.t 1)⟩,
      .one ⟨some 5, .load 2 true .any (.t 1)⟩,
      .one ⟨some 6, .call false .any 157 [.t 4, .t 5]⟩,
      .one ⟨some 7, .extract (.t 6) 0⟩,
      .one ⟨some 8, .extract (.t 6) 1⟩,
      .one ⟨none, .store 2 (.t 2) (.t 7)⟩,
      .one ⟨some 3, .move (.t 8)⟩])
    .ret)) }
/-- gradus/gate.Max: number 166 -/
def gate_Max_b0 : ACode :=
 (.seq (.region [.one ⟨some 26, .bin .lss 0 (.t 25) (.t 24)⟩])
  (.seq (.cond (.t 26) .skip
    (.exit 0))
   (.seq (.block 1 (.seq (.region [.one ⟨some 27, .move (.t 25)⟩,
        .one ⟨some 9, .move (.t 27)⟩])
      (.region [.one ⟨some 28, .fieldAddr 1 (.t 8)⟩,
        .one ⟨some 29, .load 1 false .any (.t 28)⟩,
        .one ⟨some 30, .move (.t 9)⟩,
        .one ⟨some 31, .fieldAddr 1 (.t 2)⟩,
        .one ⟨some 32, .load 1 false .any (.t 31)⟩,
        .one ⟨some 33, .move (.t 9)⟩,
        .one ⟨some 34, .move (.t 1)⟩,
        .one ⟨some 35, .bin .mul 0 (.t 33) (.t 34)⟩,
        .one ⟨some 36, .move (.t 9)⟩,
        .one ⟨some 37, .move (.t 1)⟩,
        .one ⟨some 38, .bin .mul 0 (.t 36) (.t 37)⟩,
        .one ⟨some 39, .move (.t 1)⟩,
        .one ⟨some 40, .bin .add 0 (.t 38) (.t 39)⟩,
        .one ⟨some 41, .cut 1 (.t 32) (some (.t 35)) (some (.t 40))⟩,
        .one ⟨some 42, .call true .any 73 [.t 41]⟩,
        .one ⟨some 43, .indexAddr 1 (.t 29) (.t 30)⟩,
        .one ⟨none, .store 1 (.t 43) (.t 42)⟩])))
    (.region [.one ⟨some 44, .bin .add 0 (.t 25) (.c (.int .i64 1))⟩,
      .one ⟨some 25, .move (.t 44)⟩]))))
def gate_Max_l0 : ACode :=
 (.loop [(1, .any), (2, .any), (4, .any), (8, .any), (24, .any), (25, .any)] [(0, [(4, .any), (8, .any)])] [] gate_Max_b0)
def gate_Max : AFunc := { params := [.any, .any], results := [.cell 4 2 true, .tmp 5], body :=
  (.seq (.region [.one ⟨some 2, .box (.t 0)⟩,
     .one ⟨some 4, .alloc [.nil, .nil]⟩,
     .one ⟨some 5, .move (.c (.int .i64 0))⟩])
   (.seq (.region [.one ⟨some 11, .load 2 true .any (.t 2)⟩,
      .one ⟨some 12, .move (.t 1)⟩,
      .one ⟨some 13, .call false .any 184 [.t 11, .t 12]⟩,
      .one ⟨some 10, .move (.t 13)⟩,
      .one ⟨some 14, .extract (.t 10) 0⟩,
      .one ⟨some 15, .extract (.t 10) 1⟩,
      .one ⟨some 6, .move (.t 14)⟩,
      .one ⟨some 7, .move (.t 15)⟩])
    (.seq (.seq (.region [.one ⟨some 16, .move (.t 7)⟩,
        .one ⟨some 17, .bin .neq 0 (.t 16) (.c (.int .i64 0))⟩])
      (.cond (.t 17) (.seq (.region [.one ⟨some 18, .build [.nil, .nil] []⟩,
          .one ⟨some 19, .move (.t 7)⟩,
          .one ⟨none, .store 2 (.t 4) (.t 18)⟩,
          .one ⟨some 5, .move (.t 19)⟩])
        .ret)
       .skip))
     (.seq (.region [.one ⟨some 20, .move (.t 6)⟩,
        .one ⟨some 21, .call false .any 152 [.t 20]⟩,
        .one ⟨some 8, .alloc [.nil, .nil]⟩,
        .one ⟨none, .store 2 (.t 8) (.t 21)⟩])
      (.seq (.seq (.region [.one ⟨some 22, .fieldAddr 1 (.t 8)⟩,
          .one ⟨some 23, .load 1 false .any (.t 22)⟩,
          .one ⟨some 24, .len (.t 23)⟩,
          .one ⟨some 25, .move (.c (.int .i64 0))⟩])
        (.block 0 gate_Max_l0))
       (.seq (.region [.one ⟨some 45, .load 2 true .any (.t 8)⟩,
          .one ⟨none, .store 2 (.t 4) (.t 45)⟩,
          .one ⟨some 5, .move (.c (.int .i64 0))⟩])
        .ret)))))) }
/-- gradus/shape.May$1: number 178 -/
def shape_May_1 : AFunc := { params := [.any], results := [.tmp 2], body :=
  (.seq (.region [.one ⟨some 2, .move (.c (.bool false))⟩])
   (.seq (.region [.one ⟨some 3, .move (.t 0)⟩,
      .one ⟨some 4, .bin .lss 0 (.t 3) (.c (.int .i64 1))⟩,
      .one ⟨some 5, .move (.t 4)⟩,
      .grd 5 false [⟨some 6, .move (.t 0)⟩, ⟨some 7, .bin .gtr 0 (.t 6) (.c (.int .i64 8))⟩],
      .one ⟨some 8, .pick (.t 5) (.c (.bool true)) (.t 7)⟩,
      .one ⟨some 2, .move (.t 8)⟩])
    .ret)) }
/-- slices.IndexFunc[[][]int,[]int]: number 179 -/
def slices_IndexFunc_ints_b0 : ACode :=
 (.seq (.region [.one ⟨some 9, .bin .lss 0 (.t 8) (.t 7)⟩])
  (.seq (.cond (.t 9) .skip
    (.exit 0))
   (.seq (.block 1 (.seq (.region [.one ⟨some 10, .move (.t 8)⟩,
        .one ⟨some 5, .move (.t 10)⟩])
      (.seq (.region [.one ⟨some 11, .move (.t 1)⟩,
         .one ⟨some 12, .move (.t 0)⟩,
         .one ⟨some 13, .move (.t 5)⟩,
         .one ⟨some 14, .indexAddr 1 (.t 12) (.t 13)⟩,
         .one ⟨some 15, .load 1 false .any (.t 14)⟩,
         .one ⟨some 16, .callv false .any (.t 11) [.t 15]⟩])
       (.cond (.t 16) (.seq (.region [.one ⟨some 17, .move (.t 5)⟩,
           .one ⟨some 4, .move (.t 17)⟩])
         .ret)
        .skip))))
    (.region [.one ⟨some 18, .bin .add 0 (.t 8) (.c (.int .i64 1))⟩,
      .one ⟨some 8, .move (.t 18)⟩]))))
def slices_IndexFunc_ints_l0 : ACode :=
 (.loop [(0, .any), (1, .any), (7, .any), (8, .any)] [(0, [])] [(4, .any)] slices_IndexFunc_ints_b0)
def slices_IndexFunc_ints : AFunc := { params := [.any, .any], results := [.tmp 4], body :=
  (.seq (.region [.one ⟨some 4, .move (.c (.int .i64 0))⟩])
   (.seq (.seq (.region [.one ⟨some 6, .move (.t 0)⟩,
       .one ⟨some 7, .len (.t 6)⟩,
       .one ⟨some 8, .move (.c (.int .i64 0))⟩])
     (.block 0 slices_IndexFunc_ints_l0))
    (.seq (.region [.one ⟨some 4, .move (.c (.int .i64 (-1)))⟩])
     .ret))) }
/-- gradus/ring.two: number 180 -/
def ring_two_b0 : ACode :=
 (.seq (.region [.one ⟨some 25, .bin .lss 0 (.t 24) (.t 23)⟩])
  (.seq (.cond (.t 25) .skip
    (.exit 0))
   (.seq (.block 1 (.seq (.region [.one ⟨some 26, .move (.t 24)⟩,
        .one ⟨some 10, .move (.t 26)⟩])
      (.region [.one ⟨some 27, .fieldAddr 1 (.t 9)⟩,
        .one ⟨some 28, .load 1 false .any (.t 27)⟩,
        .one ⟨some 29, .move (.t 10)⟩,
        .one ⟨some 30, .move (.t 2)⟩,
        .one ⟨some 31, .fieldAddr 1 (.t 3)⟩,
        .one ⟨some 32, .load 1 false .any (.t 31)⟩,
        .one ⟨some 33, .move (.t 10)⟩,
        .one ⟨some 34, .indexAddr 1 (.t 32) (.t 33)⟩,
        .one ⟨some 35, .load 1 false .any (.t 34)⟩,
        .one ⟨some 36, .fieldAddr 1 (.t 4)⟩,
        .one ⟨some 37, .load 1 false .any (.t 36)⟩,
        .one ⟨some 38, .move (.t 10)⟩,
        .one ⟨some 39, .indexAddr 1 (.t 37) (.t 38)⟩,
        .one ⟨some 40, .load 1 false .any (.t 39)⟩,
        .one ⟨some 41, .callv true .any (.t 30) [.t 35, .t 40]⟩,
        .one ⟨some 42, .indexAddr 1 (.t 28) (.t 29)⟩,
        .one ⟨none, .store 1 (.t 42) (.t 41)⟩])))
    (.region [.one ⟨some 43, .bin .add 0 (.t 24) (.c (.int .i64 1))⟩,
      .one ⟨some 24, .move (.t 43)⟩]))))
def ring_two_l0 : ACode :=
 (.loop [(2, .any), (3, .any), (4, .any), (6, .any), (9, .any), (23, .any), (24, .any)] [(0, [(6, .any), (9, .any)])] [] ring_two_b0)
def ring_two : AFunc := { params := [.any, .any, .any], results := [.cell 6 2 true, .tmp 7], body :=
  (.seq (.region [.one ⟨some 3, .box (.t 0)⟩,
     .one ⟨some 4, .box (.t 1)⟩,
     .one ⟨some 6, .alloc [.nil, .nil]⟩,
     .one ⟨some 7, .move (.c (.int .i64 0))⟩])
   (.seq (.seq (.region [.one ⟨some 11, .load 2 true .any (.t 3)⟩,
       .one ⟨some 12, .load 2 true .any (.t 4)⟩,
       .one ⟨some 13, .call false .any 194 [.t 11, .t 12]⟩,
       .one ⟨some 8, .move (.t 13)⟩])
     (.seq (.region [.one ⟨some 14, .move (.t 8)⟩,
        .one ⟨some 15, .bin .neq 0 (.t 14) (.c (.int .i64 0))⟩])
      (.cond (.t 15) (.seq (.region [.one ⟨some 16, .build [.nil, .nil] []⟩,
          .one ⟨some 17, .move (.t 8)⟩,
          .one ⟨none, .store 2 (.t 6) (.t 16)⟩,
          .one ⟨some 7, .move (.t 17)⟩])
        .ret)
       .skip)))
    (.seq (.region [.one ⟨some 18, .fieldAddr 0 (.t 3)⟩,
       .one ⟨some 19, .load 1 false .any (.t 18)⟩,
       .one ⟨some 20, .call false .any 152 [.t 19]⟩,
       .one ⟨some 9, .alloc [.nil, .nil]⟩,
       .one ⟨none, .store 2 (.t 9) (.t 20)⟩])
     (.seq (.seq (.region [.one ⟨some 21, .fieldAddr 1 (.t 9)⟩,
         .one ⟨some 22, .load 1 false .any (.t 21)⟩,
         .one ⟨some 23, .len (.t 22)⟩,
         .one ⟨some 24, .move (.c (.int .i64 0))⟩])
       (.block 0 ring_two_l0))
      (.seq (.region [.one ⟨some 44, .load 2 true .any (.t 9)⟩,
         .one ⟨none, .store 2 (.t 6) (.t 44)⟩,
         .one ⟨some 7, .move (.c (.int .i64 0))⟩])
       .ret))))) }
/-- gradus/ring.Add$1: number 181 -/
def ring_Add_1 : AFunc := { params := [.any, .any], results := [.tmp 4], body :=
  (.seq (.region [.one ⟨some 4, .move (.c (.int .i64 0))⟩])
   (.seq (.region [.one ⟨some 5, .move (.t 0)⟩,
      .one ⟨some 6, .move (.t 1)⟩,
      .one ⟨some 7, .bin .add 0 (.t 5) (.t 6)⟩,
      .one ⟨some 4, .move (.t 7)⟩])
    .ret)) }
/-- gradus/ring.Sub$1: number 182 -/
def ring_Sub_1 : AFunc := { params := [.any, .any], results := [.tmp 4], body :=
  (.seq (.region [.one ⟨some 4, .move (.c (.int .i64 0))⟩])
   (.seq (.region [.one ⟨some 5, .move (.t 0)⟩,
      .one ⟨some 6, .move (.t 1)⟩,
      .one ⟨some 7, .bin .sub 0 (.t 5) (.t 6)⟩,
      .one ⟨some 4, .move (.t 7)⟩])
    .ret)) }
/-- gradus/ring.Mul$1: number 183 -/
def ring_Mul_1 : AFunc := { params := [.any, .any], results := [.tmp 4], body :=
  (.seq (.region [.one ⟨some 4, .move (.c (.int .i64 0))⟩])
   (.seq (.region [.one ⟨some 5, .move (.t 0)⟩,
      .one ⟨some 6, .move (.t 1)⟩,
      .one ⟨some 7, .bin .mul 0 (.t 5) (.t 6)⟩,
      .one ⟨some 4, .move (.t 7)⟩])
    .ret)) }
/-- gradus/gate.asked: number 184 -/
def gate_asked : AFunc := { params := [.any, .any], results := [.tmp 4, .tmp 5], body :=
  (.seq (.region [.one ⟨some 2, .box (.t 0)⟩,
     .one ⟨some 4, .move (.c (.nil))⟩,
     .one ⟨some 5, .move (.c (.int .i64 0))⟩])
   (.seq (.seq (.region [.one ⟨some 8, .load 2 true .any (.t 2)⟩,
       .one ⟨some 9, .call false .any 151 [.t 8]⟩,
       .one ⟨some 10, .un .not (.t 9)⟩,
       .one ⟨some 11, .move (.t 10)⟩,
       .grd 11 false [⟨some 12, .move (.t 1)⟩, ⟨some 13, .bin .lss 0 (.t 12) (.c (.int .i64 1))⟩],
       .one ⟨some 14, .pick (.t 11) (.c (.bool true)) (.t 13)⟩,
       .one ⟨some 15, .move (.t 14)⟩,
       .grd 15 false [⟨some 16, .move (.t 1)⟩, ⟨some 17, .bin .gtr 0 (.t 16) (.c (.int .i64 8))⟩],
       .one ⟨some 18, .pick (.t 15) (.c (.bool true)) (.t 17)⟩])
     (.cond (.t 18) (.seq (.region [.one ⟨some 4, .move (.c (.nil))⟩,
         .one ⟨some 5, .move (.c (.int .i64 1))⟩])
       .ret)
      .skip))
    (.seq (.region [.one ⟨some 20, .fieldAddr 0 (.t 2)⟩,
       .one ⟨some 21, .load 1 false .any (.t 20)⟩,
       .one ⟨some 22, .move (.t 1)⟩,
       .one ⟨some 23, .call false .any 147 [.t 21, .t 22]⟩,
       .one ⟨some 19, .move (.t 23)⟩,
       .one ⟨some 24, .extract (.t 19) 0⟩,
       .one ⟨some 25, .extract (.t 19) 1⟩,
       .one ⟨some 6, .move (.t 24)⟩,
       .one ⟨some 7, .move (.t 25)⟩])
     (.seq (.seq (.region [.one ⟨some 26, .move (.t 7)⟩,
         .one ⟨some 27, .un .not (.t 26)⟩])
       (.cond (.t 27) (.seq (.region [.one ⟨some 4, .move (.c (.nil))⟩,
           .one ⟨some 5, .move (.c (.int .i64 4))⟩])
         .ret)
        .skip))
      (.seq (.region [.one ⟨some 28, .move (.t 6)⟩,
         .one ⟨some 4, .move (.t 28)⟩,
         .one ⟨some 5, .move (.c (.int .i64 0))⟩])
       .ret))))) }
/-- gradus/gate.greatest: number 185 -/
def gate_greatest : AFunc := { params := [.any], results := [.tmp 2], body :=
  (.seq (.region [.one ⟨some 2, .move (.c (.int .i64 0))⟩])
   (.seq (.region [.one ⟨some 3, .move (.t 0)⟩,
      .one ⟨some 4, .move (.t 0)⟩,
      .one ⟨some 5, .call false .any 73 [.t 4]⟩,
      .one ⟨some 6, .call false .any 107 [.t 3, .t 5]⟩,
      .one ⟨some 2, .move (.t 6)⟩])
    .ret)) }
/-- gradus/ring.Scale$1: number 186 -/
def ring_Scale_1 : AFunc := { params := [.any, .any, .any], results := [.tmp 5], body :=
  (.seq (.region [.one ⟨some 5, .move (.c (.int .i64 0))⟩])
   (.seq (.region [.one ⟨some 6, .move (.t 0)⟩,
      .one ⟨some 7, .load 1 false .any (.t 2)⟩,
      .one ⟨some 8, .bin .mul 0 (.t 6) (.t 7)⟩,
      .one ⟨some 5, .move (.t 8)⟩])
    .ret)) }
/-- gradus/turn.low: number 187 -/
def turn_low_b0 : ACode :=
 (.seq (.region [.one ⟨some 16, .bin .lss 0 (.t 15) (.t 14)⟩])
  (.seq (.cond (.t 16) .skip
    (.exit 0))
   (.seq (.block 1 (.seq (.region [.one ⟨some 17, .move (.t 15)⟩,
        .one ⟨some 18, .indexAddr 1 (.t 13) (.t 15)⟩,
        .one ⟨some 19, .load 1 false .any (.t 18)⟩,
        .one ⟨some 8, .move (.t 17)⟩,
        .one ⟨some 9, .move (.t 19)⟩])
      (.seq (.region [.one ⟨some 20, .move (.t 9)⟩,
         .one ⟨some 21, .bin .eql 0 (.t 20) (.c (.int .i64 1))⟩])
       (.cond (.t 21) (.region [.one ⟨some 22, .move (.t 7)⟩,
          .one ⟨some 23, .move (.t 8)⟩,
          .one ⟨some 24, .indexAddr 1 (.t 22) (.t 23)⟩,
          .one ⟨none, .store 1 (.t 24) (.c (.int .i64 0))⟩])
        .skip))))
    (.region [.one ⟨some 25, .bin .add 0 (.t 15) (.c (.int .i64 1))⟩,
      .one ⟨some 15, .move (.t 25)⟩]))))
def turn_low_l0 : ACode :=
 (.loop [(0, .any), (7, .any), (13, .any), (14, .any), (15, .any)] [(0, [(0, .any), (7, .any)])] [] turn_low_b0)
def turn_low : AFunc := { params := [.any, .any, .any], results := [.tmp 6], body :=
  (.seq (.region [.one ⟨some 6, .move (.c (.int .i64 0))⟩])
   (.seq (.region [.one ⟨some 10, .move (.t 1)⟩,
      .one ⟨some 11, .move (.t 2)⟩,
      .one ⟨some 12, .call false .any 195 [.t 10, .t 11]⟩,
      .one ⟨some 7, .move (.t 12)⟩])
    (.seq (.seq (.region [.one ⟨some 13, .move (.t 0)⟩,
        .one ⟨some 14, .len (.t 13)⟩,
        .one ⟨some 15, .move (.c (.int .i64 0))⟩])
      (.block 0 turn_low_l0))
     (.seq (.region [.one ⟨some 26, .move (.t 0)⟩,
        .one ⟨some 27, .move (.t 7)⟩,
        .one ⟨some 28, .call false .any 196 [.t 26, .t 27]⟩,
        .one ⟨some 6, .move (.t 28)⟩])
      .ret)))) }
/-- gradus/ring.pair: number 194 -/
def ring_pair : AFunc := { params := [.any, .any], results := [.tmp 4], body :=
  (.seq (.region [.one ⟨some 2, .box (.t 0)⟩,
     .one ⟨some 3, .box (.t 1)⟩,
     .one ⟨some 4, .move (.c (.int .i64 0))⟩])
   (.seq (.block 0 (.seq (.region [.one ⟨some 6, .load 2 true .any (.t 2)⟩,
        .one ⟨some 7, .load 2 true .any (.t 3)⟩,
        .one ⟨some 8, .buildSlice 2 2 [.nil, .nil] [(0, .t 6), (1, .t 7)]⟩,
        .one ⟨some 9, .call false .any 118 [.t 8]⟩,
        .one ⟨some 10, .un .not (.t 9)⟩,
        .one ⟨some 5, .move (.t 10)⟩])
      (.cond (.t 5) (.seq (.region [.one ⟨some 4, .move (.c (.int .i64 1))⟩])
        .ret)
       (.seq (.region [.one ⟨some 12, .fieldAddr 0 (.t 2)⟩,
          .one ⟨some 13, .load 1 false .any (.t 12)⟩,
          .one ⟨some 14, .fieldAddr 0 (.t 3)⟩,
          .one ⟨some 15, .load 1 false .any (.t 14)⟩,
          .one ⟨some 16, .call false .any 98 [.t 13, .t 15]⟩,
          .one ⟨some 17, .un .not (.t 16)⟩,
          .one ⟨some 11, .move (.t 17)⟩])
        (.cond (.t 11) (.seq (.region [.one ⟨some 4, .move (.c (.int .i64 4))⟩])
          .ret)
         .skip)))))
    (.seq (.region [.one ⟨some 4, .move (.c (.int .i64 0))⟩])
     .ret))) }
/-- gradus/shape.Numbers: number 195 -/
def shape_Numbers_b0 : ACode :=
 (.seq (.region [.one ⟨some 15, .bin .lss 0 (.t 14) (.t 13)⟩])
  (.seq (.cond (.t 15) .skip
    (.exit 0))
   (.seq (.block 1 (.seq (.region [.one ⟨some 16, .move (.t 14)⟩,
        .one ⟨some 17, .indexAddr 1 (.t 12) (.t 14)⟩,
        .one ⟨some 18, .load 1 false .any (.t 17)⟩,
        .one ⟨some 6, .move (.t 16)⟩,
        .one ⟨some 7, .move (.t 18)⟩])
      (.seq (.region [.one ⟨some 19, .move (.t 5)⟩,
         .one ⟨some 20, .move (.t 6)⟩,
         .one ⟨some 21, .move (.t 1)⟩,
         .one ⟨some 22, .move (.t 7)⟩,
         .one ⟨some 23, .bin .quo 0 (.t 21) (.t 22)⟩,
         .one ⟨some 24, .indexAddr 1 (.t 19) (.t 20)⟩,
         .one ⟨none, .store 1 (.t 24) (.t 23)⟩])
       (.region [.one ⟨some 25, .move (.t 1)⟩,
         .one ⟨some 26, .move (.t 7)⟩,
         .one ⟨some 27, .bin .rem 0 (.t 25) (.t 26)⟩,
         .one ⟨some 1, .move (.t 27)⟩]))))
    (.region [.one ⟨some 28, .bin .add 0 (.t 14) (.c (.int .i64 1))⟩,
      .one ⟨some 14, .move (.t 28)⟩]))))
def shape_Numbers_l0 : ACode :=
 (.loop [(1, .any), (5, .any), (12, .any), (13, .any), (14, .any)] [(0, [(5, .any)])] [] shape_Numbers_b0)
def shape_Numbers : AFunc := { params := [.any, .any], results := [.tmp 4], body :=
  (.seq (.region [.one ⟨some 4, .move (.c (.nil))⟩])
   (.seq (.region [.one ⟨some 8, .move (.t 0)⟩,
      .one ⟨some 9, .len (.t 8)⟩,
      .one ⟨some 10, .makeSlice 1 8 [.int .i64 0] (.t 9)⟩,
      .one ⟨some 5, .move (.t 10)⟩])
    (.seq (.seq (.region [.one ⟨some 11, .move (.t 0)⟩,
        .one ⟨some 12, .call false .any 198 [.t 11]⟩,
        .one ⟨some 13, .len (.t 12)⟩,
        .one ⟨some 14, .move (.c (.int .i64 0))⟩])
      (.block 0 shape_Numbers_l0))
     (.seq (.region [.one ⟨some 29, .move (.t 5)⟩,
        .one ⟨some 4, .move (.t 29)⟩])
      .ret)))) }
/-- gradus/shape.Place: number 196 -/
def shape_Place_b0 : ACode :=
 (.seq (.region [.one ⟨some 12, .bin .lss 0 (.t 11) (.t 10)⟩])
  (.seq (.cond (.t 12) .skip
    (.exit 0))
   (.seq (.block 1 (.seq (.region [.one ⟨some 13, .move (.t 11)⟩,
        .one ⟨some 14, .indexAddr 1 (.t 9) (.t 11)⟩,
        .one ⟨some 15, .load 1 false .any (.t 14)⟩,
        .one ⟨some 6, .move (.t 13)⟩,
        .one ⟨some 7, .move (.t 15)⟩])
      (.region [.one ⟨some 16, .move (.t 5)⟩,
        .one ⟨some 17, .move (.t 7)⟩,
        .one ⟨some 18, .move (.t 1)⟩,
        .one ⟨some 19, .move (.t 6)⟩,
        .one ⟨some 20, .indexAddr 1 (.t 18) (.t 19)⟩,
        .one ⟨some 21, .load 1 false .any (.t 20)⟩,
        .one ⟨some 22, .bin .mul 0 (.t 17) (.t 21)⟩,
        .one ⟨some 23, .bin .add 0 (.t 16) (.t 22)⟩,
        .one ⟨some 5, .move (.t 23)⟩])))
    (.region [.one ⟨some 24, .bin .add 0 (.t 11) (.c (.int .i64 1))⟩,
      .one ⟨some 11, .move (.t 24)⟩]))))
def shape_Place_l0 : ACode :=
 (.loop [(1, .any), (5, .any), (9, .any), (10, .any), (11, .any)] [(0, [(5, .any)])] [] shape_Place_b0)
def shape_Place : AFunc := { params := [.any, .any], results := [.tmp 4], body :=
  (.seq (.region [.one ⟨some 4, .move (.c (.int .i64 0))⟩])
   (.seq (.region [.one ⟨some 5, .move (.c (.int .i64 0))⟩])
    (.seq (.seq (.region [.one ⟨some 8, .move (.t 0)⟩,
        .one ⟨some 9, .call false .any 198 [.t 8]⟩,
        .one ⟨some 10, .len (.t 9)⟩,
        .one ⟨some 11, .move (.c (.int .i64 0))⟩])
      (.block 0 shape_Place_l0))
     (.seq (.region [.one ⟨some 25, .move (.t 5)⟩,
        .one ⟨some 4, .move (.t 25)⟩])
      .ret)))) }
/-- gradus/shape.Strides: number 198 -/
def shape_Strides_b0 : ACode :=
 (.seq (.region [.one ⟨some 11, .bin .lss 0 (.t 10) (.t 9)⟩])
  (.seq (.cond (.t 11) .skip
    (.exit 0))
   (.seq (.block 1 (.seq (.region [.one ⟨some 12, .move (.t 10)⟩,
        .one ⟨some 4, .move (.t 12)⟩])
      (.region [.one ⟨some 13, .move (.t 3)⟩,
        .one ⟨some 14, .move (.t 4)⟩,
        .one ⟨some 15, .move (.t 0)⟩,
        .one ⟨some 16, .move (.t 4)⟩,
        .one ⟨some 17, .bin .add 0 (.t 16) (.c (.int .i64 1))⟩,
        .one ⟨some 18, .cut 1 (.t 15) (some (.t 17)) none⟩,
        .one ⟨some 19, .call false .any 106 [.t 18]⟩,
        .one ⟨some 20, .indexAddr 1 (.t 13) (.t 14)⟩,
        .one ⟨none, .store 1 (.t 20) (.t 19)⟩])))
    (.region [.one ⟨some 21, .bin .add 0 (.t 10) (.c (.int .i64 1))⟩,
      .one ⟨some 10, .move (.t 21)⟩]))))
def shape_Strides_l0 : ACode :=
 (.loop [(0, .any), (3, .any), (9, .any), (10, .any)] [(0, [(3, .any)])] [] shape_Strides_b0)
def shape_Strides : AFunc := { params := [.any], results := [.tmp 2], body :=
  (.seq (.region [.one ⟨some 2, .move (.c (.nil))⟩])
   (.seq (.region [.one ⟨some 5, .move (.t 0)⟩,
      .one ⟨some 6, .len (.t 5)⟩,
      .one ⟨some 7, .makeSlice 1 8 [.int .i64 0] (.t 6)⟩,
      .one ⟨some 3, .move (.t 7)⟩])
    (.seq (.seq (.region [.one ⟨some 8, .move (.t 0)⟩,
        .one ⟨some 9, .len (.t 8)⟩,
        .one ⟨some 10, .move (.c (.int .i64 0))⟩])
      (.block 0 shape_Strides_l0))
     (.seq (.region [.one ⟨some 22, .move (.t 3)⟩,
        .one ⟨some 2, .move (.t 22)⟩])
      .ret)))) }
/-- gradus/graduslaw10.of: number 199 -/
def law10_of : AFunc := { params := [.any, .any], results := [.tmp 4], body :=
  (.seq (.region [.one ⟨some 2, .box (.t 0)⟩,
     .one ⟨some 4, .move (.c (.bool false))⟩])
   (.seq (.seq (.region [.one ⟨some 12, .load 5 true .any (.t 2)⟩,
       .one ⟨some 13, .call false .any 36 [.t 12]⟩])
     (.cond (.t 13) (.seq (.region [.one ⟨some 4, .move (.c (.bool true))⟩])
       .ret)
      .skip))
    (.seq (.region [.one ⟨some 15, .load 5 true .any (.t 2)⟩,
       .one ⟨some 16, .move (.t 1)⟩,
       .one ⟨some 17, .call false .any 231 [.t 15, .t 16]⟩,
       .one ⟨some 14, .move (.t 17)⟩,
       .one ⟨some 18, .extract (.t 14) 0⟩,
       .one ⟨some 19, .extract (.t 14) 1⟩,
       .one ⟨some 5, .move (.t 18)⟩,
       .one ⟨some 6, .move (.t 19)⟩])
     (.seq (.region [.one ⟨some 21, .move (.t 5)⟩,
        .one ⟨some 22, .move (.t 6)⟩,
        .one ⟨some 23, .call false .any 37 [.t 21, .t 22]⟩,
        .one ⟨some 20, .move (.t 23)⟩,
        .one ⟨some 24, .extract (.t 20) 0⟩,
        .one ⟨some 25, .extract (.t 20) 1⟩,
        .one ⟨some 7, .move (.t 24)⟩,
        .one ⟨some 8, .move (.t 25)⟩])
      (.seq (.region [.one ⟨some 27, .move (.t 5)⟩,
         .one ⟨some 28, .move (.t 6)⟩,
         .one ⟨some 29, .call false .any 91 [.t 27, .t 28]⟩,
         .one ⟨some 26, .move (.t 29)⟩,
         .one ⟨some 30, .extract (.t 26) 0⟩,
         .one ⟨some 31, .extract (.t 26) 1⟩,
         .one ⟨some 9, .move (.t 30)⟩,
         .one ⟨some 10, .move (.t 31)⟩])
       (.seq (.seq (.region [.one ⟨some 32, .move (.t 5)⟩,
           .one ⟨some 33, .move (.t 6)⟩,
           .one ⟨some 34, .call false .any 212 [.t 32, .t 33]⟩,
           .one ⟨some 35, .bin .neq 0 (.t 34) (.c (.int .i64 0))⟩,
           .one ⟨some 36, .move (.t 35)⟩,
           .grd 36 false [⟨some 37, .move (.t 8)⟩, ⟨some 38, .call false .any 38 [.t 37]⟩, ⟨some 39, .bin .neq 0 (.t 38) (.c (.int .i64 0))⟩],
           .one ⟨some 40, .pick (.t 36) (.c (.bool true)) (.t 39)⟩,
           .one ⟨some 41, .move (.t 40)⟩,
           .grd 41 false [⟨some 42, .move (.t 10)⟩, ⟨some 43, .call false .any 38 [.t 42]⟩, ⟨some 44, .bin .neq 0 (.t 43) (.c (.int .i64 0))⟩],
           .one ⟨some 45, .pick (.t 41) (.c (.bool true)) (.t 44)⟩])
         (.cond (.t 45) (.seq (.region [.one ⟨some 4, .move (.c (.bool false))⟩])
           .ret)
          .skip))
        (.seq (.region [.one ⟨some 46, .move (.t 5)⟩,
           .one ⟨some 47, .move (.t 6)⟩,
           .one ⟨some 48, .call false .any 232 [.t 46, .t 47]⟩,
           .one ⟨some 11, .move (.t 48)⟩])
         (.seq (.region [.one ⟨some 49, .move (.t 7)⟩,
            .one ⟨some 50, .move (.t 11)⟩,
            .one ⟨some 51, .call false .any 233 [.t 49, .t 50]⟩,
            .one ⟨some 52, .move (.t 51)⟩,
            .grd 52 true [⟨some 53, .move (.t 9)⟩, ⟨some 54, .move (.t 11)⟩, ⟨some 55, .move (.t 11)⟩, ⟨some 56, .len (.t 55)⟩, ⟨some 57, .bin .sub 0 (.t 56) (.c (.int .i64 1))⟩, ⟨some 58, .indexAddr 2 (.t 54) (.t 57)⟩, ⟨some 59, .fieldAddr 1 (.t 58)⟩, ⟨some 60, .load 1 false .any (.t 59)⟩, ⟨some 61, .indexAddr 1 (.t 60) (.c (.int .i64 0))⟩, ⟨some 62, .load 1 false .any (.t 61)⟩, ⟨some 63, .bin .eql 0 (.t 53) (.t 62)⟩],
            .one ⟨some 64, .pick (.t 52) (.t 63) (.c (.bool false))⟩,
            .one ⟨some 65, .move (.t 64)⟩,
            .grd 65 true [⟨some 66, .call false .any 42 []⟩],
            .one ⟨some 67, .pick (.t 65) (.t 66) (.c (.bool false))⟩,
            .one ⟨some 4, .move (.t 67)⟩])
          .ret)))))))) }
/-- gradus/graduslaw10.EvalAdd: number 200 -/
def law10_EvalAdd : AFunc := { params := [.any], results := [.tmp 2], body :=
  (.seq (.region [.one ⟨some 1, .box (.t 0)⟩,
     .one ⟨some 2, .move (.c (.bool false))⟩])
   (.seq (.region [.one ⟨some 3, .load 5 true .any (.t 1)⟩,
      .one ⟨some 4, .call false .any 199 [.t 3, .c (.int .i64 4)]⟩,
      .one ⟨some 2, .move (.t 4)⟩])
    .ret)) }
/-- gradus/graduslaw10.EvalSub: number 201 -/
def law10_EvalSub : AFunc := { params := [.any], results := [.tmp 2], body :=
  (.seq (.region [.one ⟨some 1, .box (.t 0)⟩,
     .one ⟨some 2, .move (.c (.bool false))⟩])
   (.seq (.region [.one ⟨some 3, .load 5 true .any (.t 1)⟩,
      .one ⟨some 4, .call false .any 199 [.t 3, .c (.int .i64 5)]⟩,
      .one ⟨some 2, .move (.t 4)⟩])
    .ret)) }
/-- gradus/graduslaw10.EvalMul: number 202 -/
def law10_EvalMul : AFunc := { params := [.any], results := [.tmp 2], body :=
  (.seq (.region [.one ⟨some 1, .box (.t 0)⟩,
     .one ⟨some 2, .move (.c (.bool false))⟩])
   (.seq (.region [.one ⟨some 3, .load 5 true .any (.t 1)⟩,
      .one ⟨some 4, .call false .any 199 [.t 3, .c (.int .i64 6)]⟩,
      .one ⟨some 2, .move (.t 4)⟩])
    .ret)) }
/-- gradus/graduslaw10.EvalNeg: number 203 -/
def law10_EvalNeg : AFunc := { params := [.any], results := [.tmp 2], body :=
  (.seq (.region [.one ⟨some 1, .box (.t 0)⟩,
     .one ⟨some 2, .move (.c (.bool false))⟩])
   (.seq (.region [.one ⟨some 3, .load 5 true .any (.t 1)⟩,
      .one ⟨some 4, .call false .any 199 [.t 3, .c (.int .i64 7)]⟩,
      .one ⟨some 2, .move (.t 4)⟩])
    .ret)) }
/-- gradus/graduslaw10.EvalScale: number 204 -/
def law10_EvalScale : AFunc := { params := [.any], results := [.tmp 2], body :=
  (.seq (.region [.one ⟨some 1, .box (.t 0)⟩,
     .one ⟨some 2, .move (.c (.bool false))⟩])
   (.seq (.region [.one ⟨some 3, .load 5 true .any (.t 1)⟩,
      .one ⟨some 4, .call false .any 199 [.t 3, .c (.int .i64 8)]⟩,
      .one ⟨some 2, .move (.t 4)⟩])
    .ret)) }
/-- gradus/graduslaw10.EvalMat: number 205 -/
def law10_EvalMat : AFunc := { params := [.any], results := [.tmp 2], body :=
  (.seq (.region [.one ⟨some 1, .box (.t 0)⟩,
     .one ⟨some 2, .move (.c (.bool false))⟩])
   (.seq (.region [.one ⟨some 3, .load 5 true .any (.t 1)⟩,
      .one ⟨some 4, .call false .any 199 [.t 3, .c (.int .i64 9)]⟩,
      .one ⟨some 2, .move (.t 4)⟩])
    .ret)) }
/-- gradus/graduslaw10.EvalTurn: number 206 -/
def law10_EvalTurn : AFunc := { params := [.any], results := [.tmp 2], body :=
  (.seq (.region [.one ⟨some 1, .box (.t 0)⟩,
     .one ⟨some 2, .move (.c (.bool false))⟩])
   (.seq (.region [.one ⟨some 3, .load 5 true .any (.t 1)⟩,
      .one ⟨some 4, .call false .any 199 [.t 3, .c (.int .i64 10)]⟩,
      .one ⟨some 2, .move (.t 4)⟩])
    .ret)) }
/-- gradus/graduslaw10.EvalShape: number 207 -/
def law10_EvalShape : AFunc := { params := [.any], results := [.tmp 2], body :=
  (.seq (.region [.one ⟨some 1, .box (.t 0)⟩,
     .one ⟨some 2, .move (.c (.bool false))⟩])
   (.seq (.region [.one ⟨some 3, .load 5 true .any (.t 1)⟩,
      .one ⟨some 4, .call false .any 199 [.t 3, .c (.int .i64 11)]⟩,
      .one ⟨some 2, .move (.t 4)⟩])
    .ret)) }
/-- gradus/graduslaw10.EvalWide: number 208 -/
def law10_EvalWide : AFunc := { params := [.any], results := [.tmp 2], body :=
  (.seq (.region [.one ⟨some 1, .box (.t 0)⟩,
     .one ⟨some 2, .move (.c (.bool false))⟩])
   (.seq (.region [.one ⟨some 3, .load 5 true .any (.t 1)⟩,
      .one ⟨some 4, .call false .any 199 [.t 3, .c (.int .i64 12)]⟩,
      .one ⟨some 2, .move (.t 4)⟩])
    .ret)) }
/-- gradus/graduslaw10.EvalSum: number 209 -/
def law10_EvalSum : AFunc := { params := [.any], results := [.tmp 2], body :=
  (.seq (.region [.one ⟨some 1, .box (.t 0)⟩,
     .one ⟨some 2, .move (.c (.bool false))⟩])
   (.seq (.region [.one ⟨some 3, .load 5 true .any (.t 1)⟩,
      .one ⟨some 4, .call false .any 199 [.t 3, .c (.int .i64 13)]⟩,
      .one ⟨some 2, .move (.t 4)⟩])
    .ret)) }
/-- gradus/graduslaw10.EvalRelu: number 210 -/
def law10_EvalRelu : AFunc := { params := [.any], results := [.tmp 2], body :=
  (.seq (.region [.one ⟨some 1, .box (.t 0)⟩,
     .one ⟨some 2, .move (.c (.bool false))⟩])
   (.seq (.region [.one ⟨some 3, .load 5 true .any (.t 1)⟩,
      .one ⟨some 4, .call false .any 199 [.t 3, .c (.int .i64 14)]⟩,
      .one ⟨some 2, .move (.t 4)⟩])
    .ret)) }
/-- gradus/graduslaw10.EvalMax: number 211 -/
def law10_EvalMax : AFunc := { params := [.any], results := [.tmp 2], body :=
  (.seq (.region [.one ⟨some 1, .box (.t 0)⟩,
     .one ⟨some 2, .move (.c (.bool false))⟩])
   (.seq (.region [.one ⟨some 3, .load 5 true .any (.t 1)⟩,
      .one ⟨some 4, .call false .any 199 [.t 3, .c (.int .i64 15)]⟩,
      .one ⟨some 2, .move (.t 4)⟩])
    .ret)) }
/-- gradus/gradusref10.Check: number 212 -/
def ref10_Check : AFunc := { params := [.any, .any], results := [.tmp 4], body :=
  (.seq (.region [.one ⟨some 4, .move (.c (.int .i64 0))⟩])
   (.seq (.seq (.region [.one ⟨some 5, .move (.t 0)⟩,
       .one ⟨some 6, .call false .any 1 [.t 5]⟩,
       .one ⟨some 7, .un .not (.t 6)⟩])
     (.cond (.t 7) (.seq (.region [.one ⟨some 4, .move (.c (.int .i64 1))⟩])
       .ret)
      .skip))
    (.seq (.region [.one ⟨some 8, .move (.t 0)⟩,
       .one ⟨some 9, .move (.t 1)⟩,
       .one ⟨some 10, .call false .any 234 [.t 8, .t 9]⟩,
       .one ⟨some 4, .move (.t 10)⟩])
     .ret))) }
/-- gradus/graduslaw10.Made: number 231 -/
def law10_Made_b0 : ACode :=
 (.seq (.seq (.region [.one ⟨some 118, .move (.t 13)⟩,
     .one ⟨some 119, .move (.t 12)⟩,
     .one ⟨some 120, .len (.t 119)⟩,
     .one ⟨some 121, .bin .lss 0 (.t 118) (.t 120)⟩])
   (.cond (.t 121) .skip
    (.exit 1)))
  (.seq (.block 2 (.region [.one ⟨some 124, .move (.t 12)⟩,
      .one ⟨some 125, .move (.t 13)⟩,
      .one ⟨some 126, .indexAddr 1 (.t 124) (.t 125)⟩,
      .one ⟨none, .store 1 (.t 126) (.c (.int .i64 1))⟩]))
   (.region [.one ⟨some 122, .move (.t 13)⟩,
     .one ⟨some 123, .bin .add 0 (.t 122) (.c (.int .i64 1))⟩,
     .one ⟨some 13, .move (.t 123)⟩])))
def law10_Made_l0 : ACode :=
 (.loop [(2, .any), (8, .any), (9, .any), (10, .any), (12, .any), (13, .any)] [(1, [(2, .any), (8, .any), (9, .any), (10, .any), (12, .any)])] [] law10_Made_b0)
def law10_Made_b1 : ACode :=
 (.seq (.seq (.region [.one ⟨some 148, .move (.t 18)⟩,
     .one ⟨some 149, .fieldAddr 1 (.t 17)⟩,
     .one ⟨some 150, .load 1 false .any (.t 149)⟩,
     .one ⟨some 151, .len (.t 150)⟩,
     .one ⟨some 152, .bin .lss 0 (.t 148) (.t 151)⟩])
   (.cond (.t 152) .skip
    (.exit 5)))
  (.seq (.block 6 (.seq (.region [.one ⟨some 155, .fieldAddr 1 (.t 17)⟩,
       .one ⟨some 156, .load 1 false .any (.t 155)⟩,
       .one ⟨some 157, .move (.t 18)⟩,
       .one ⟨some 158, .move (.t 18)⟩,
       .one ⟨some 159, .move (.t 16)⟩,
       .one ⟨some 160, .bin .add 0 (.c (.int .i64 3)) (.t 159)⟩,
       .one ⟨some 161, .bin .mul 0 (.t 158) (.t 160)⟩,
       .one ⟨some 162, .bin .sub 0 (.t 161) (.c (.int .i64 4))⟩,
       .one ⟨some 163, .fieldAddr 3 (.t 2)⟩,
       .one ⟨some 164, .load 1 false .any (.t 163)⟩,
       .one ⟨some 165, .len (.t 164)⟩,
       .one ⟨some 166, .bin .add 0 (.t 162) (.t 165)⟩,
       .one ⟨some 167, .indexAddr 1 (.t 156) (.t 157)⟩,
       .one ⟨none, .store 1 (.t 167) (.t 166)⟩])
     (.seq (.region [.one ⟨some 168, .fieldAddr 3 (.t 2)⟩,
        .one ⟨some 169, .load 1 false .any (.t 168)⟩,
        .one ⟨some 170, .len (.t 169)⟩,
        .one ⟨some 171, .bin .gtr 0 (.t 170) (.c (.int .i64 0))⟩,
        .one ⟨some 172, .move (.t 171)⟩,
        .grd 172 true [⟨some 173, .fieldAddr 3 (.t 2)⟩, ⟨some 174, .load 1 false .any (.t 173)⟩, ⟨some 175, .indexAddr 1 (.t 174) (.c (.int .i64 0))⟩, ⟨some 176, .load 1 false .any (.t 175)⟩, ⟨some 177, .len (.t 176)⟩, ⟨some 178, .bin .gtr 0 (.t 177) (.c (.int .i64 0))⟩],
        .one ⟨some 179, .pick (.t 172) (.t 178) (.c (.bool false))⟩,
        .one ⟨some 180, .move (.t 179)⟩,
        .grd 180 true [⟨some 181, .fieldAddr 3 (.t 2)⟩, ⟨some 182, .load 1 false .any (.t 181)⟩, ⟨some 183, .indexAddr 1 (.t 182) (.c (.int .i64 0))⟩, ⟨some 184, .load 1 false .any (.t 183)⟩, ⟨some 185, .indexAddr 2 (.t 184) (.c (.int .i64 0))⟩, ⟨some 186, .fieldAddr 1 (.t 185)⟩, ⟨some 187, .load 1 false .any (.t 186)⟩, ⟨some 188, .len (.t 187)⟩, ⟨some 189, .bin .gtr 0 (.t 188) (.c (.int .i64 0))⟩],
        .one ⟨some 190, .pick (.t 180) (.t 189) (.c (.bool false))⟩])
      (.cond (.t 190) (.region [.one ⟨some 191, .fieldAddr 1 (.t 17)⟩,
         .one ⟨some 192, .load 1 false .any (.t 191)⟩,
         .one ⟨some 193, .move (.t 18)⟩,
         .one ⟨some 194, .fieldAddr 1 (.t 17)⟩,
         .one ⟨some 195, .load 1 false .any (.t 194)⟩,
         .one ⟨some 196, .move (.t 18)⟩,
         .one ⟨some 197, .indexAddr 1 (.t 195) (.t 196)⟩,
         .one ⟨some 198, .load 1 false .any (.t 197)⟩,
         .one ⟨some 199, .fieldAddr 3 (.t 2)⟩,
         .one ⟨some 200, .load 1 false .any (.t 199)⟩,
         .one ⟨some 201, .indexAddr 1 (.t 200) (.c (.int .i64 0))⟩,
         .one ⟨some 202, .load 1 false .any (.t 201)⟩,
         .one ⟨some 203, .indexAddr 2 (.t 202) (.c (.int .i64 0))⟩,
         .one ⟨some 204, .fieldAddr 1 (.t 203)⟩,
         .one ⟨some 205, .load 1 false .any (.t 204)⟩,
         .one ⟨some 206, .move (.t 18)⟩,
         .one ⟨some 207, .fieldAddr 3 (.t 2)⟩,
         .one ⟨some 208, .load 1 false .any (.t 207)⟩,
         .one ⟨some 209, .indexAddr 1 (.t 208) (.c (.int .i64 0))⟩,
         .one ⟨some 210, .load 1 false .any (.t 209)⟩,
         .one ⟨some 211, .indexAddr 2 (.t 210) (.c (.int .i64 0))⟩,
         .one ⟨some 212, .fieldAddr 1 (.t 211)⟩,
         .one ⟨some 213, .load 1 false .any (.t 212)⟩,
         .one ⟨some 214, .len (.t 213)⟩,
         .one ⟨some 215, .bin .rem 0 (.t 206) (.t 214)⟩,
         .one ⟨some 216, .indexAddr 1 (.t 205) (.t 215)⟩,
         .one ⟨some 217, .load 1 false .any (.t 216)⟩,
         .one ⟨some 218, .bin .add 0 (.t 198) (.t 217)⟩,
         .one ⟨some 219, .indexAddr 1 (.t 192) (.t 193)⟩,
         .one ⟨none, .store 1 (.t 219) (.t 218)⟩])
       .skip))))
   (.region [.one ⟨some 153, .move (.t 18)⟩,
     .one ⟨some 154, .bin .add 0 (.t 153) (.c (.int .i64 1))⟩,
     .one ⟨some 18, .move (.t 154)⟩])))
def law10_Made_l1 : ACode :=
 (.loop [(2, .any), (8, .any), (9, .any), (14, .any), (15, .any), (16, .any), (17, .any), (18, .any)] [(5, [(2, .any), (8, .any), (9, .any), (14, .any), (15, .any), (16, .any), (17, .any)])] [] law10_Made_b1)
def law10_Made_b2 : ACode :=
 (.seq (.seq (.region [.one ⟨some 140, .move (.t 16)⟩,
     .one ⟨some 141, .move (.t 14)⟩,
     .one ⟨some 142, .len (.t 141)⟩,
     .one ⟨some 143, .bin .lss 0 (.t 140) (.t 142)⟩])
   (.cond (.t 143) .skip
    (.exit 3)))
  (.seq (.block 4 (.seq (.region [.one ⟨some 146, .move (.t 8)⟩,
       .one ⟨some 147, .call false .any 240 [.t 146, .c (.int .i64 0)]⟩,
       .one ⟨some 17, .alloc [.nil, .nil]⟩,
       .one ⟨none, .store 2 (.t 17) (.t 147)⟩])
     (.seq (.seq (.region [.one ⟨some 18, .move (.c (.int .i64 0))⟩])
       (.block 5 law10_Made_l1))
      (.region [.one ⟨some 220, .move (.t 15)⟩,
        .one ⟨some 221, .load 2 true .any (.t 17)⟩,
        .one ⟨some 222, .buildSlice 2 1 [.nil, .nil] [(0, .t 221)]⟩,
        .one ⟨some 223, .append 2 48 (.t 220) (.t 222)⟩,
        .one ⟨some 15, .move (.t 223)⟩]))))
   (.region [.one ⟨some 144, .move (.t 16)⟩,
     .one ⟨some 145, .bin .add 0 (.t 144) (.c (.int .i64 1))⟩,
     .one ⟨some 16, .move (.t 145)⟩])))
def law10_Made_l2 : ACode :=
 (.loop [(2, .any), (8, .any), (9, .any), (14, .any), (15, .any), (16, .any)] [(3, [(9, .any), (15, .any)])] [] law10_Made_b2)
def law10_Made : AFunc := { params := [.any, .any], results := [.tmp 4, .tmp 5], body :=
  (.seq (.region [.one ⟨some 2, .box (.t 0)⟩,
     .one ⟨some 4, .move (.c (.nil))⟩,
     .one ⟨some 5, .move (.c (.nil))⟩])
   (.seq (.region [.one ⟨some 19, .fieldAddr 0 (.t 2)⟩,
      .one ⟨some 20, .fieldAddr 0 (.t 19)⟩,
      .one ⟨some 21, .load 1 false .any (.t 20)⟩,
      .one ⟨some 22, .len (.t 21)⟩,
      .one ⟨some 23, .bin .rem 0 (.t 22) (.c (.int .i64 3))⟩,
      .one ⟨some 24, .bin .add 0 (.c (.int .i64 1)) (.t 23)⟩,
      .one ⟨some 25, .fieldAddr 3 (.t 2)⟩,
      .one ⟨some 26, .load 1 false .any (.t 25)⟩,
      .one ⟨some 27, .len (.t 26)⟩,
      .one ⟨some 28, .fieldAddr 4 (.t 2)⟩,
      .one ⟨some 29, .load 1 false .any (.t 28)⟩,
      .one ⟨some 30, .len (.t 29)⟩,
      .one ⟨some 31, .bin .add 0 (.t 27) (.t 30)⟩,
      .one ⟨some 32, .bin .rem 0 (.t 31) (.c (.int .i64 3))⟩,
      .one ⟨some 33, .bin .add 0 (.c (.int .i64 1)) (.t 32)⟩,
      .one ⟨some 6, .move (.t 24)⟩,
      .one ⟨some 7, .move (.t 33)⟩])
    (.seq (.seq (.region [.one ⟨some 34, .move (.t 1)⟩,
        .one ⟨some 35, .bin .eql 0 (.t 34) (.c (.int .i64 9))⟩])
      (.cond (.t 35) (.region [.one ⟨some 36, .move (.t 6)⟩,
         .one ⟨some 7, .move (.t 36)⟩])
       .skip))
     (.seq (.seq (.region [.one ⟨some 37, .move (.t 1)⟩,
         .one ⟨some 38, .bin .eql 0 (.t 37) (.c (.int .i64 15))⟩,
         .one ⟨some 39, .move (.t 38)⟩,
         .grd 39 false [⟨some 40, .move (.t 1)⟩, ⟨some 41, .bin .eql 0 (.t 40) (.c (.int .i64 11))⟩],
         .one ⟨some 42, .pick (.t 39) (.c (.bool true)) (.t 41)⟩])
       (.cond (.t 42) (.region [.one ⟨some 7, .move (.c (.int .i64 2))⟩])
        .skip))
      (.seq (.region [.one ⟨some 43, .move (.t 6)⟩,
         .one ⟨some 44, .move (.t 7)⟩,
         .one ⟨some 45, .buildSlice 1 2 [.int .i64 0] [(0, .t 43), (1, .t 44)]⟩,
         .one ⟨some 8, .move (.t 45)⟩])
       (.seq (.region [.one ⟨some 46, .move (.t 8)⟩,
          .one ⟨some 47, .build [.str (bs []), .int .i64 0, .nil, .nil, .int .i64 0] [(0, 1, .c (.str (bs [120]))), (1, 1, .c (.int .i64 1)), (3, 1, .t 46)]⟩,
          .one ⟨some 48, .move (.t 8)⟩,
          .one ⟨some 49, .build [.str (bs []), .int .i64 0, .nil, .nil, .int .i64 0] [(0, 1, .c (.str (bs [119]))), (1, 1, .c (.int .i64 2)), (3, 1, .t 48)]⟩,
          .one ⟨some 50, .buildSlice 1 2 [.int .i64 0] [(0, .c (.int .i64 0)), (1, .c (.int .i64 1))]⟩,
          .one ⟨some 51, .move (.t 8)⟩,
          .one ⟨some 52, .build [.str (bs []), .int .i64 0, .nil, .nil, .int .i64 0] [(0, 1, .c (.str (bs [118]))), (1, 1, .c (.int .i64 6)), (2, 1, .t 50), (3, 1, .t 51)]⟩,
          .one ⟨some 53, .buildSlice 5 3 [.str (bs []), .int .i64 0, .nil, .nil, .int .i64 0] [(0, .t 47), (1, .t 49), (2, .t 52)]⟩,
          .one ⟨some 9, .move (.t 53)⟩])
        (.seq (.region [.one ⟨some 54, .move (.t 1)⟩,
           .one ⟨some 55, .buildSlice 1 1 [.int .i64 0] [(0, .c (.int .i64 2))]⟩,
           .one ⟨some 56, .build [.str (bs []), .int .i64 0, .nil, .nil, .int .i64 0] [(0, 1, .c (.str (bs [107]))), (1, 1, .t 54), (2, 1, .t 55)]⟩,
           .one ⟨some 10, .alloc [.str (bs []), .int .i64 0, .nil, .nil, .int .i64 0]⟩,
           .one ⟨none, .store 5 (.t 10) (.t 56)⟩])
         (.seq (.seq (.region [.one ⟨some 57, .move (.t 1)⟩,
             .one ⟨some 58, .call false .any 100 [.t 57]⟩,
             .one ⟨some 59, .bin .eql 0 (.t 58) (.c (.int .i64 2))⟩])
           (.cond (.t 59) (.region [.one ⟨some 60, .buildSlice 1 2 [.int .i64 0] [(0, .c (.int .i64 2)), (1, .c (.int .i64 1))]⟩,
              .one ⟨some 61, .fieldAddr 2 (.t 10)⟩,
              .one ⟨none, .store 1 (.t 61) (.t 60)⟩])
            .skip))
          (.seq (.seq (.region [.one ⟨some 62, .move (.t 1)⟩])
            (.block 0 (.seq (.region [.one ⟨some 64, .bin .eql 0 (.t 62) (.c (.int .i64 8))⟩,
                .one ⟨some 63, .move (.t 64)⟩])
              (.cond (.t 63) (.region [.one ⟨some 65, .fieldAddr 4 (.t 10)⟩,
                 .one ⟨none, .store 1 (.t 65) (.c (.int .i64 (-3)))⟩])
               (.seq (.region [.one ⟨some 67, .bin .eql 0 (.t 62) (.c (.int .i64 15))⟩,
                  .one ⟨some 66, .move (.t 67)⟩])
                (.cond (.t 66) (.region [.one ⟨some 68, .fieldAddr 4 (.t 10)⟩,
                   .one ⟨none, .store 1 (.t 68) (.c (.int .i64 2))⟩])
                 (.seq (.region [.one ⟨some 70, .bin .eql 0 (.t 62) (.c (.int .i64 11))⟩,
                    .one ⟨some 69, .move (.t 70)⟩])
                  (.cond (.t 69) (.region [.one ⟨some 71, .move (.t 6)⟩,
                     .one ⟨some 72, .move (.t 7)⟩,
                     .one ⟨some 73, .bin .mul 0 (.t 71) (.t 72)⟩,
                     .one ⟨some 74, .buildSlice 1 1 [.int .i64 0] [(0, .t 73)]⟩,
                     .one ⟨some 75, .fieldAddr 3 (.t 10)⟩,
                     .one ⟨none, .store 1 (.t 75) (.t 74)⟩])
                   (.seq (.region [.one ⟨some 77, .bin .eql 0 (.t 62) (.c (.int .i64 12))⟩,
                      .one ⟨some 76, .move (.t 77)⟩])
                    (.cond (.t 76) (.seq (.region [.one ⟨some 78, .move (.t 9)⟩,
                        .one ⟨some 79, .buildSlice 1 1 [.int .i64 0] [(0, .c (.int .i64 1))]⟩,
                        .one ⟨some 80, .move (.t 7)⟩,
                        .one ⟨some 81, .buildSlice 1 2 [.int .i64 0] [(0, .c (.int .i64 1)), (1, .t 80)]⟩,
                        .one ⟨some 82, .build [.str (bs []), .int .i64 0, .nil, .nil, .int .i64 0] [(0, 1, .c (.str (bs [118]))), (1, 1, .c (.int .i64 13)), (2, 1, .t 79), (3, 1, .t 81)]⟩,
                        .one ⟨some 83, .indexAddr 5 (.t 78) (.c (.int .i64 2))⟩,
                        .one ⟨none, .store 5 (.t 83) (.t 82)⟩])
                      (.region [.one ⟨some 84, .move (.t 6)⟩,
                        .one ⟨some 85, .bin .add 0 (.t 84) (.c (.int .i64 1))⟩,
                        .one ⟨some 86, .move (.t 7)⟩,
                        .one ⟨some 87, .buildSlice 1 2 [.int .i64 0] [(0, .t 85), (1, .t 86)]⟩,
                        .one ⟨some 88, .fieldAddr 3 (.t 10)⟩,
                        .one ⟨none, .store 1 (.t 88) (.t 87)⟩]))
                     (.seq (.region [.one ⟨some 90, .bin .eql 0 (.t 62) (.c (.int .i64 13))⟩,
                        .one ⟨some 89, .move (.t 90)⟩])
                      (.cond (.t 89) (.region [.one ⟨some 91, .move (.t 6)⟩,
                         .one ⟨some 92, .buildSlice 1 2 [.int .i64 0] [(0, .t 91), (1, .c (.int .i64 1))]⟩,
                         .one ⟨some 93, .fieldAddr 3 (.t 10)⟩,
                         .one ⟨none, .store 1 (.t 93) (.t 92)⟩])
                       .skip))))))))))))
           (.seq (.region [.one ⟨some 11, .move (.c (.nil))⟩])
            (.seq (.seq (.region [.one ⟨some 94, .move (.t 1)⟩,
                .one ⟨some 95, .call false .any 96 [.t 94]⟩])
              (.cond (.t 95) (.region [.one ⟨some 96, .fieldAddr 3 (.t 10)⟩,
                 .one ⟨some 97, .load 1 false .any (.t 96)⟩,
                 .one ⟨some 11, .move (.t 97)⟩])
               .skip))
             (.seq (.region [.one ⟨some 99, .move (.t 1)⟩,
                .one ⟨some 100, .fieldAddr 4 (.t 10)⟩,
                .one ⟨some 101, .load 1 false .any (.t 100)⟩,
                .one ⟨some 102, .move (.t 11)⟩,
                .one ⟨some 103, .move (.t 9)⟩,
                .one ⟨some 104, .fieldAddr 2 (.t 10)⟩,
                .one ⟨some 105, .load 1 false .any (.t 104)⟩,
                .one ⟨some 106, .call true .any 63 [.t 103, .t 105]⟩,
                .one ⟨some 107, .call true .any 65 [.t 99, .t 101, .t 102, .t 106]⟩,
                .one ⟨some 98, .move (.t 107)⟩,
                .one ⟨some 108, .extract (.t 98) 0⟩,
                .one ⟨some 109, .extract (.t 98) 1⟩,
                .one ⟨some 110, .fieldAddr 3 (.t 10)⟩,
                .one ⟨none, .store 1 (.t 110) (.t 108)⟩])
              (.seq (.region [.one ⟨some 111, .move (.t 9)⟩,
                 .one ⟨some 112, .load 5 true .any (.t 10)⟩,
                 .one ⟨some 113, .buildSlice 5 1 [.str (bs []), .int .i64 0, .nil, .nil, .int .i64 0] [(0, .t 112)]⟩,
                 .one ⟨some 114, .append 5 80 (.t 111) (.t 113)⟩,
                 .one ⟨some 9, .move (.t 114)⟩])
               (.seq (.region [.one ⟨some 115, .fieldAddr 3 (.t 10)⟩,
                  .one ⟨some 116, .load 1 false .any (.t 115)⟩,
                  .one ⟨some 117, .call false .any 25 [.t 116]⟩,
                  .one ⟨some 12, .move (.t 117)⟩])
                (.seq (.seq (.region [.one ⟨some 13, .move (.c (.int .i64 0))⟩])
                  (.block 1 law10_Made_l0))
                 (.seq (.region [.one ⟨some 127, .move (.t 9)⟩,
                    .one ⟨some 128, .buildSlice 1 2 [.int .i64 0] [(0, .c (.int .i64 3)), (1, .c (.int .i64 3))]⟩,
                    .one ⟨some 129, .fieldAddr 3 (.t 10)⟩,
                    .one ⟨some 130, .load 1 false .any (.t 129)⟩,
                    .one ⟨some 131, .call false .any 25 [.t 130]⟩,
                    .one ⟨some 132, .build [.str (bs []), .int .i64 0, .nil, .nil, .int .i64 0] [(0, 1, .c (.str (bs [113]))), (1, 1, .c (.int .i64 6)), (2, 1, .t 128), (3, 1, .t 131)]⟩,
                    .one ⟨some 133, .buildSlice 1 1 [.int .i64 0] [(0, .c (.int .i64 4))]⟩,
                    .one ⟨some 134, .move (.t 12)⟩,
                    .one ⟨some 135, .build [.str (bs []), .int .i64 0, .nil, .nil, .int .i64 0] [(0, 1, .c (.str (bs [115]))), (1, 1, .c (.int .i64 13)), (2, 1, .t 133), (3, 1, .t 134)]⟩,
                    .one ⟨some 136, .buildSlice 5 2 [.str (bs []), .int .i64 0, .nil, .nil, .int .i64 0] [(0, .t 132), (1, .t 135)]⟩,
                    .one ⟨some 137, .append 5 80 (.t 127) (.t 136)⟩,
                    .one ⟨some 9, .move (.t 137)⟩])
                  (.seq (.region [.one ⟨some 138, .move (.t 9)⟩,
                     .one ⟨some 139, .call false .any 40 [.t 138]⟩,
                     .one ⟨some 14, .move (.t 139)⟩])
                   (.seq (.region [.one ⟨some 15, .move (.c (.nil))⟩])
                    (.seq (.seq (.region [.one ⟨some 16, .move (.c (.int .i64 0))⟩])
                      (.block 3 law10_Made_l2))
                     (.seq (.region [.one ⟨some 224, .move (.t 9)⟩,
                        .one ⟨some 225, .move (.t 15)⟩,
                        .one ⟨some 4, .move (.t 224)⟩,
                        .one ⟨some 5, .move (.t 225)⟩])
                      .ret)))))))))))))))))))) }
/-- gradus/gradusref10.All: number 232 -/
def ref10_All_b0 : ACode :=
 (.seq (.seq (.region [.one ⟨some 7, .move (.t 6)⟩,
     .one ⟨some 8, .move (.t 0)⟩,
     .one ⟨some 9, .len (.t 8)⟩,
     .one ⟨some 10, .bin .lss 0 (.t 7) (.t 9)⟩])
   (.cond (.t 10) .skip
    (.exit 0)))
  (.seq (.block 1 (.seq (.region [.one ⟨some 13, .move (.t 0)⟩,
       .one ⟨some 14, .move (.t 6)⟩,
       .one ⟨some 15, .indexAddr 5 (.t 13) (.t 14)⟩,
       .one ⟨some 16, .fieldAddr 1 (.t 15)⟩,
       .one ⟨some 17, .load 1 false .any (.t 16)⟩,
       .one ⟨some 18, .bin .eql 0 (.t 17) (.c (.int .i64 1))⟩,
       .one ⟨some 19, .move (.t 18)⟩,
       .grd 19 false [⟨some 20, .move (.t 0)⟩, ⟨some 21, .move (.t 6)⟩, ⟨some 22, .indexAddr 5 (.t 20) (.t 21)⟩, ⟨some 23, .fieldAddr 1 (.t 22)⟩, ⟨some 24, .load 1 false .any (.t 23)⟩, ⟨some 25, .bin .eql 0 (.t 24) (.c (.int .i64 2))⟩],
       .one ⟨some 26, .pick (.t 19) (.c (.bool true)) (.t 25)⟩])
     (.cond (.t 26) (.region [.one ⟨some 27, .move (.t 5)⟩,
        .one ⟨some 28, .move (.t 0)⟩,
        .one ⟨some 29, .move (.t 1)⟩,
        .one ⟨some 30, .move (.t 6)⟩,
        .one ⟨some 31, .call false .any 241 [.t 28, .t 29, .t 30]⟩,
        .one ⟨some 32, .buildSlice 2 1 [.nil, .nil] [(0, .t 31)]⟩,
        .one ⟨some 33, .append 2 48 (.t 27) (.t 32)⟩,
        .one ⟨some 5, .move (.t 33)⟩])
      (.region [.one ⟨some 34, .move (.t 5)⟩,
        .one ⟨some 35, .move (.t 0)⟩,
        .one ⟨some 36, .move (.t 6)⟩,
        .one ⟨some 37, .indexAddr 5 (.t 35) (.t 36)⟩,
        .one ⟨some 38, .load 5 true .any (.t 37)⟩,
        .one ⟨some 39, .move (.t 5)⟩,
        .one ⟨some 40, .move (.t 0)⟩,
        .one ⟨some 41, .move (.t 6)⟩,
        .one ⟨some 42, .indexAddr 5 (.t 40) (.t 41)⟩,
        .one ⟨some 43, .fieldAddr 2 (.t 42)⟩,
        .one ⟨some 44, .load 1 false .any (.t 43)⟩,
        .one ⟨some 45, .call true .any 242 [.t 39, .t 44]⟩,
        .one ⟨some 46, .call true .any 243 [.t 38, .t 45]⟩,
        .one ⟨some 47, .buildSlice 2 1 [.nil, .nil] [(0, .t 46)]⟩,
        .one ⟨some 48, .append 2 48 (.t 34) (.t 47)⟩,
        .one ⟨some 5, .move (.t 48)⟩]))))
   (.region [.one ⟨some 11, .move (.t 6)⟩,
     .one ⟨some 12, .bin .add 0 (.t 11) (.c (.int .i64 1))⟩,
     .one ⟨some 6, .move (.t 12)⟩])))
def ref10_All_l0 : ACode :=
 (.loop [(0, .any), (1, .any), (5, .any), (6, .any)] [(0, [(5, .any)])] [] ref10_All_b0)
def ref10_All : AFunc := { params := [.any, .any], results := [.tmp 4], body :=
  (.seq (.region [.one ⟨some 4, .move (.c (.nil))⟩])
   (.seq (.region [.one ⟨some 5, .move (.c (.nil))⟩])
    (.seq (.seq (.region [.one ⟨some 6, .move (.c (.int .i64 0))⟩])
      (.block 0 ref10_All_l0))
     (.seq (.region [.one ⟨some 49, .move (.t 5)⟩,
        .one ⟨some 4, .move (.t 49)⟩])
      .ret)))) }
end C
end Go.AM
