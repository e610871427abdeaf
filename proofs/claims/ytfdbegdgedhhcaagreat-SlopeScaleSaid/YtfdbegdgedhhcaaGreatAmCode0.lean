/- PRINTED by wip/tools/gen.py out of the program's form in the model: its functions as the abstract machine's code. -/
import Derived.Test.YtfdbegdgedhhcaaGreatAmCore
set_option linter.all false
namespace Go.AM
namespace C
set_option maxRecDepth 100000
/-- gradus/graduslaw8.Heavy: number 0 -/
def law8_Heavy_b0 : ACode :=
 (.seq (.seq (.region [.one ⟨some 12, .move (.t 4)⟩,
 .one ⟨some 13, .fieldAddr 0 (.t 1)⟩,
 .one ⟨some 14, .load 1 false .any (.t 13)⟩,
 .one ⟨some 15, .len (.t 14)⟩,
 .one ⟨some 16, .bin .lss 0 (.t 12) (.t 15)⟩,
 .one ⟨some 17, .move (.t 16)⟩,
 .grd 17 true [⟨some 18, .move (.t 3)⟩, ⟨some 19, .bin .lss 0 (.t 18) (.c (.int .i64 1048576))⟩],
 .one ⟨some 20, .pick (.t 17) (.t 19) (.c (.bool false))⟩])
 (.cond (.t 20) .skip
 (.exit 0)))
 (.seq (.block 1 (.region [.one ⟨some 23, .move (.t 3)⟩,
 .one ⟨some 24, .fieldAddr 0 (.t 1)⟩,
 .one ⟨some 25, .load 1 false .any (.t 24)⟩,
 .one ⟨some 26, .move (.t 4)⟩,
 .one ⟨some 27, .indexAddr 1 (.t 25) (.t 26)⟩,
 .one ⟨some 28, .load 1 false .any (.t 27)⟩,
 .one ⟨some 29, .call false .any 59 [.t 28]⟩,
 .one ⟨some 30, .bin .add 0 (.t 23) (.t 29)⟩,
 .one ⟨some 3, .move (.t 30)⟩]))
 (.region [.one ⟨some 21, .move (.t 4)⟩,
 .one ⟨some 22, .bin .add 0 (.t 21) (.c (.int .i64 1))⟩,
 .one ⟨some 4, .move (.t 22)⟩])))
def law8_Heavy_l0 : ACode :=
 (.loop [(1, .any), (3, .any), (4, .any)] [(0, [(3, .any)])] [] law8_Heavy_b0)
def law8_Heavy : AFunc := { params := [.any], results := [.tmp 2], body :=
 (.seq (.region [.one ⟨some 1, .box (.t 0)⟩,
 .one ⟨some 2, .move (.c (.bool false))⟩])
 (.seq (.region [.one ⟨some 5, .fieldAddr 1 (.t 1)⟩,
 .one ⟨some 6, .load 1 false .any (.t 5)⟩,
 .one ⟨some 7, .len (.t 6)⟩,
 .one ⟨some 8, .fieldAddr 2 (.t 1)⟩,
 .one ⟨some 9, .load 1 false .any (.t 8)⟩,
 .one ⟨some 10, .call true .any 58 [.t 9]⟩,
 .one ⟨some 11, .bin .add 0 (.t 7) (.t 10)⟩,
 .one ⟨some 3, .move (.t 11)⟩])
 (.seq (.seq (.region [.one ⟨some 4, .move (.c (.int .i64 0))⟩])
 (.block 0 law8_Heavy_l0))
 (.seq (.region [.one ⟨some 31, .move (.t 3)⟩,
 .one ⟨some 32, .bin .gtr 0 (.t 31) (.c (.int .i64 1200))⟩,
 .one ⟨some 2, .move (.t 32)⟩])
 .ret)))) }
/-- gradus/graduslaw8.num: number 4 -/
def law8_num : AFunc := { params := [.any], results := [.tmp 2], body :=
 (.seq (.region [.one ⟨some 2, .move (.c (.int .i64 0))⟩])
 (.seq (.region [.one ⟨some 3, .move (.t 0)⟩,
 .one ⟨some 2, .move (.t 3)⟩])
 .ret)) }
/-- gradus/gradusref0.EqNumbers: number 5 -/
def ref0_EqNumbers_b0 : ACode :=
 (.seq (.seq (.region [.one ⟨some 11, .move (.t 5)⟩,
 .one ⟨some 12, .move (.t 0)⟩,
 .one ⟨some 13, .len (.t 12)⟩,
 .one ⟨some 14, .bin .lss 0 (.t 11) (.t 13)⟩])
 (.cond (.t 14) .skip
 (.exit 0)))
 (.seq (.block 1 (.seq (.region [.one ⟨some 17, .move (.t 0)⟩,
 .one ⟨some 18, .move (.t 5)⟩,
 .one ⟨some 19, .indexAddr 1 (.t 17) (.t 18)⟩,
 .one ⟨some 20, .load 1 false .any (.t 19)⟩,
 .one ⟨some 21, .move (.t 1)⟩,
 .one ⟨some 22, .move (.t 5)⟩,
 .one ⟨some 23, .indexAddr 1 (.t 21) (.t 22)⟩,
 .one ⟨some 24, .load 1 false .any (.t 23)⟩,
 .one ⟨some 25, .bin .neq 0 (.t 20) (.t 24)⟩])
 (.cond (.t 25) (.seq (.region [.one ⟨some 4, .move (.c (.bool false))⟩])
 .ret)
 .skip)))
 (.region [.one ⟨some 15, .move (.t 5)⟩,
 .one ⟨some 16, .bin .add 0 (.t 15) (.c (.int .i64 1))⟩,
 .one ⟨some 5, .move (.t 16)⟩])))
def ref0_EqNumbers_l0 : ACode :=
 (.loop [(0, .any), (1, .any), (5, .any)] [(0, [])] [(4, .any)] ref0_EqNumbers_b0)
def ref0_EqNumbers : AFunc := { params := [.any, .any], results := [.tmp 4], body :=
 (.seq (.region [.one ⟨some 4, .move (.c (.bool false))⟩])
 (.seq (.seq (.region [.one ⟨some 6, .move (.t 0)⟩,
 .one ⟨some 7, .len (.t 6)⟩,
 .one ⟨some 8, .move (.t 1)⟩,
 .one ⟨some 9, .len (.t 8)⟩,
 .one ⟨some 10, .bin .neq 0 (.t 7) (.t 9)⟩])
 (.cond (.t 10) (.seq (.region [.one ⟨some 4, .move (.c (.bool false))⟩])
 .ret)
 .skip))
 (.seq (.seq (.region [.one ⟨some 5, .move (.c (.int .i64 0))⟩])
 (.block 0 ref0_EqNumbers_l0))
 (.seq (.region [.one ⟨some 4, .move (.c (.bool true))⟩])
 .ret)))) }
/-- gradus/gradusref0.Num: number 14 -/
def ref0_Num : AFunc := { params := [.any, .any], results := [.tmp 4], body :=
 (.seq (.region [.one ⟨some 4, .move (.c (.bool false))⟩])
 (.seq (.region [.one ⟨some 5, .move (.t 0)⟩,
 .one ⟨some 6, .bin .geq 0 (.t 5) (.c (.int .i64 0))⟩,
 .one ⟨some 7, .move (.t 6)⟩,
 .grd 7 true [⟨some 8, .move (.t 0)⟩, ⟨some 9, .move (.t 1)⟩, ⟨some 10, .bin .leq 0 (.t 8) (.t 9)⟩],
 .one ⟨some 11, .pick (.t 7) (.t 10) (.c (.bool false))⟩,
 .one ⟨some 4, .move (.t 11)⟩])
 .ret)) }
/-- gradus/graduslaw13.num: number 19 -/
def law13_num : AFunc := { params := [.any], results := [.tmp 2], body :=
 (.seq (.region [.one ⟨some 2, .move (.c (.int .i64 0))⟩])
 (.seq (.region [.one ⟨some 3, .move (.t 0)⟩,
 .one ⟨some 2, .move (.t 3)⟩])
 .ret)) }
/-- gradus/gradusref0.CopyNumbers: number 25 -/
def ref0_CopyNumbers_b0 : ACode :=
 (.seq (.seq (.region [.one ⟨some 5, .move (.t 4)⟩,
 .one ⟨some 6, .move (.t 0)⟩,
 .one ⟨some 7, .len (.t 6)⟩,
 .one ⟨some 8, .bin .lss 0 (.t 5) (.t 7)⟩])
 (.cond (.t 8) .skip
 (.exit 0)))
 (.seq (.block 1 (.region [.one ⟨some 11, .move (.t 3)⟩,
 .one ⟨some 12, .move (.t 0)⟩,
 .one ⟨some 13, .move (.t 4)⟩,
 .one ⟨some 14, .indexAddr 1 (.t 12) (.t 13)⟩,
 .one ⟨some 15, .load 1 false .any (.t 14)⟩,
 .one ⟨some 16, .buildSlice 1 1 [.int .i64 0] [(0, .t 15)]⟩,
 .one ⟨some 17, .append 1 8 (.t 11) (.t 16)⟩,
 .one ⟨some 3, .move (.t 17)⟩]))
 (.region [.one ⟨some 9, .move (.t 4)⟩,
 .one ⟨some 10, .bin .add 0 (.t 9) (.c (.int .i64 1))⟩,
 .one ⟨some 4, .move (.t 10)⟩])))
def ref0_CopyNumbers_l0 : ACode :=
 (.loop [(0, .any), (3, .any), (4, .any)] [(0, [(3, .any)])] [] ref0_CopyNumbers_b0)
def ref0_CopyNumbers : AFunc := { params := [.any], results := [.tmp 2], body :=
 (.seq (.region [.one ⟨some 2, .move (.c (.nil))⟩])
 (.seq (.region [.one ⟨some 3, .move (.c (.nil))⟩])
 (.seq (.seq (.region [.one ⟨some 4, .move (.c (.int .i64 0))⟩])
 (.block 0 ref0_CopyNumbers_l0))
 (.seq (.region [.one ⟨some 18, .move (.t 3)⟩,
 .one ⟨some 2, .move (.t 18)⟩])
 .ret)))) }
/-- gradus/graduslaw10.Heavy: number 36 -/
def law10_Heavy_b0 : ACode :=
 (.seq (.seq (.region [.one ⟨some 13, .move (.t 4)⟩,
 .one ⟨some 14, .fieldAddr 3 (.t 1)⟩,
 .one ⟨some 15, .load 1 false .any (.t 14)⟩,
 .one ⟨some 16, .len (.t 15)⟩,
 .one ⟨some 17, .bin .lss 0 (.t 13) (.t 16)⟩,
 .one ⟨some 18, .move (.t 17)⟩,
 .grd 18 true [⟨some 19, .move (.t 3)⟩, ⟨some 20, .bin .lss 0 (.t 19) (.c (.int .i64 1048576))⟩],
 .one ⟨some 21, .pick (.t 18) (.t 20) (.c (.bool false))⟩])
 (.cond (.t 21) .skip
 (.exit 0)))
 (.seq (.block 1 (.region [.one ⟨some 24, .move (.t 3)⟩,
 .one ⟨some 25, .fieldAddr 3 (.t 1)⟩,
 .one ⟨some 26, .load 1 false .any (.t 25)⟩,
 .one ⟨some 27, .move (.t 4)⟩,
 .one ⟨some 28, .indexAddr 1 (.t 26) (.t 27)⟩,
 .one ⟨some 29, .load 1 false .any (.t 28)⟩,
 .one ⟨some 30, .call false .any 88 [.t 29]⟩,
 .one ⟨some 31, .bin .add 0 (.t 24) (.t 30)⟩,
 .one ⟨some 3, .move (.t 31)⟩]))
 (.region [.one ⟨some 22, .move (.t 4)⟩,
 .one ⟨some 23, .bin .add 0 (.t 22) (.c (.int .i64 1))⟩,
 .one ⟨some 4, .move (.t 23)⟩])))
def law10_Heavy_l0 : ACode :=
 (.loop [(1, .any), (3, .any), (4, .any)] [(0, [(1, .any), (3, .any)])] [] law10_Heavy_b0)
def law10_Heavy_b1 : ACode :=
 (.seq (.seq (.region [.one ⟨some 32, .move (.t 5)⟩,
 .one ⟨some 33, .fieldAddr 4 (.t 1)⟩,
 .one ⟨some 34, .load 1 false .any (.t 33)⟩,
 .one ⟨some 35, .len (.t 34)⟩,
 .one ⟨some 36, .bin .lss 0 (.t 32) (.t 35)⟩,
 .one ⟨some 37, .move (.t 36)⟩,
 .grd 37 true [⟨some 38, .move (.t 3)⟩, ⟨some 39, .bin .lss 0 (.t 38) (.c (.int .i64 1048576))⟩],
 .one ⟨some 40, .pick (.t 37) (.t 39) (.c (.bool false))⟩])
 (.cond (.t 40) .skip
 (.exit 2)))
 (.seq (.block 3 (.region [.one ⟨some 43, .move (.t 3)⟩,
 .one ⟨some 44, .fieldAddr 4 (.t 1)⟩,
 .one ⟨some 45, .load 1 false .any (.t 44)⟩,
 .one ⟨some 46, .move (.t 5)⟩,
 .one ⟨some 47, .indexAddr 1 (.t 45) (.t 46)⟩,
 .one ⟨some 48, .load 1 false .any (.t 47)⟩,
 .one ⟨some 49, .call false .any 88 [.t 48]⟩,
 .one ⟨some 50, .bin .add 0 (.t 43) (.t 49)⟩,
 .one ⟨some 3, .move (.t 50)⟩]))
 (.region [.one ⟨some 41, .move (.t 5)⟩,
 .one ⟨some 42, .bin .add 0 (.t 41) (.c (.int .i64 1))⟩,
 .one ⟨some 5, .move (.t 42)⟩])))
def law10_Heavy_l1 : ACode :=
 (.loop [(1, .any), (3, .any), (5, .any)] [(2, [(1, .any), (3, .any)])] [] law10_Heavy_b1)
def law10_Heavy : AFunc := { params := [.any], results := [.tmp 2], body :=
 (.seq (.region [.one ⟨some 1, .box (.t 0)⟩,
 .one ⟨some 2, .move (.c (.bool false))⟩])
 (.seq (.region [.one ⟨some 6, .fieldAddr 3 (.t 1)⟩,
 .one ⟨some 7, .load 1 false .any (.t 6)⟩,
 .one ⟨some 8, .len (.t 7)⟩,
 .one ⟨some 9, .fieldAddr 4 (.t 1)⟩,
 .one ⟨some 10, .load 1 false .any (.t 9)⟩,
 .one ⟨some 11, .len (.t 10)⟩,
 .one ⟨some 12, .bin .add 0 (.t 8) (.t 11)⟩,
 .one ⟨some 3, .move (.t 12)⟩])
 (.seq (.seq (.region [.one ⟨some 4, .move (.c (.int .i64 0))⟩])
 (.block 0 law10_Heavy_l0))
 (.seq (.seq (.region [.one ⟨some 5, .move (.c (.int .i64 0))⟩])
 (.block 2 law10_Heavy_l1))
 (.seq (.region [.one ⟨some 51, .move (.t 3)⟩,
 .one ⟨some 52, .bin .gtr 0 (.t 51) (.c (.int .i64 1500))⟩,
 .one ⟨some 53, .move (.t 52)⟩,
 .grd 53 false [⟨some 54, .fieldAddr 0 (.t 1)⟩, ⟨some 55, .load 3 true .any (.t 54)⟩, ⟨some 56, .call false .any 0 [.t 55]⟩],
 .one ⟨some 57, .pick (.t 53) (.c (.bool true)) (.t 56)⟩,
 .one ⟨some 2, .move (.t 57)⟩])
 .ret))))) }
/-- gradus/graduslaw10.num: number 38 -/
def law10_num : AFunc := { params := [.any], results := [.tmp 2], body :=
 (.seq (.region [.one ⟨some 2, .move (.c (.int .i64 0))⟩])
 (.seq (.region [.one ⟨some 3, .move (.t 0)⟩,
 .one ⟨some 2, .move (.t 3)⟩])
 .ret)) }
/-- gradus/gradusref7.Leaves: number 40 -/
def ref7_Leaves_b0 : ACode :=
 (.seq (.seq (.region [.one ⟨some 10, .move (.t 5)⟩,
 .one ⟨some 11, .move (.t 0)⟩,
 .one ⟨some 12, .len (.t 11)⟩,
 .one ⟨some 13, .bin .lss 0 (.t 10) (.t 12)⟩])
 (.cond (.t 13) .skip
 (.exit 2)))
 (.seq (.block 3 (.seq (.region [.one ⟨some 16, .move (.t 0)⟩,
 .one ⟨some 17, .move (.t 5)⟩,
 .one ⟨some 18, .indexAddr 5 (.t 16) (.t 17)⟩,
 .one ⟨some 19, .fieldAddr 1 (.t 18)⟩,
 .one ⟨some 20, .load 1 false .any (.t 19)⟩,
 .one ⟨some 21, .move (.t 4)⟩,
 .one ⟨some 22, .bin .eql 0 (.t 20) (.t 21)⟩])
 (.cond (.t 22) (.region [.one ⟨some 23, .move (.t 3)⟩,
 .one ⟨some 24, .move (.t 5)⟩,
 .one ⟨some 25, .buildSlice 1 1 [.int .i64 0] [(0, .t 24)]⟩,
 .one ⟨some 26, .append 1 8 (.t 23) (.t 25)⟩,
 .one ⟨some 3, .move (.t 26)⟩])
 .skip)))
 (.region [.one ⟨some 14, .move (.t 5)⟩,
 .one ⟨some 15, .bin .add 0 (.t 14) (.c (.int .i64 1))⟩,
 .one ⟨some 5, .move (.t 15)⟩])))
def ref7_Leaves_l0 : ACode :=
 (.loop [(0, .any), (3, .any), (4, .any), (5, .any)] [(2, [(0, .any), (3, .any), (4, .any)])] [] ref7_Leaves_b0)
def ref7_Leaves_b1 : ACode :=
 (.seq (.seq (.region [.one ⟨some 6, .move (.t 4)⟩,
 .one ⟨some 7, .bin .leq 0 (.t 6) (.c (.int .i64 2))⟩])
 (.cond (.t 7) .skip
 (.exit 0)))
 (.seq (.block 1 (.seq (.region [.one ⟨some 5, .move (.c (.int .i64 0))⟩])
 (.block 2 ref7_Leaves_l0)))
 (.region [.one ⟨some 8, .move (.t 4)⟩,
 .one ⟨some 9, .bin .add 0 (.t 8) (.c (.int .i64 1))⟩,
 .one ⟨some 4, .move (.t 9)⟩])))
def ref7_Leaves_l1 : ACode :=
 (.loop [(0, .any), (3, .any), (4, .any)] [(0, [(3, .any)])] [] ref7_Leaves_b1)
def ref7_Leaves : AFunc := { params := [.any], results := [.tmp 2], body :=
 (.seq (.region [.one ⟨some 2, .move (.c (.nil))⟩])
 (.seq (.region [.one ⟨some 3, .move (.c (.nil))⟩])
 (.seq (.seq (.region [.one ⟨some 4, .move (.c (.int .i64 1))⟩])
 (.block 0 ref7_Leaves_l1))
 (.seq (.region [.one ⟨some 27, .move (.t 3)⟩,
 .one ⟨some 2, .move (.t 27)⟩])
 .ret)))) }
/-- gradus/gradusref0.EqTensor: number 41 -/
def ref0_EqTensor : AFunc := { params := [.any, .any], results := [.tmp 4], body :=
 (.seq (.region [.one ⟨some 2, .box (.t 0)⟩,
 .one ⟨some 3, .box (.t 1)⟩,
 .one ⟨some 4, .move (.c (.bool false))⟩])
 (.seq (.region [.one ⟨some 5, .fieldAddr 0 (.t 2)⟩,
 .one ⟨some 6, .load 1 false .any (.t 5)⟩,
 .one ⟨some 7, .fieldAddr 0 (.t 3)⟩,
 .one ⟨some 8, .load 1 false .any (.t 7)⟩,
 .one ⟨some 9, .call false .any 5 [.t 6, .t 8]⟩,
 .one ⟨some 10, .move (.t 9)⟩,
 .grd 10 true [⟨some 11, .fieldAddr 1 (.t 2)⟩, ⟨some 12, .load 1 false .any (.t 11)⟩, ⟨some 13, .fieldAddr 1 (.t 3)⟩, ⟨some 14, .load 1 false .any (.t 13)⟩, ⟨some 15, .call false .any 5 [.t 12, .t 14]⟩],
 .one ⟨some 16, .pick (.t 10) (.t 15) (.c (.bool false))⟩,
 .one ⟨some 4, .move (.t 16)⟩])
 .ret)) }
/-- gradus/graduslaw0.Lists: number 58 -/
def law0_Lists_b0 : ACode :=
 (.seq (.seq (.region [.one ⟨some 7, .move (.t 4)⟩,
 .one ⟨some 8, .move (.t 0)⟩,
 .one ⟨some 9, .len (.t 8)⟩,
 .one ⟨some 10, .bin .lss 0 (.t 7) (.t 9)⟩,
 .one ⟨some 11, .move (.t 10)⟩,
 .grd 11 true [⟨some 12, .move (.t 3)⟩, ⟨some 13, .bin .lss 0 (.t 12) (.c (.int .i64 1048576))⟩],
 .one ⟨some 14, .pick (.t 11) (.t 13) (.c (.bool false))⟩])
 (.cond (.t 14) .skip
 (.exit 0)))
 (.seq (.block 1 (.region [.one ⟨some 17, .move (.t 3)⟩,
 .one ⟨some 18, .move (.t 0)⟩,
 .one ⟨some 19, .move (.t 4)⟩,
 .one ⟨some 20, .indexAddr 1 (.t 18) (.t 19)⟩,
 .one ⟨some 21, .load 1 false .any (.t 20)⟩,
 .one ⟨some 22, .len (.t 21)⟩,
 .one ⟨some 23, .bin .add 0 (.t 17) (.t 22)⟩,
 .one ⟨some 3, .move (.t 23)⟩]))
 (.region [.one ⟨some 15, .move (.t 4)⟩,
 .one ⟨some 16, .bin .add 0 (.t 15) (.c (.int .i64 1))⟩,
 .one ⟨some 4, .move (.t 16)⟩])))
def law0_Lists_l0 : ACode :=
 (.loop [(0, .any), (3, .any), (4, .any)] [(0, [(3, .any)])] [] law0_Lists_b0)
def law0_Lists : AFunc := { params := [.any], results := [.tmp 2], body :=
 (.seq (.region [.one ⟨some 2, .move (.c (.int .i64 0))⟩])
 (.seq (.region [.one ⟨some 5, .move (.t 0)⟩,
 .one ⟨some 6, .len (.t 5)⟩,
 .one ⟨some 3, .move (.t 6)⟩])
 (.seq (.seq (.region [.one ⟨some 4, .move (.c (.int .i64 0))⟩])
 (.block 0 law0_Lists_l0))
 (.seq (.region [.one ⟨some 24, .move (.t 3)⟩,
 .one ⟨some 2, .move (.t 24)⟩])
 .ret)))) }
/-- gradus/graduslaw0.NodesWeight: number 59 -/
def law0_NodesWeight_b0 : ACode :=
 (.seq (.seq (.region [.one ⟨some 7, .move (.t 4)⟩,
 .one ⟨some 8, .move (.t 0)⟩,
 .one ⟨some 9, .len (.t 8)⟩,
 .one ⟨some 10, .bin .lss 0 (.t 7) (.t 9)⟩,
 .one ⟨some 11, .move (.t 10)⟩,
 .grd 11 true [⟨some 12, .move (.t 3)⟩, ⟨some 13, .bin .lss 0 (.t 12) (.c (.int .i64 1048576))⟩],
 .one ⟨some 14, .pick (.t 11) (.t 13) (.c (.bool false))⟩])
 (.cond (.t 14) .skip
 (.exit 0)))
 (.seq (.block 1 (.region [.one ⟨some 17, .move (.t 3)⟩,
 .one ⟨some 18, .move (.t 0)⟩,
 .one ⟨some 19, .move (.t 4)⟩,
 .one ⟨some 20, .indexAddr 5 (.t 18) (.t 19)⟩,
 .one ⟨some 21, .fieldAddr 2 (.t 20)⟩,
 .one ⟨some 22, .load 1 false .any (.t 21)⟩,
 .one ⟨some 23, .len (.t 22)⟩,
 .one ⟨some 24, .bin .add 0 (.t 17) (.t 23)⟩,
 .one ⟨some 25, .move (.t 0)⟩,
 .one ⟨some 26, .move (.t 4)⟩,
 .one ⟨some 27, .indexAddr 5 (.t 25) (.t 26)⟩,
 .one ⟨some 28, .fieldAddr 3 (.t 27)⟩,
 .one ⟨some 29, .load 1 false .any (.t 28)⟩,
 .one ⟨some 30, .len (.t 29)⟩,
 .one ⟨some 31, .bin .add 0 (.t 24) (.t 30)⟩,
 .one ⟨some 32, .move (.t 0)⟩,
 .one ⟨some 33, .move (.t 4)⟩,
 .one ⟨some 34, .indexAddr 5 (.t 32) (.t 33)⟩,
 .one ⟨some 35, .fieldAddr 0 (.t 34)⟩,
 .one ⟨some 36, .load 1 false .any (.t 35)⟩,
 .one ⟨some 37, .lenStr (.t 36)⟩,
 .one ⟨some 38, .bin .quo 0 (.t 37) (.c (.int .i64 8))⟩,
 .one ⟨some 39, .bin .add 0 (.t 31) (.t 38)⟩,
 .one ⟨some 3, .move (.t 39)⟩]))
 (.region [.one ⟨some 15, .move (.t 4)⟩,
 .one ⟨some 16, .bin .add 0 (.t 15) (.c (.int .i64 1))⟩,
 .one ⟨some 4, .move (.t 16)⟩])))
def law0_NodesWeight_l0 : ACode :=
 (.loop [(0, .any), (3, .any), (4, .any)] [(0, [(3, .any)])] [] law0_NodesWeight_b0)
def law0_NodesWeight : AFunc := { params := [.any], results := [.tmp 2], body :=
 (.seq (.region [.one ⟨some 2, .move (.c (.int .i64 0))⟩])
 (.seq (.region [.one ⟨some 5, .move (.t 0)⟩,
 .one ⟨some 6, .len (.t 5)⟩,
 .one ⟨some 3, .move (.t 6)⟩])
 (.seq (.seq (.region [.one ⟨some 4, .move (.c (.int .i64 0))⟩])
 (.block 0 law0_NodesWeight_l0))
 (.seq (.region [.one ⟨some 40, .move (.t 3)⟩,
 .one ⟨some 2, .move (.t 40)⟩])
 .ret)))) }
/-- gradus/graph.May: number 61 -/
def graph_May_b0 : ACode :=
 (.seq (.region [.one ⟨some 13, .bin .lss 0 (.t 12) (.t 11)⟩])
 (.seq (.cond (.t 13) .skip
 (.exit 0))
 (.seq (.block 1 (.seq (.region [.one ⟨some 14, .move (.t 12)⟩,
 .one ⟨some 15, .indexAddr 5 (.t 10) (.t 12)⟩,
 .one ⟨some 16, .load 5 true .any (.t 15)⟩,
 .one ⟨some 4, .alloc [.str (bs []), .int .i64 0, .nil, .nil, .int .i64 0]⟩,
 .one ⟨some 3, .move (.t 14)⟩,
 .one ⟨none, .store 5 (.t 4) (.t 16)⟩])
 (.seq (.region [.one ⟨some 18, .fieldAddr 1 (.t 4)⟩,
 .one ⟨some 19, .load 1 false .any (.t 18)⟩,
 .one ⟨some 20, .fieldAddr 4 (.t 4)⟩,
 .one ⟨some 21, .load 1 false .any (.t 20)⟩,
 .one ⟨some 22, .load 5 true .any (.t 4)⟩,
 .one ⟨some 23, .call true .any 97 [.t 22]⟩,
 .one ⟨some 24, .move (.t 0)⟩,
 .one ⟨some 25, .move (.t 3)⟩,
 .one ⟨some 26, .cut 5 (.t 24) none (some (.t 25))⟩,
 .one ⟨some 27, .fieldAddr 2 (.t 4)⟩,
 .one ⟨some 28, .load 1 false .any (.t 27)⟩,
 .one ⟨some 29, .call true .any 62 [.t 19, .t 21, .t 23, .t 26, .t 28]⟩,
 .one ⟨some 17, .move (.t 29)⟩,
 .one ⟨some 30, .extract (.t 17) 0⟩,
 .one ⟨some 31, .extract (.t 17) 1⟩,
 .one ⟨some 5, .move (.t 30)⟩,
 .one ⟨some 6, .move (.t 31)⟩])
 (.seq (.region [.one ⟨some 32, .move (.t 6)⟩,
 .one ⟨some 33, .bin .neq 0 (.t 32) (.c (.int .i64 0))⟩,
 .one ⟨some 34, .move (.t 33)⟩,
 .grd 34 false [⟨some 35, .move (.t 5)⟩, ⟨some 36, .fieldAddr 3 (.t 4)⟩, ⟨some 37, .load 1 false .any (.t 36)⟩, ⟨some 38, .call false .any 98 [.t 35, .t 37]⟩, ⟨some 39, .un .not (.t 38)⟩],
 .one ⟨some 40, .pick (.t 34) (.c (.bool true)) (.t 39)⟩])
 (.cond (.t 40) (.seq (.region [.one ⟨some 2, .move (.c (.bool false))⟩])
 .ret)
 .skip)))))
 (.region [.one ⟨some 41, .bin .add 0 (.t 12) (.c (.int .i64 1))⟩,
 .one ⟨some 12, .move (.t 41)⟩]))))
def graph_May_l0 : ACode :=
 (.loop [(0, .any), (10, .any), (11, .any), (12, .any)] [(0, [])] [(2, .any)] graph_May_b0)
def graph_May : AFunc := { params := [.any], results := [.tmp 2], body :=
 (.seq (.region [.one ⟨some 2, .move (.c (.bool false))⟩])
 (.seq (.seq (.region [.one ⟨some 7, .move (.t 0)⟩,
 .one ⟨some 8, .len (.t 7)⟩,
 .one ⟨some 9, .bin .gtr 0 (.t 8) (.c (.int .i64 240))⟩])
 (.cond (.t 9) (.seq (.region [.one ⟨some 2, .move (.c (.bool false))⟩])
 .ret)
 .skip))
 (.seq (.seq (.region [.one ⟨some 10, .move (.t 0)⟩,
 .one ⟨some 11, .len (.t 10)⟩,
 .one ⟨some 12, .move (.c (.int .i64 0))⟩])
 (.block 0 graph_May_l0))
 (.seq (.region [.one ⟨some 2, .move (.c (.bool true))⟩])
 .ret)))) }
/-- gradus/graph.infer: number 62 -/
def graph_infer_b0 : ACode :=
 (.seq (.region [.one ⟨some 18, .bin .lss 0 (.t 17) (.t 16)⟩])
 (.seq (.cond (.t 18) .skip
 (.exit 0))
 (.seq (.block 1 (.seq (.region [.one ⟨some 19, .indexAddr 1 (.t 15) (.t 17)⟩,
 .one ⟨some 20, .load 1 false .any (.t 19)⟩,
 .one ⟨some 14, .move (.t 20)⟩])
 (.seq (.seq (.region [.one ⟨some 21, .move (.t 14)⟩,
 .one ⟨some 22, .bin .lss 0 (.t 21) (.c (.int .i64 0))⟩,
 .one ⟨some 23, .move (.t 22)⟩,
 .grd 23 false [⟨some 24, .move (.t 14)⟩, ⟨some 25, .move (.t 3)⟩, ⟨some 26, .len (.t 25)⟩, ⟨some 27, .bin .geq 0 (.t 24) (.t 26)⟩],
 .one ⟨some 28, .pick (.t 23) (.c (.bool true)) (.t 27)⟩])
 (.cond (.t 28) (.seq (.region [.one ⟨some 10, .move (.c (.nil))⟩,
 .one ⟨some 11, .move (.c (.int .i64 1))⟩])
 .ret)
 .skip))
 (.region [.one ⟨some 29, .move (.t 12)⟩,
 .one ⟨some 30, .move (.t 3)⟩,
 .one ⟨some 31, .move (.t 14)⟩,
 .one ⟨some 32, .indexAddr 5 (.t 30) (.t 31)⟩,
 .one ⟨some 33, .fieldAddr 3 (.t 32)⟩,
 .one ⟨some 34, .load 1 false .any (.t 33)⟩,
 .one ⟨some 35, .buildSlice 1 1 [.nil] [(0, .t 34)]⟩,
 .one ⟨some 36, .append 1 24 (.t 29) (.t 35)⟩,
 .one ⟨some 12, .move (.t 36)⟩]))))
 (.region [.one ⟨some 37, .bin .add 0 (.t 17) (.c (.int .i64 1))⟩,
 .one ⟨some 17, .move (.t 37)⟩]))))
def graph_infer_l0 : ACode :=
 (.loop [(0, .any), (1, .any), (2, .any), (3, .any), (12, .any), (15, .any), (16, .any), (17, .any)] [(0, [(0, .any), (1, .any), (2, .any), (12, .any)])] [(10, .any), (11, .any)] graph_infer_b0)
def graph_infer : AFunc := { params := [.any, .any, .any, .any, .any], results := [.tmp 10, .tmp 11], body :=
 (.seq (.region [.one ⟨some 10, .move (.c (.nil))⟩,
 .one ⟨some 11, .move (.c (.int .i64 0))⟩])
 (.seq (.region [.one ⟨some 12, .move (.c (.nil))⟩])
 (.seq (.seq (.region [.one ⟨some 15, .move (.t 4)⟩,
 .one ⟨some 16, .len (.t 15)⟩,
 .one ⟨some 17, .move (.c (.int .i64 0))⟩])
 (.block 0 graph_infer_l0))
 (.seq (.region [.one ⟨some 38, .move (.t 0)⟩,
 .one ⟨some 39, .move (.t 1)⟩,
 .one ⟨some 40, .move (.t 2)⟩,
 .one ⟨some 41, .move (.t 12)⟩,
 .one ⟨some 42, .call false .any 99 [.t 38, .t 39, .t 40, .t 41]⟩,
 .one ⟨some 43, .extract (.t 42) 0⟩,
 .one ⟨some 44, .extract (.t 42) 1⟩,
 .one ⟨some 10, .move (.t 43)⟩,
 .one ⟨some 11, .move (.t 44)⟩])
 .ret)))) }
/-- gradus/gradusref7.DimsOf: number 63 -/
def ref7_DimsOf_b0 : ACode :=
 (.seq (.seq (.region [.one ⟨some 7, .move (.t 6)⟩,
 .one ⟨some 8, .move (.t 1)⟩,
 .one ⟨some 9, .len (.t 8)⟩,
 .one ⟨some 10, .bin .lss 0 (.t 7) (.t 9)⟩])
 (.cond (.t 10) .skip
 (.exit 0)))
 (.seq (.block 1 (.region [.one ⟨some 13, .move (.t 5)⟩,
 .one ⟨some 14, .move (.t 0)⟩,
 .one ⟨some 15, .move (.t 1)⟩,
 .one ⟨some 16, .move (.t 6)⟩,
 .one ⟨some 17, .indexAddr 1 (.t 15) (.t 16)⟩,
 .one ⟨some 18, .load 1 false .any (.t 17)⟩,
 .one ⟨some 19, .indexAddr 5 (.t 14) (.t 18)⟩,
 .one ⟨some 20, .fieldAddr 3 (.t 19)⟩,
 .one ⟨some 21, .load 1 false .any (.t 20)⟩,
 .one ⟨some 22, .buildSlice 1 1 [.nil] [(0, .t 21)]⟩,
 .one ⟨some 23, .append 1 24 (.t 13) (.t 22)⟩,
 .one ⟨some 5, .move (.t 23)⟩]))
 (.region [.one ⟨some 11, .move (.t 6)⟩,
 .one ⟨some 12, .bin .add 0 (.t 11) (.c (.int .i64 1))⟩,
 .one ⟨some 6, .move (.t 12)⟩])))
def ref7_DimsOf_l0 : ACode :=
 (.loop [(0, .any), (1, .any), (5, .any), (6, .any)] [(0, [(5, .any)])] [] ref7_DimsOf_b0)
def ref7_DimsOf : AFunc := { params := [.any, .any], results := [.tmp 4], body :=
 (.seq (.region [.one ⟨some 4, .move (.c (.nil))⟩])
 (.seq (.region [.one ⟨some 5, .move (.c (.nil))⟩])
 (.seq (.seq (.region [.one ⟨some 6, .move (.c (.int .i64 0))⟩])
 (.block 0 ref7_DimsOf_l0))
 (.seq (.region [.one ⟨some 24, .move (.t 5)⟩,
 .one ⟨some 4, .move (.t 24)⟩])
 .ret)))) }
/-- gradus/gradusref1.Infer: number 65 -/
def ref1_Infer : AFunc := { params := [.any, .any, .any, .any], results := [.tmp 8, .tmp 9], body :=
 (.seq (.region [.one ⟨some 8, .move (.c (.nil))⟩,
 .one ⟨some 9, .move (.c (.bool false))⟩])
 (.seq (.seq (.region [.one ⟨some 11, .move (.t 0)⟩])
 (.block 0 (.seq (.seq (.region [.one ⟨some 13, .bin .eql 0 (.t 11) (.c (.int .i64 1))⟩,
 .one ⟨some 12, .move (.t 13)⟩])
 (.cond (.t 12) .skip
 (.seq (.region [.one ⟨some 14, .bin .eql 0 (.t 11) (.c (.int .i64 2))⟩,
 .one ⟨some 12, .move (.t 14)⟩])
 (.cond (.t 12) .skip
 (.region [.one ⟨some 15, .bin .eql 0 (.t 11) (.c (.int .i64 3))⟩,
 .one ⟨some 12, .move (.t 15)⟩])))))
 (.cond (.t 12) (.seq (.region [.one ⟨some 16, .move (.t 2)⟩,
 .one ⟨some 17, .call false .any 25 [.t 16]⟩,
 .one ⟨some 8, .move (.t 17)⟩,
 .one ⟨some 9, .move (.c (.bool true))⟩])
 .ret)
 (.seq (.seq (.region [.one ⟨some 19, .bin .eql 0 (.t 11) (.c (.int .i64 4))⟩,
 .one ⟨some 18, .move (.t 19)⟩])
 (.cond (.t 18) .skip
 (.seq (.region [.one ⟨some 20, .bin .eql 0 (.t 11) (.c (.int .i64 5))⟩,
 .one ⟨some 18, .move (.t 20)⟩])
 (.cond (.t 18) .skip
 (.seq (.region [.one ⟨some 21, .bin .eql 0 (.t 11) (.c (.int .i64 6))⟩,
 .one ⟨some 18, .move (.t 21)⟩])
 (.cond (.t 18) .skip
 (.region [.one ⟨some 22, .bin .eql 0 (.t 11) (.c (.int .i64 16))⟩,
 .one ⟨some 18, .move (.t 22)⟩])))))))
 (.cond (.t 18) (.seq (.region [.one ⟨some 23, .move (.t 3)⟩,
 .one ⟨some 24, .indexAddr 1 (.t 23) (.c (.int .i64 0))⟩,
 .one ⟨some 25, .load 1 false .any (.t 24)⟩,
 .one ⟨some 26, .call true .any 25 [.t 25]⟩,
 .one ⟨some 27, .move (.t 3)⟩,
 .one ⟨some 28, .indexAddr 1 (.t 27) (.c (.int .i64 0))⟩,
 .one ⟨some 29, .load 1 false .any (.t 28)⟩,
 .one ⟨some 30, .move (.t 3)⟩,
 .one ⟨some 31, .indexAddr 1 (.t 30) (.c (.int .i64 1))⟩,
 .one ⟨some 32, .load 1 false .any (.t 31)⟩,
 .one ⟨some 33, .call true .any 5 [.t 29, .t 32]⟩,
 .one ⟨some 8, .move (.t 26)⟩,
 .one ⟨some 9, .move (.t 33)⟩])
 .ret)
 (.seq (.region [.one ⟨some 35, .bin .eql 0 (.t 11) (.c (.int .i64 9))⟩,
 .one ⟨some 34, .move (.t 35)⟩])
 (.cond (.t 34) (.seq (.seq (.region [.one ⟨some 36, .move (.t 3)⟩,
 .one ⟨some 37, .indexAddr 1 (.t 36) (.c (.int .i64 0))⟩,
 .one ⟨some 38, .load 1 false .any (.t 37)⟩,
 .one ⟨some 39, .len (.t 38)⟩,
 .one ⟨some 40, .bin .neq 0 (.t 39) (.c (.int .i64 2))⟩,
 .one ⟨some 41, .move (.t 40)⟩,
 .grd 41 false [⟨some 42, .move (.t 3)⟩, ⟨some 43, .indexAddr 1 (.t 42) (.c (.int .i64 1))⟩, ⟨some 44, .load 1 false .any (.t 43)⟩, ⟨some 45, .len (.t 44)⟩, ⟨some 46, .bin .neq 0 (.t 45) (.c (.int .i64 2))⟩],
 .one ⟨some 47, .pick (.t 41) (.c (.bool true)) (.t 46)⟩,
 .one ⟨some 48, .move (.t 47)⟩,
 .grd 48 false [⟨some 49, .move (.t 3)⟩, ⟨some 50, .indexAddr 1 (.t 49) (.c (.int .i64 0))⟩, ⟨some 51, .load 1 false .any (.t 50)⟩, ⟨some 52, .indexAddr 1 (.t 51) (.c (.int .i64 1))⟩, ⟨some 53, .load 1 false .any (.t 52)⟩, ⟨some 54, .move (.t 3)⟩, ⟨some 55, .indexAddr 1 (.t 54) (.c (.int .i64 1))⟩, ⟨some 56, .load 1 false .any (.t 55)⟩, ⟨some 57, .indexAddr 1 (.t 56) (.c (.int .i64 0))⟩, ⟨some 58, .load 1 false .any (.t 57)⟩, ⟨some 59, .bin .neq 0 (.t 53) (.t 58)⟩],
 .one ⟨some 60, .pick (.t 48) (.c (.bool true)) (.t 59)⟩])
 (.cond (.t 60) (.seq (.region [.one ⟨some 8, .move (.c (.nil))⟩,
 .one ⟨some 9, .move (.c (.bool false))⟩])
 .ret)
 .skip))
 (.seq (.region [.one ⟨some 61, .move (.t 3)⟩,
 .one ⟨some 62, .indexAddr 1 (.t 61) (.c (.int .i64 0))⟩,
 .one ⟨some 63, .load 1 false .any (.t 62)⟩,
 .one ⟨some 64, .indexAddr 1 (.t 63) (.c (.int .i64 0))⟩,
 .one ⟨some 65, .load 1 false .any (.t 64)⟩,
 .one ⟨some 66, .move (.t 3)⟩,
 .one ⟨some 67, .indexAddr 1 (.t 66) (.c (.int .i64 1))⟩,
 .one ⟨some 68, .load 1 false .any (.t 67)⟩,
 .one ⟨some 69, .indexAddr 1 (.t 68) (.c (.int .i64 1))⟩,
 .one ⟨some 70, .load 1 false .any (.t 69)⟩,
 .one ⟨some 71, .buildSlice 1 2 [.int .i64 0] [(0, .t 65), (1, .t 70)]⟩,
 .one ⟨some 8, .move (.t 71)⟩,
 .one ⟨some 9, .move (.c (.bool true))⟩])
 .ret))
 (.seq (.region [.one ⟨some 73, .bin .eql 0 (.t 11) (.c (.int .i64 10))⟩,
 .one ⟨some 72, .move (.t 73)⟩])
 (.cond (.t 72) (.seq (.seq (.region [.one ⟨some 74, .move (.t 3)⟩,
 .one ⟨some 75, .indexAddr 1 (.t 74) (.c (.int .i64 0))⟩,
 .one ⟨some 76, .load 1 false .any (.t 75)⟩,
 .one ⟨some 77, .len (.t 76)⟩,
 .one ⟨some 78, .bin .neq 0 (.t 77) (.c (.int .i64 2))⟩])
 (.cond (.t 78) (.seq (.region [.one ⟨some 8, .move (.c (.nil))⟩,
 .one ⟨some 9, .move (.c (.bool false))⟩])
 .ret)
 .skip))
 (.seq (.region [.one ⟨some 79, .move (.t 3)⟩,
 .one ⟨some 80, .indexAddr 1 (.t 79) (.c (.int .i64 0))⟩,
 .one ⟨some 81, .load 1 false .any (.t 80)⟩,
 .one ⟨some 82, .indexAddr 1 (.t 81) (.c (.int .i64 1))⟩,
 .one ⟨some 83, .load 1 false .any (.t 82)⟩,
 .one ⟨some 84, .move (.t 3)⟩,
 .one ⟨some 85, .indexAddr 1 (.t 84) (.c (.int .i64 0))⟩,
 .one ⟨some 86, .load 1 false .any (.t 85)⟩,
 .one ⟨some 87, .indexAddr 1 (.t 86) (.c (.int .i64 0))⟩,
 .one ⟨some 88, .load 1 false .any (.t 87)⟩,
 .one ⟨some 89, .buildSlice 1 2 [.int .i64 0] [(0, .t 83), (1, .t 88)]⟩,
 .one ⟨some 8, .move (.t 89)⟩,
 .one ⟨some 9, .move (.c (.bool true))⟩])
 .ret))
 (.seq (.region [.one ⟨some 91, .bin .eql 0 (.t 11) (.c (.int .i64 11))⟩,
 .one ⟨some 90, .move (.t 91)⟩])
 (.cond (.t 90) (.seq (.region [.one ⟨some 92, .move (.t 2)⟩,
 .one ⟨some 93, .call true .any 25 [.t 92]⟩,
 .one ⟨some 94, .move (.t 2)⟩,
 .one ⟨some 95, .call true .any 78 [.t 94]⟩,
 .one ⟨some 96, .move (.t 3)⟩,
 .one ⟨some 97, .indexAddr 1 (.t 96) (.c (.int .i64 0))⟩,
 .one ⟨some 98, .load 1 false .any (.t 97)⟩,
 .one ⟨some 99, .call true .any 78 [.t 98]⟩,
 .one ⟨some 100, .bin .eql 0 (.t 95) (.t 99)⟩,
 .one ⟨some 8, .move (.t 93)⟩,
 .one ⟨some 9, .move (.t 100)⟩])
 .ret)
 (.seq (.region [.one ⟨some 102, .bin .eql 0 (.t 11) (.c (.int .i64 12))⟩,
 .one ⟨some 101, .move (.t 102)⟩])
 (.cond (.t 101) (.seq (.region [.one ⟨some 103, .move (.t 2)⟩,
 .one ⟨some 104, .call true .any 25 [.t 103]⟩,
 .one ⟨some 105, .move (.t 3)⟩,
 .one ⟨some 106, .indexAddr 1 (.t 105) (.c (.int .i64 0))⟩,
 .one ⟨some 107, .load 1 false .any (.t 106)⟩,
 .one ⟨some 108, .move (.t 2)⟩,
 .one ⟨some 109, .call true .any 101 [.t 107, .t 108]⟩,
 .one ⟨some 8, .move (.t 104)⟩,
 .one ⟨some 9, .move (.t 109)⟩])
 .ret)
 (.seq (.region [.one ⟨some 111, .bin .eql 0 (.t 11) (.c (.int .i64 13))⟩,
 .one ⟨some 110, .move (.t 111)⟩])
 (.cond (.t 110) (.seq (.region [.one ⟨some 112, .move (.t 2)⟩,
 .one ⟨some 113, .call true .any 25 [.t 112]⟩,
 .one ⟨some 114, .move (.t 2)⟩,
 .one ⟨some 115, .move (.t 3)⟩,
 .one ⟨some 116, .indexAddr 1 (.t 115) (.c (.int .i64 0))⟩,
 .one ⟨some 117, .load 1 false .any (.t 116)⟩,
 .one ⟨some 118, .call true .any 101 [.t 114, .t 117]⟩,
 .one ⟨some 8, .move (.t 113)⟩,
 .one ⟨some 9, .move (.t 118)⟩])
 .ret)
 (.seq (.seq (.region [.one ⟨some 120, .bin .eql 0 (.t 11) (.c (.int .i64 15))⟩,
 .one ⟨some 119, .move (.t 120)⟩])
 (.cond (.t 119) .skip
 (.region [.one ⟨some 121, .bin .eql 0 (.t 11) (.c (.int .i64 17))⟩,
 .one ⟨some 119, .move (.t 121)⟩])))
 (.cond (.t 119) (.seq (.seq (.region [.one ⟨some 122, .move (.t 3)⟩,
 .one ⟨some 123, .indexAddr 1 (.t 122) (.c (.int .i64 0))⟩,
 .one ⟨some 124, .load 1 false .any (.t 123)⟩,
 .one ⟨some 125, .move (.t 3)⟩,
 .one ⟨some 126, .indexAddr 1 (.t 125) (.c (.int .i64 0))⟩,
 .one ⟨some 127, .load 1 false .any (.t 126)⟩,
 .one ⟨some 128, .len (.t 127)⟩,
 .one ⟨some 129, .bin .sub 0 (.t 128) (.c (.int .i64 1))⟩,
 .one ⟨some 130, .indexAddr 1 (.t 124) (.t 129)⟩,
 .one ⟨some 131, .load 1 false .any (.t 130)⟩,
 .one ⟨some 132, .move (.t 1)⟩,
 .one ⟨some 133, .bin .rem 0 (.t 131) (.t 132)⟩,
 .one ⟨some 134, .bin .neq 0 (.t 133) (.c (.int .i64 0))⟩])
 (.cond (.t 134) (.seq (.region [.one ⟨some 8, .move (.c (.nil))⟩,
 .one ⟨some 9, .move (.c (.bool false))⟩])
 .ret)
 .skip))
 (.seq (.region [.one ⟨some 135, .move (.t 3)⟩,
 .one ⟨some 136, .indexAddr 1 (.t 135) (.c (.int .i64 0))⟩,
 .one ⟨some 137, .load 1 false .any (.t 136)⟩,
 .one ⟨some 138, .move (.t 1)⟩,
 .one ⟨some 139, .call false .any 102 [.t 137, .t 138]⟩,
 .one ⟨some 10, .move (.t 139)⟩])
 (.seq (.seq (.region [.one ⟨some 140, .move (.t 0)⟩,
 .one ⟨some 141, .bin .eql 0 (.t 140) (.c (.int .i64 15))⟩])
 (.cond (.t 141) (.seq (.region [.one ⟨some 142, .move (.t 10)⟩,
 .one ⟨some 8, .move (.t 142)⟩,
 .one ⟨some 9, .move (.c (.bool true))⟩])
 .ret)
 .skip))
 (.seq (.region [.one ⟨some 143, .move (.t 3)⟩,
 .one ⟨some 144, .indexAddr 1 (.t 143) (.c (.int .i64 0))⟩,
 .one ⟨some 145, .load 1 false .any (.t 144)⟩,
 .one ⟨some 146, .call true .any 25 [.t 145]⟩,
 .one ⟨some 147, .move (.t 10)⟩,
 .one ⟨some 148, .move (.t 3)⟩,
 .one ⟨some 149, .indexAddr 1 (.t 148) (.c (.int .i64 1))⟩,
 .one ⟨some 150, .load 1 false .any (.t 149)⟩,
 .one ⟨some 151, .call true .any 5 [.t 147, .t 150]⟩,
 .one ⟨some 8, .move (.t 146)⟩,
 .one ⟨some 9, .move (.t 151)⟩])
 .ret))))
 .skip))))))))))))))))))
 (.seq (.region [.one ⟨some 152, .move (.t 3)⟩,
 .one ⟨some 153, .indexAddr 1 (.t 152) (.c (.int .i64 0))⟩,
 .one ⟨some 154, .load 1 false .any (.t 153)⟩,
 .one ⟨some 155, .call false .any 25 [.t 154]⟩,
 .one ⟨some 8, .move (.t 155)⟩,
 .one ⟨some 9, .move (.c (.bool true))⟩])
 .ret))) }
/-- gradus/gradusref0.Between: number 66 -/
def ref0_Between : AFunc := { params := [.any, .any, .any], results := [.tmp 6], body :=
 (.seq (.region [.one ⟨some 6, .move (.c (.bool false))⟩])
 (.seq (.region [.one ⟨some 7, .move (.t 0)⟩,
 .one ⟨some 8, .move (.t 1)⟩,
 .one ⟨some 9, .bin .geq 0 (.t 7) (.t 8)⟩,
 .one ⟨some 10, .move (.t 9)⟩,
 .grd 10 true [⟨some 11, .move (.t 0)⟩, ⟨some 12, .move (.t 2)⟩, ⟨some 13, .bin .leq 0 (.t 11) (.t 12)⟩],
 .one ⟨some 14, .pick (.t 10) (.t 13) (.c (.bool false))⟩,
 .one ⟨some 6, .move (.t 14)⟩])
 .ret)) }
/-- gradus/graph.Is: number 68 -/
def graph_Is : AFunc := { params := [.any], results := [.tmp 2], body :=
 (.seq (.region [.one ⟨some 2, .move (.c (.bool false))⟩])
 (.seq (.seq (.region [.one ⟨some 4, .move (.t 0)⟩,
 .one ⟨some 5, .len (.t 4)⟩,
 .one ⟨some 6, .bin .lss 0 (.t 5) (.c (.int .i64 1))⟩,
 .one ⟨some 7, .move (.t 6)⟩,
 .grd 7 false [⟨some 8, .move (.t 0)⟩, ⟨some 9, .len (.t 8)⟩, ⟨some 10, .bin .gtr 0 (.t 9) (.c (.int .i64 24))⟩],
 .one ⟨some 11, .pick (.t 7) (.c (.bool true)) (.t 10)⟩,
 .one ⟨some 12, .move (.t 11)⟩,
 .grd 12 false [⟨some 13, .move (.t 0)⟩, ⟨some 14, .call false .any 61 [.t 13]⟩, ⟨some 15, .un .not (.t 14)⟩],
 .one ⟨some 16, .pick (.t 12) (.c (.bool true)) (.t 15)⟩,
 .one ⟨some 17, .move (.t 16)⟩,
 .grd 17 false [⟨some 18, .move (.t 0)⟩, ⟨some 19, .call false .any 103 [.t 18]⟩, ⟨some 20, .un .not (.t 19)⟩],
 .one ⟨some 21, .pick (.t 17) (.c (.bool true)) (.t 20)⟩])
 (.cond (.t 21) (.seq (.region [.one ⟨some 2, .move (.c (.bool false))⟩])
 .ret)
 .skip))
 (.seq (.region [.one ⟨some 3, .move (.c (.fn 104 []))⟩])
 (.seq (.region [.one ⟨some 22, .move (.t 0)⟩,
 .one ⟨some 23, .move (.t 3)⟩,
 .one ⟨some 24, .call false .any 105 [.t 22, .t 23]⟩,
 .one ⟨some 25, .un .not (.t 24)⟩,
 .one ⟨some 26, .move (.t 25)⟩,
 .grd 26 true [⟨some 27, .move (.t 0)⟩, ⟨some 28, .move (.t 0)⟩, ⟨some 29, .len (.t 28)⟩, ⟨some 30, .bin .sub 0 (.t 29) (.c (.int .i64 1))⟩, ⟨some 31, .indexAddr 5 (.t 27) (.t 30)⟩, ⟨some 32, .fieldAddr 3 (.t 31)⟩, ⟨some 33, .load 1 false .any (.t 32)⟩, ⟨some 34, .call false .any 106 [.t 33]⟩, ⟨some 35, .bin .eql 0 (.t 34) (.c (.int .i64 1))⟩],
 .one ⟨some 36, .pick (.t 26) (.t 35) (.c (.bool false))⟩,
 .one ⟨some 2, .move (.t 36)⟩])
 .ret)))) }
/-- gradus/graph.Ends: number 69 -/
def graph_Ends_b0 : ACode :=
 (.seq (.region [.one ⟨some 16, .bin .lss 0 (.t 15) (.t 14)⟩])
 (.seq (.cond (.t 16) .skip
 (.exit 2))
 (.seq (.block 3 (.seq (.region [.one ⟨some 17, .move (.t 15)⟩,
 .one ⟨some 18, .indexAddr 5 (.t 13) (.t 15)⟩,
 .one ⟨some 19, .load 5 true .any (.t 18)⟩,
 .one ⟨some 6, .alloc [.str (bs []), .int .i64 0, .nil, .nil, .int .i64 0]⟩,
 .one ⟨some 5, .move (.t 17)⟩,
 .one ⟨none, .store 5 (.t 6) (.t 19)⟩])
 (.seq (.region [.one ⟨some 20, .fieldAddr 1 (.t 6)⟩,
 .one ⟨some 21, .load 1 false .any (.t 20)⟩,
 .one ⟨some 22, .move (.t 4)⟩,
 .one ⟨some 23, .bin .eql 0 (.t 21) (.t 22)⟩])
 (.cond (.t 23) (.region [.one ⟨some 24, .move (.t 2)⟩,
 .one ⟨some 25, .move (.t 5)⟩,
 .one ⟨some 26, .buildSlice 1 1 [.int .i64 0] [(0, .t 25)]⟩,
 .one ⟨some 27, .append 1 8 (.t 24) (.t 26)⟩,
 .one ⟨some 2, .move (.t 27)⟩])
 .skip))))
 (.region [.one ⟨some 28, .bin .add 0 (.t 15) (.c (.int .i64 1))⟩,
 .one ⟨some 15, .move (.t 28)⟩]))))
def graph_Ends_l0 : ACode :=
 (.loop [(0, .any), (2, .any), (4, .any), (7, .any), (8, .any), (9, .any), (13, .any), (14, .any), (15, .any)] [(2, [(0, .any), (2, .any), (7, .any), (8, .any), (9, .any)])] [] graph_Ends_b0)
def graph_Ends_b1 : ACode :=
 (.seq (.region [.one ⟨some 10, .bin .lss 0 (.t 9) (.t 8)⟩])
 (.seq (.cond (.t 10) .skip
 (.exit 0))
 (.seq (.block 1 (.seq (.region [.one ⟨some 11, .indexAddr 1 (.t 7) (.t 9)⟩,
 .one ⟨some 12, .load 1 false .any (.t 11)⟩,
 .one ⟨some 4, .move (.t 12)⟩])
 (.seq (.region [.one ⟨some 13, .move (.t 0)⟩,
 .one ⟨some 14, .len (.t 13)⟩,
 .one ⟨some 15, .move (.c (.int .i64 0))⟩])
 (.block 2 graph_Ends_l0))))
 (.region [.one ⟨some 29, .bin .add 0 (.t 9) (.c (.int .i64 1))⟩,
 .one ⟨some 9, .move (.t 29)⟩]))))
def graph_Ends_l1 : ACode :=
 (.loop [(0, .any), (2, .any), (7, .any), (8, .any), (9, .any)] [(0, [(2, .any)])] [] graph_Ends_b1)
def graph_Ends : AFunc := { params := [.any], results := [.tmp 2], body :=
 (.seq (.region [.one ⟨some 2, .move (.c (.nil))⟩])
 (.seq (.seq (.region [.one ⟨some 7, .buildSlice 1 2 [.int .i64 0] [(0, .c (.int .i64 1)), (1, .c (.int .i64 2))]⟩,
 .one ⟨some 8, .len (.t 7)⟩,
 .one ⟨some 9, .move (.c (.int .i64 0))⟩])
 (.block 0 graph_Ends_l1))
 (.seq (.region [.one ⟨some 30, .move (.t 2)⟩,
 .one ⟨some 2, .move (.t 30)⟩])
 .ret))) }
/-- slices.Max[[]int,int]: number 73 -/
def slices_Max_int_b0 : ACode :=
 (.seq (.seq (.region [.one ⟨some 12, .move (.t 4)⟩,
 .one ⟨some 13, .move (.t 0)⟩,
 .one ⟨some 14, .len (.t 13)⟩,
 .one ⟨some 15, .bin .lss 0 (.t 12) (.t 14)⟩])
 (.cond (.t 15) .skip
 (.exit 0)))
 (.seq (.block 1 (.region [.one ⟨some 18, .move (.t 3)⟩,
 .one ⟨some 19, .move (.t 0)⟩,
 .one ⟨some 20, .move (.t 4)⟩,
 .one ⟨some 21, .indexAddr 1 (.t 19) (.t 20)⟩,
 .one ⟨some 22, .load 1 false .any (.t 21)⟩,
 .one ⟨some 23, .max (.t 18) (.t 22)⟩,
 .one ⟨some 3, .move (.t 23)⟩]))
 (.region [.one ⟨some 16, .move (.t 4)⟩,
 .one ⟨some 17, .bin .add 0 (.t 16) (.c (.int .i64 1))⟩,
 .one ⟨some 4, .move (.t 17)⟩])))
def slices_Max_int_l0 : ACode :=
 (.loop [(0, .any), (3, .any), (4, .any)] [(0, [(3, .any)])] [] slices_Max_int_b0)
def slices_Max_int : AFunc := { params := [.any], results := [.tmp 2], body :=
 (.seq (.region [.one ⟨some 2, .move (.c (.int .i64 0))⟩])
 (.seq (.seq (.region [.one ⟨some 5, .move (.t 0)⟩,
 .one ⟨some 6, .len (.t 5)⟩,
 .one ⟨some 7, .bin .lss 0 (.t 6) (.c (.int .i64 1))⟩])
 (.cond (.t 7) (.region [.one ⟨some 8, .bad⟩,
 .one ⟨none, .bad⟩])
 .skip))
 (.seq (.region [.one ⟨some 9, .move (.t 0)⟩,
 .one ⟨some 10, .indexAddr 1 (.t 9) (.c (.int .i64 0))⟩,
 .one ⟨some 11, .load 1 false .any (.t 10)⟩,
 .one ⟨some 3, .move (.t 11)⟩])
 (.seq (.seq (.region [.one ⟨some 4, .move (.c (.int .i64 1))⟩])
 (.block 0 slices_Max_int_l0))
 (.seq (.region [.one ⟨some 24, .move (.t 3)⟩,
 .one ⟨some 2, .move (.t 24)⟩])
 .ret))))) }
/-- slices.ContainsFunc[[]int,int]: number 75 -/
def slices_ContainsFunc_int : AFunc := { params := [.any, .any], results := [.tmp 4], body :=
 (.seq (.region [.one ⟨some 4, .move (.c (.bool false))⟩])
 (.seq (.region [.one ⟨some 5, .move (.t 0)⟩,
 .one ⟨some 6, .move (.t 1)⟩,
 .one ⟨some 7, .call false .any 110 [.t 5, .t 6]⟩,
 .one ⟨some 8, .bin .geq 0 (.t 7) (.c (.int .i64 0))⟩,
 .one ⟨some 4, .move (.t 8)⟩])
 .ret)) }
/-- gradus/gradusref1.Cells: number 78 -/
def ref1_Cells_b0 : ACode :=
 (.seq (.seq (.region [.one ⟨some 5, .move (.t 4)⟩,
 .one ⟨some 6, .move (.t 0)⟩,
 .one ⟨some 7, .len (.t 6)⟩,
 .one ⟨some 8, .bin .lss 0 (.t 5) (.t 7)⟩])
 (.cond (.t 8) .skip
 (.exit 0)))
 (.seq (.block 1 (.region [.one ⟨some 11, .move (.t 3)⟩,
 .one ⟨some 12, .move (.t 0)⟩,
 .one ⟨some 13, .move (.t 4)⟩,
 .one ⟨some 14, .indexAddr 1 (.t 12) (.t 13)⟩,
 .one ⟨some 15, .load 1 false .any (.t 14)⟩,
 .one ⟨some 16, .bin .mul 0 (.t 11) (.t 15)⟩,
 .one ⟨some 3, .move (.t 16)⟩]))
 (.region [.one ⟨some 9, .move (.t 4)⟩,
 .one ⟨some 10, .bin .add 0 (.t 9) (.c (.int .i64 1))⟩,
 .one ⟨some 4, .move (.t 10)⟩])))
def ref1_Cells_l0 : ACode :=
 (.loop [(0, .any), (3, .any), (4, .any)] [(0, [(3, .any)])] [] ref1_Cells_b0)
def ref1_Cells : AFunc := { params := [.any], results := [.tmp 2], body :=
 (.seq (.region [.one ⟨some 2, .move (.c (.int .i64 0))⟩])
 (.seq (.region [.one ⟨some 3, .move (.c (.int .i64 1))⟩])
 (.seq (.seq (.region [.one ⟨some 4, .move (.c (.int .i64 0))⟩])
 (.block 0 ref1_Cells_l0))
 (.seq (.region [.one ⟨some 17, .move (.t 3)⟩,
 .one ⟨some 2, .move (.t 17)⟩])
 .ret)))) }
/-- gradus/gradusref0.In: number 80 -/
def ref0_In_b0 : ACode :=
 (.seq (.seq (.region [.one ⟨some 6, .move (.t 5)⟩,
 .one ⟨some 7, .move (.t 0)⟩,
 .one ⟨some 8, .len (.t 7)⟩,
 .one ⟨some 9, .bin .lss 0 (.t 6) (.t 8)⟩])
 (.cond (.t 9) .skip
 (.exit 0)))
 (.seq (.block 1 (.seq (.region [.one ⟨some 12, .move (.t 0)⟩,
 .one ⟨some 13, .move (.t 5)⟩,
 .one ⟨some 14, .indexAddr 1 (.t 12) (.t 13)⟩,
 .one ⟨some 15, .load 1 false .any (.t 14)⟩,
 .one ⟨some 16, .move (.t 1)⟩,
 .one ⟨some 17, .bin .eql 0 (.t 15) (.t 16)⟩])
 (.cond (.t 17) (.seq (.region [.one ⟨some 18, .move (.t 5)⟩,
 .one ⟨some 4, .move (.t 18)⟩])
 .ret)
 .skip)))
 (.region [.one ⟨some 10, .move (.t 5)⟩,
 .one ⟨some 11, .bin .add 0 (.t 10) (.c (.int .i64 1))⟩,
 .one ⟨some 5, .move (.t 11)⟩])))
def ref0_In_l0 : ACode :=
 (.loop [(0, .any), (1, .any), (5, .any)] [(0, [])] [(4, .any)] ref0_In_b0)
def ref0_In : AFunc := { params := [.any, .any], results := [.tmp 4], body :=
 (.seq (.region [.one ⟨some 4, .move (.c (.int .i64 0))⟩])
 (.seq (.seq (.region [.one ⟨some 5, .move (.c (.int .i64 0))⟩])
 (.block 0 ref0_In_l0))
 (.seq (.region [.one ⟨some 4, .move (.c (.int .i64 (-1)))⟩])
 .ret))) }
/-- gradus/graduslaw0.TensorsWeight: number 88 -/
def law0_TensorsWeight_b0 : ACode :=
 (.seq (.seq (.region [.one ⟨some 7, .move (.t 4)⟩,
 .one ⟨some 8, .move (.t 0)⟩,
 .one ⟨some 9, .len (.t 8)⟩,
 .one ⟨some 10, .bin .lss 0 (.t 7) (.t 9)⟩,
 .one ⟨some 11, .move (.t 10)⟩,
 .grd 11 true [⟨some 12, .move (.t 3)⟩, ⟨some 13, .bin .lss 0 (.t 12) (.c (.int .i64 1048576))⟩],
 .one ⟨some 14, .pick (.t 11) (.t 13) (.c (.bool false))⟩])
 (.cond (.t 14) .skip
 (.exit 0)))
 (.seq (.block 1 (.region [.one ⟨some 17, .move (.t 3)⟩,
 .one ⟨some 18, .move (.t 0)⟩,
 .one ⟨some 19, .move (.t 4)⟩,
 .one ⟨some 20, .indexAddr 2 (.t 18) (.t 19)⟩,
 .one ⟨some 21, .fieldAddr 0 (.t 20)⟩,
 .one ⟨some 22, .load 1 false .any (.t 21)⟩,
 .one ⟨some 23, .len (.t 22)⟩,
 .one ⟨some 24, .bin .add 0 (.t 17) (.t 23)⟩,
 .one ⟨some 25, .move (.t 0)⟩,
 .one ⟨some 26, .move (.t 4)⟩,
 .one ⟨some 27, .indexAddr 2 (.t 25) (.t 26)⟩,
 .one ⟨some 28, .fieldAddr 1 (.t 27)⟩,
 .one ⟨some 29, .load 1 false .any (.t 28)⟩,
 .one ⟨some 30, .len (.t 29)⟩,
 .one ⟨some 31, .bin .quo 0 (.t 30) (.c (.int .i64 8))⟩,
 .one ⟨some 32, .bin .add 0 (.t 24) (.t 31)⟩,
 .one ⟨some 3, .move (.t 32)⟩]))
 (.region [.one ⟨some 15, .move (.t 4)⟩,
 .one ⟨some 16, .bin .add 0 (.t 15) (.c (.int .i64 1))⟩,
 .one ⟨some 4, .move (.t 16)⟩])))
def law0_TensorsWeight_l0 : ACode :=
 (.loop [(0, .any), (3, .any), (4, .any)] [(0, [(3, .any)])] [] law0_TensorsWeight_b0)
def law0_TensorsWeight : AFunc := { params := [.any], results := [.tmp 2], body :=
 (.seq (.region [.one ⟨some 2, .move (.c (.int .i64 0))⟩])
 (.seq (.region [.one ⟨some 5, .move (.t 0)⟩,
 .one ⟨some 6, .len (.t 5)⟩,
 .one ⟨some 3, .move (.t 6)⟩])
 (.seq (.seq (.region [.one ⟨some 4, .move (.c (.int .i64 0))⟩])
 (.block 0 law0_TensorsWeight_l0))
 (.seq (.region [.one ⟨some 33, .move (.t 3)⟩,
 .one ⟨some 2, .move (.t 33)⟩])
 .ret)))) }
/-- gradus/eval.Check: number 89 -/
def eval_Check : AFunc := { params := [.any, .any], results := [.tmp 4], body :=
 (.seq (.region [.one ⟨some 4, .move (.c (.int .i64 0))⟩])
 (.seq (.block 0 (.seq (.region [.one ⟨some 6, .move (.t 0)⟩,
 .one ⟨some 7, .call false .any 61 [.t 6]⟩,
 .one ⟨some 8, .un .not (.t 7)⟩,
 .one ⟨some 9, .move (.t 8)⟩,
 .grd 9 false [⟨some 10, .move (.t 1)⟩, ⟨some 11, .call false .any 118 [.t 10]⟩, ⟨some 12, .un .not (.t 11)⟩],
 .one ⟨some 13, .pick (.t 9) (.c (.bool true)) (.t 12)⟩,
 .one ⟨some 5, .move (.t 13)⟩])
 (.cond (.t 5) (.seq (.region [.one ⟨some 4, .move (.c (.int .i64 1))⟩])
 .ret)
 (.seq (.region [.one ⟨some 15, .move (.t 0)⟩,
 .one ⟨some 16, .move (.t 1)⟩,
 .one ⟨some 17, .call false .any 119 [.t 15, .t 16]⟩,
 .one ⟨some 18, .un .not (.t 17)⟩,
 .one ⟨some 14, .move (.t 18)⟩])
 (.cond (.t 14) (.seq (.region [.one ⟨some 4, .move (.c (.int .i64 4))⟩])
 .ret)
 .skip)))))
 (.seq (.region [.one ⟨some 4, .move (.c (.int .i64 0))⟩])
 .ret))) }
/-- gradus/eval.Values: number 90 -/
def eval_Values_b0 : ACode :=
 (.seq (.region [.one ⟨some 14, .bin .lss 0 (.t 13) (.t 12)⟩])
 (.seq (.cond (.t 14) .skip
 (.exit 0))
 (.seq (.block 1 (.seq (.region [.one ⟨some 15, .move (.t 13)⟩,
 .one ⟨some 16, .indexAddr 5 (.t 11) (.t 13)⟩,
 .one ⟨some 17, .load 5 true .any (.t 16)⟩,
 .one ⟨some 7, .alloc [.str (bs []), .int .i64 0, .nil, .nil, .int .i64 0]⟩,
 .one ⟨some 6, .move (.t 15)⟩,
 .one ⟨none, .store 5 (.t 7) (.t 17)⟩])
 (.seq (.region [.one ⟨some 18, .fieldAddr 1 (.t 7)⟩,
 .one ⟨some 19, .load 1 false .any (.t 18)⟩,
 .one ⟨some 20, .call false .any 121 [.t 19]⟩,
 .one ⟨some 21, .un .not (.t 20)⟩])
 (.cond (.t 21) (.region [.one ⟨some 23, .move (.t 5)⟩,
 .one ⟨some 24, .move (.t 6)⟩,
 .one ⟨some 25, .fieldAddr 1 (.t 7)⟩,
 .one ⟨some 26, .load 1 false .any (.t 25)⟩,
 .one ⟨some 27, .fieldAddr 4 (.t 7)⟩,
 .one ⟨some 28, .load 1 false .any (.t 27)⟩,
 .one ⟨some 29, .load 5 true .any (.t 7)⟩,
 .one ⟨some 30, .call true .any 97 [.t 29]⟩,
 .one ⟨some 31, .move (.t 5)⟩,
 .one ⟨some 32, .load 5 true .any (.t 7)⟩,
 .one ⟨some 33, .call true .any 122 [.t 31, .t 32]⟩,
 .one ⟨some 34, .call true .any 123 [.t 26, .t 28, .t 30, .t 33]⟩,
 .one ⟨some 22, .move (.t 34)⟩,
 .one ⟨some 35, .extract (.t 22) 0⟩,
 .one ⟨some 36, .extract (.t 22) 1⟩,
 .one ⟨some 37, .indexAddr 2 (.t 23) (.t 24)⟩,
 .one ⟨none, .store 2 (.t 37) (.t 35)⟩])
 .skip))))
 (.region [.one ⟨some 38, .bin .add 0 (.t 13) (.c (.int .i64 1))⟩,
 .one ⟨some 13, .move (.t 38)⟩]))))
def eval_Values_l0 : ACode :=
 (.loop [(5, .any), (11, .any), (12, .any), (13, .any)] [(0, [(5, .any)])] [] eval_Values_b0)
def eval_Values : AFunc := { params := [.any, .any], results := [.tmp 4], body :=
 (.seq (.region [.one ⟨some 4, .move (.c (.nil))⟩])
 (.seq (.region [.one ⟨some 8, .move (.t 0)⟩,
 .one ⟨some 9, .move (.t 1)⟩,
 .one ⟨some 10, .call false .any 120 [.t 8, .t 9]⟩,
 .one ⟨some 5, .move (.t 10)⟩])
 (.seq (.seq (.region [.one ⟨some 11, .move (.t 0)⟩,
 .one ⟨some 12, .len (.t 11)⟩,
 .one ⟨some 13, .move (.c (.int .i64 0))⟩])
 (.block 0 eval_Values_l0))
 (.seq (.region [.one ⟨some 39, .move (.t 5)⟩,
 .one ⟨some 4, .move (.t 39)⟩])
 .ret)))) }
/-- gradus/gradusref1.Asked: number 96 -/
def ref1_Asked : AFunc := { params := [.any], results := [.tmp 2], body :=
 (.seq (.region [.one ⟨some 2, .move (.c (.bool false))⟩])
 (.seq (.region [.one ⟨some 3, .move (.t 0)⟩,
 .one ⟨some 4, .call false .any 66 [.t 3, .c (.int .i64 1), .c (.int .i64 3)]⟩,
 .one ⟨some 5, .move (.t 4)⟩,
 .grd 5 false [⟨some 6, .move (.t 0)⟩, ⟨some 7, .call false .any 66 [.t 6, .c (.int .i64 11), .c (.int .i64 13)]⟩],
 .one ⟨some 8, .pick (.t 5) (.c (.bool true)) (.t 7)⟩,
 .one ⟨some 2, .move (.t 8)⟩])
 .ret)) }
/-- gradus/graph.Asked: number 97 -/
def graph_Asked : AFunc := { params := [.any], results := [.tmp 2], body :=
 (.seq (.region [.one ⟨some 1, .box (.t 0)⟩,
 .one ⟨some 2, .move (.c (.nil))⟩])
 (.seq (.seq (.region [.one ⟨some 3, .fieldAddr 1 (.t 1)⟩,
 .one ⟨some 4, .load 1 false .any (.t 3)⟩,
 .one ⟨some 5, .call false .any 126 [.t 4]⟩])
 (.cond (.t 5) (.seq (.region [.one ⟨some 6, .fieldAddr 3 (.t 1)⟩,
 .one ⟨some 7, .load 1 false .any (.t 6)⟩,
 .one ⟨some 2, .move (.t 7)⟩])
 .ret)
 .skip))
 (.seq (.region [.one ⟨some 2, .move (.c (.nil))⟩])
 .ret))) }
/-- slices.Equal[[]int,int]: number 98 -/
def slices_Equal_int_b0 : ACode :=
 (.seq (.region [.one ⟨some 14, .bin .lss 0 (.t 13) (.t 12)⟩])
 (.seq (.cond (.t 14) .skip
 (.exit 0))
 (.seq (.block 1 (.seq (.region [.one ⟨some 15, .move (.t 13)⟩,
 .one ⟨some 5, .move (.t 15)⟩])
 (.seq (.region [.one ⟨some 16, .move (.t 0)⟩,
 .one ⟨some 17, .move (.t 5)⟩,
 .one ⟨some 18, .indexAddr 1 (.t 16) (.t 17)⟩,
 .one ⟨some 19, .load 1 false .any (.t 18)⟩,
 .one ⟨some 20, .move (.t 1)⟩,
 .one ⟨some 21, .move (.t 5)⟩,
 .one ⟨some 22, .indexAddr 1 (.t 20) (.t 21)⟩,
 .one ⟨some 23, .load 1 false .any (.t 22)⟩,
 .one ⟨some 24, .bin .neq 0 (.t 19) (.t 23)⟩])
 (.cond (.t 24) (.seq (.region [.one ⟨some 4, .move (.c (.bool false))⟩])
 .ret)
 .skip))))
 (.region [.one ⟨some 25, .bin .add 0 (.t 13) (.c (.int .i64 1))⟩,
 .one ⟨some 13, .move (.t 25)⟩]))))
def slices_Equal_int_l0 : ACode :=
 (.loop [(0, .any), (1, .any), (12, .any), (13, .any)] [(0, [])] [(4, .any)] slices_Equal_int_b0)
def slices_Equal_int : AFunc := { params := [.any, .any], results := [.tmp 4], body :=
 (.seq (.region [.one ⟨some 4, .move (.c (.bool false))⟩])
 (.seq (.seq (.region [.one ⟨some 6, .move (.t 0)⟩,
 .one ⟨some 7, .len (.t 6)⟩,
 .one ⟨some 8, .move (.t 1)⟩,
 .one ⟨some 9, .len (.t 8)⟩,
 .one ⟨some 10, .bin .neq 0 (.t 7) (.t 9)⟩])
 (.cond (.t 10) (.seq (.region [.one ⟨some 4, .move (.c (.bool false))⟩])
 .ret)
 .skip))
 (.seq (.seq (.region [.one ⟨some 11, .move (.t 0)⟩,
 .one ⟨some 12, .len (.t 11)⟩,
 .one ⟨some 13, .move (.c (.int .i64 0))⟩])
 (.block 0 slices_Equal_int_l0))
 (.seq (.region [.one ⟨some 4, .move (.c (.bool true))⟩])
 .ret)))) }
/-- gradus/kernel.Dims: number 99 -/
def kernel_Dims : AFunc := { params := [.any, .any, .any, .any], results := [.tmp 8, .tmp 9], body :=
 (.seq (.region [.one ⟨some 8, .move (.c (.nil))⟩,
 .one ⟨some 9, .move (.c (.int .i64 0))⟩])
 (.seq (.seq (.region [.one ⟨some 11, .move (.t 0)⟩,
 .one ⟨some 12, .move (.t 1)⟩,
 .one ⟨some 13, .move (.t 2)⟩,
 .one ⟨some 14, .move (.t 3)⟩,
 .one ⟨some 15, .call false .any 127 [.t 11, .t 12, .t 13, .t 14]⟩,
 .one ⟨some 16, .un .not (.t 15)⟩])
 (.cond (.t 16) (.seq (.region [.one ⟨some 8, .move (.c (.nil))⟩,
 .one ⟨some 9, .move (.c (.int .i64 1))⟩])
 .ret)
 .skip))
 (.seq (.region [.one ⟨some 17, .move (.t 0)⟩,
 .one ⟨some 18, .move (.t 1)⟩,
 .one ⟨some 19, .move (.t 2)⟩,
 .one ⟨some 20, .move (.t 3)⟩,
 .one ⟨some 21, .call false .any 128 [.t 17, .t 18, .t 19, .t 20]⟩,
 .one ⟨some 10, .move (.t 21)⟩])
 (.seq (.seq (.region [.one ⟨some 22, .move (.t 10)⟩,
 .one ⟨some 23, .len (.t 22)⟩,
 .one ⟨some 24, .bin .eql 0 (.t 23) (.c (.int .i64 0))⟩])
 (.cond (.t 24) (.seq (.region [.one ⟨some 8, .move (.c (.nil))⟩,
 .one ⟨some 9, .move (.c (.int .i64 4))⟩])
 .ret)
 .skip))
 (.seq (.region [.one ⟨some 25, .move (.t 10)⟩,
 .one ⟨some 8, .move (.t 25)⟩,
 .one ⟨some 9, .move (.c (.int .i64 0))⟩])
 .ret))))) }
/-- gradus/gradusref1.Many: number 100 -/
def ref1_Many : AFunc := { params := [.any], results := [.tmp 2], body :=
 (.seq (.region [.one ⟨some 2, .move (.c (.int .i64 0))⟩])
 (.seq (.seq (.region [.one ⟨some 3, .move (.t 0)⟩])
 (.block 0 (.seq (.seq (.region [.one ⟨some 5, .bin .eql 0 (.t 3) (.c (.int .i64 1))⟩,
 .one ⟨some 4, .move (.t 5)⟩])
 (.cond (.t 4) .skip
 (.seq (.region [.one ⟨some 6, .bin .eql 0 (.t 3) (.c (.int .i64 2))⟩,
 .one ⟨some 4, .move (.t 6)⟩])
 (.cond (.t 4) .skip
 (.region [.one ⟨some 7, .bin .eql 0 (.t 3) (.c (.int .i64 3))⟩,
 .one ⟨some 4, .move (.t 7)⟩])))))
 (.cond (.t 4) (.seq (.region [.one ⟨some 2, .move (.c (.int .i64 0))⟩])
 .ret)
 (.seq (.seq (.region [.one ⟨some 9, .bin .eql 0 (.t 3) (.c (.int .i64 4))⟩,
 .one ⟨some 8, .move (.t 9)⟩])
 (.cond (.t 8) .skip
 (.seq (.region [.one ⟨some 10, .bin .eql 0 (.t 3) (.c (.int .i64 5))⟩,
 .one ⟨some 8, .move (.t 10)⟩])
 (.cond (.t 8) .skip
 (.seq (.region [.one ⟨some 11, .bin .eql 0 (.t 3) (.c (.int .i64 6))⟩,
 .one ⟨some 8, .move (.t 11)⟩])
 (.cond (.t 8) .skip
 (.seq (.region [.one ⟨some 12, .bin .eql 0 (.t 3) (.c (.int .i64 9))⟩,
 .one ⟨some 8, .move (.t 12)⟩])
 (.cond (.t 8) .skip
 (.seq (.region [.one ⟨some 13, .bin .eql 0 (.t 3) (.c (.int .i64 16))⟩,
 .one ⟨some 8, .move (.t 13)⟩])
 (.cond (.t 8) .skip
 (.region [.one ⟨some 14, .bin .eql 0 (.t 3) (.c (.int .i64 17))⟩,
 .one ⟨some 8, .move (.t 14)⟩])))))))))))
 (.cond (.t 8) (.seq (.region [.one ⟨some 2, .move (.c (.int .i64 2))⟩])
 .ret)
 .skip))))))
 (.seq (.seq (.region [.one ⟨some 15, .move (.t 0)⟩,
 .one ⟨some 16, .call false .any 66 [.t 15, .c (.int .i64 7), .c (.int .i64 15)]⟩])
 (.cond (.t 16) (.seq (.region [.one ⟨some 2, .move (.c (.int .i64 1))⟩])
 .ret)
 .skip))
 (.seq (.region [.one ⟨some 2, .move (.c (.int .i64 (-1)))⟩])
 .ret)))) }
/-- gradus/gradusref1.Wider: number 101 -/
def ref1_Wider_b0 : ACode :=
 (.seq (.seq (.region [.one ⟨some 11, .move (.t 5)⟩,
 .one ⟨some 12, .move (.t 0)⟩,
 .one ⟨some 13, .len (.t 12)⟩,
 .one ⟨some 14, .bin .lss 0 (.t 11) (.t 13)⟩])
 (.cond (.t 14) .skip
 (.exit 0)))
 (.seq (.block 1 (.seq (.region [.one ⟨some 17, .move (.t 0)⟩,
 .one ⟨some 18, .move (.t 5)⟩,
 .one ⟨some 19, .indexAddr 1 (.t 17) (.t 18)⟩,
 .one ⟨some 20, .load 1 false .any (.t 19)⟩,
 .one ⟨some 21, .move (.t 1)⟩,
 .one ⟨some 22, .move (.t 5)⟩,
 .one ⟨some 23, .indexAddr 1 (.t 21) (.t 22)⟩,
 .one ⟨some 24, .load 1 false .any (.t 23)⟩,
 .one ⟨some 25, .bin .neq 0 (.t 20) (.t 24)⟩,
 .one ⟨some 26, .move (.t 25)⟩,
 .grd 26 true [⟨some 27, .move (.t 0)⟩, ⟨some 28, .move (.t 5)⟩, ⟨some 29, .indexAddr 1 (.t 27) (.t 28)⟩, ⟨some 30, .load 1 false .any (.t 29)⟩, ⟨some 31, .bin .neq 0 (.t 30) (.c (.int .i64 1))⟩],
 .one ⟨some 32, .pick (.t 26) (.t 31) (.c (.bool false))⟩])
 (.cond (.t 32) (.seq (.region [.one ⟨some 4, .move (.c (.bool false))⟩])
 .ret)
 .skip)))
 (.region [.one ⟨some 15, .move (.t 5)⟩,
 .one ⟨some 16, .bin .add 0 (.t 15) (.c (.int .i64 1))⟩,
 .one ⟨some 5, .move (.t 16)⟩])))
def ref1_Wider_l0 : ACode :=
 (.loop [(0, .any), (1, .any), (5, .any)] [(0, [])] [(4, .any)] ref1_Wider_b0)
def ref1_Wider : AFunc := { params := [.any, .any], results := [.tmp 4], body :=
 (.seq (.region [.one ⟨some 4, .move (.c (.bool false))⟩])
 (.seq (.seq (.region [.one ⟨some 6, .move (.t 0)⟩,
 .one ⟨some 7, .len (.t 6)⟩,
 .one ⟨some 8, .move (.t 1)⟩,
 .one ⟨some 9, .len (.t 8)⟩,
 .one ⟨some 10, .bin .neq 0 (.t 7) (.t 9)⟩])
 (.cond (.t 10) (.seq (.region [.one ⟨some 4, .move (.c (.bool false))⟩])
 .ret)
 .skip))
 (.seq (.seq (.region [.one ⟨some 5, .move (.c (.int .i64 0))⟩])
 (.block 0 ref1_Wider_l0))
 (.seq (.region [.one ⟨some 4, .move (.c (.bool true))⟩])
 .ret)))) }
/-- gradus/gradusref1.less: number 102 -/
def ref1_less : AFunc := { params := [.any, .any], results := [.tmp 4], body :=
 (.seq (.region [.one ⟨some 4, .move (.c (.nil))⟩])
 (.seq (.region [.one ⟨some 6, .move (.t 0)⟩,
 .one ⟨some 7, .call false .any 25 [.t 6]⟩,
 .one ⟨some 5, .move (.t 7)⟩])
 (.seq (.region [.one ⟨some 8, .move (.t 5)⟩,
 .one ⟨some 9, .move (.t 5)⟩,
 .one ⟨some 10, .len (.t 9)⟩,
 .one ⟨some 11, .bin .sub 0 (.t 10) (.c (.int .i64 1))⟩,
 .one ⟨some 12, .move (.t 5)⟩,
 .one ⟨some 13, .move (.t 5)⟩,
 .one ⟨some 14, .len (.t 13)⟩,
 .one ⟨some 15, .bin .sub 0 (.t 14) (.c (.int .i64 1))⟩,
 .one ⟨some 16, .indexAddr 1 (.t 12) (.t 15)⟩,
 .one ⟨some 17, .load 1 false .any (.t 16)⟩,
 .one ⟨some 18, .move (.t 1)⟩,
 .one ⟨some 19, .bin .quo 0 (.t 17) (.t 18)⟩,
 .one ⟨some 20, .indexAddr 1 (.t 8) (.t 11)⟩,
 .one ⟨none, .store 1 (.t 20) (.t 19)⟩])
 (.seq (.region [.one ⟨some 21, .move (.t 5)⟩,
 .one ⟨some 4, .move (.t 21)⟩])
 .ret)))) }
/-- gradus/graph.names: number 103 -/
def graph_names_b0 : ACode :=
 (.seq (.region [.one ⟨some 10, .bin .lss 0 (.t 9) (.t 8)⟩])
 (.seq (.cond (.t 10) .skip
 (.exit 0))
 (.seq (.block 1 (.seq (.region [.one ⟨some 11, .indexAddr 5 (.t 7) (.t 9)⟩,
 .one ⟨some 12, .load 5 true .any (.t 11)⟩,
 .one ⟨some 5, .alloc [.str (bs []), .int .i64 0, .nil, .nil, .int .i64 0]⟩,
 .one ⟨none, .store 5 (.t 5) (.t 12)⟩])
 (.seq (.seq (.region [.one ⟨some 13, .fieldAddr 0 (.t 5)⟩,
 .one ⟨some 14, .load 1 false .any (.t 13)⟩,
 .one ⟨some 15, .call false .any 129 [.t 14]⟩,
 .one ⟨some 16, .un .not (.t 15)⟩,
 .one ⟨some 17, .move (.t 16)⟩,
 .grd 17 false [⟨some 18, .move (.t 3)⟩, ⟨some 19, .fieldAddr 0 (.t 5)⟩, ⟨some 20, .load 1 false .any (.t 19)⟩, ⟨some 21, .lookup (.bool false) .any (.t 18) (.t 20)⟩],
 .one ⟨some 22, .pick (.t 17) (.c (.bool true)) (.t 21)⟩])
 (.cond (.t 22) (.seq (.region [.one ⟨some 2, .move (.c (.bool false))⟩])
 .ret)
 .skip))
 (.region [.one ⟨some 23, .move (.t 3)⟩,
 .one ⟨some 24, .fieldAddr 0 (.t 5)⟩,
 .one ⟨some 25, .load 1 false .any (.t 24)⟩,
 .one ⟨none, .mapUpdate (.t 23) (.t 25) (.c (.bool true))⟩]))))
 (.region [.one ⟨some 26, .bin .add 0 (.t 9) (.c (.int .i64 1))⟩,
 .one ⟨some 9, .move (.t 26)⟩]))))
def graph_names_l0 : ACode :=
 (.loop [(3, .any), (7, .any), (8, .any), (9, .any)] [(0, [])] [(2, .any)] graph_names_b0)
def graph_names : AFunc := { params := [.any], results := [.tmp 2], body :=
 (.seq (.region [.one ⟨some 2, .move (.c (.bool false))⟩])
 (.seq (.region [.one ⟨some 6, .makeMap⟩,
 .one ⟨some 3, .move (.t 6)⟩])
 (.seq (.seq (.region [.one ⟨some 7, .move (.t 0)⟩,
 .one ⟨some 8, .len (.t 7)⟩,
 .one ⟨some 9, .move (.c (.int .i64 0))⟩])
 (.block 0 graph_names_l0))
 (.seq (.region [.one ⟨some 2, .move (.c (.bool true))⟩])
 .ret)))) }
/-- gradus/graph.Is$1: number 104 -/
def graph_Is_1 : AFunc := { params := [.any], results := [.tmp 2], body :=
 (.seq (.region [.one ⟨some 1, .box (.t 0)⟩,
 .one ⟨some 2, .move (.c (.bool false))⟩])
 (.seq (.region [.one ⟨some 3, .fieldAddr 1 (.t 1)⟩,
 .one ⟨some 4, .load 1 false .any (.t 3)⟩,
 .one ⟨some 5, .bin .gtr 0 (.t 4) (.c (.int .i64 15))⟩,
 .one ⟨some 6, .move (.t 5)⟩,
 .grd 6 false [⟨some 7, .fieldAddr 4 (.t 1)⟩, ⟨some 8, .load 1 false .any (.t 7)⟩, ⟨some 9, .bin .lss 0 (.t 8) (.c (.int .i64 (-1073741824)))⟩],
 .one ⟨some 10, .pick (.t 6) (.c (.bool true)) (.t 9)⟩,
 .one ⟨some 11, .move (.t 10)⟩,
 .grd 11 false [⟨some 12, .fieldAddr 4 (.t 1)⟩, ⟨some 13, .load 1 false .any (.t 12)⟩, ⟨some 14, .bin .gtr 0 (.t 13) (.c (.int .i64 1073741824))⟩],
 .one ⟨some 15, .pick (.t 11) (.c (.bool true)) (.t 14)⟩,
 .one ⟨some 2, .move (.t 15)⟩])
 .ret)) }
/-- slices.ContainsFunc[[]gradus/api.Node,gradus/api.Node]: number 105 -/
def slices_ContainsFunc_Node : AFunc := { params := [.any, .any], results := [.tmp 4], body :=
 (.seq (.region [.one ⟨some 4, .move (.c (.bool false))⟩])
 (.seq (.region [.one ⟨some 5, .move (.t 0)⟩,
 .one ⟨some 6, .move (.t 1)⟩,
 .one ⟨some 7, .call false .any 130 [.t 5, .t 6]⟩,
 .one ⟨some 8, .bin .geq 0 (.t 7) (.c (.int .i64 0))⟩,
 .one ⟨some 4, .move (.t 8)⟩])
 .ret)) }
/-- gradus/shape.Product: number 106 -/
def shape_Product_b0 : ACode :=
 (.seq (.region [.one ⟨some 9, .bin .lss 0 (.t 8) (.t 7)⟩])
 (.seq (.cond (.t 9) .skip
 (.exit 0))
 (.seq (.block 1 (.seq (.region [.one ⟨some 10, .indexAddr 1 (.t 6) (.t 8)⟩,
 .one ⟨some 11, .load 1 false .any (.t 10)⟩,
 .one ⟨some 5, .move (.t 11)⟩])
 (.region [.one ⟨some 12, .move (.t 3)⟩,
 .one ⟨some 13, .move (.t 5)⟩,
 .one ⟨some 14, .bin .mul 0 (.t 12) (.t 13)⟩,
 .one ⟨some 3, .move (.t 14)⟩])))
 (.region [.one ⟨some 15, .bin .add 0 (.t 8) (.c (.int .i64 1))⟩,
 .one ⟨some 8, .move (.t 15)⟩]))))
def shape_Product_l0 : ACode :=
 (.loop [(3, .any), (6, .any), (7, .any), (8, .any)] [(0, [(3, .any)])] [] shape_Product_b0)
def shape_Product : AFunc := { params := [.any], results := [.tmp 2], body :=
 (.seq (.region [.one ⟨some 2, .move (.c (.int .i64 0))⟩])
 (.seq (.region [.one ⟨some 3, .move (.c (.int .i64 1))⟩])
 (.seq (.seq (.region [.one ⟨some 6, .move (.t 0)⟩,
 .one ⟨some 7, .len (.t 6)⟩,
 .one ⟨some 8, .move (.c (.int .i64 0))⟩])
 (.block 0 shape_Product_l0))
 (.seq (.region [.one ⟨some 16, .move (.t 3)⟩,
 .one ⟨some 2, .move (.t 16)⟩])
 .ret)))) }
/-- slices.Index[[]int,int]: number 107 -/
def slices_Index_int_b0 : ACode :=
 (.seq (.region [.one ⟨some 9, .bin .lss 0 (.t 8) (.t 7)⟩])
 (.seq (.cond (.t 9) .skip
 (.exit 0))
 (.seq (.block 1 (.seq (.region [.one ⟨some 10, .move (.t 8)⟩,
 .one ⟨some 5, .move (.t 10)⟩])
 (.seq (.region [.one ⟨some 11, .move (.t 1)⟩,
 .one ⟨some 12, .move (.t 0)⟩,
 .one ⟨some 13, .move (.t 5)⟩,
 .one ⟨some 14, .indexAddr 1 (.t 12) (.t 13)⟩,
 .one ⟨some 15, .load 1 false .any (.t 14)⟩,
 .one ⟨some 16, .bin .eql 0 (.t 11) (.t 15)⟩])
 (.cond (.t 16) (.seq (.region [.one ⟨some 17, .move (.t 5)⟩,
 .one ⟨some 4, .move (.t 17)⟩])
 .ret)
 .skip))))
 (.region [.one ⟨some 18, .bin .add 0 (.t 8) (.c (.int .i64 1))⟩,
 .one ⟨some 8, .move (.t 18)⟩]))))
def slices_Index_int_l0 : ACode :=
 (.loop [(0, .any), (1, .any), (7, .any), (8, .any)] [(0, [])] [(4, .any)] slices_Index_int_b0)
def slices_Index_int : AFunc := { params := [.any, .any], results := [.tmp 4], body :=
 (.seq (.region [.one ⟨some 4, .move (.c (.int .i64 0))⟩])
 (.seq (.seq (.region [.one ⟨some 6, .move (.t 0)⟩,
 .one ⟨some 7, .len (.t 6)⟩,
 .one ⟨some 8, .move (.c (.int .i64 0))⟩])
 (.block 0 slices_Index_int_l0))
 (.seq (.region [.one ⟨some 4, .move (.c (.int .i64 (-1)))⟩])
 .ret))) }
/-- slices.IndexFunc[[]int,int]: number 110 -/
def slices_IndexFunc_int_b0 : ACode :=
 (.seq (.region [.one ⟨some 9, .bin .lss 0 (.t 8) (.t 7)⟩])
 (.seq (.cond (.t 9) .skip
 (.exit 0))
 (.seq (.block 1 (.seq (.region [.one ⟨some 10, .move (.t 8)⟩,
 .one ⟨some 5, .move (.t 10)⟩])
 (.seq (.region [.one ⟨some 11, .move (.t 1)⟩,
 .one ⟨some 12, .move (.t 0)⟩,
 .one ⟨some 13, .move (.t 5)⟩,
 .one ⟨some 14, .indexAddr 1 (.t 12) (.t 13)⟩,
 .one ⟨some 15, .load 1 false .any (.t 14)⟩,
 .one ⟨some 16, .callv false .any (.t 11) [.t 15]⟩])
 (.cond (.t 16) (.seq (.region [.one ⟨some 17, .move (.t 5)⟩,
 .one ⟨some 4, .move (.t 17)⟩])
 .ret)
 .skip))))
 (.region [.one ⟨some 18, .bin .add 0 (.t 8) (.c (.int .i64 1))⟩,
 .one ⟨some 8, .move (.t 18)⟩]))))
def slices_IndexFunc_int_l0 : ACode :=
 (.loop [(0, .any), (1, .any), (7, .any), (8, .any)] [(0, [])] [(4, .any)] slices_IndexFunc_int_b0)
def slices_IndexFunc_int : AFunc := { params := [.any, .any], results := [.tmp 4], body :=
 (.seq (.region [.one ⟨some 4, .move (.c (.int .i64 0))⟩])
 (.seq (.seq (.region [.one ⟨some 6, .move (.t 0)⟩,
 .one ⟨some 7, .len (.t 6)⟩,
 .one ⟨some 8, .move (.c (.int .i64 0))⟩])
 (.block 0 slices_IndexFunc_int_l0))
 (.seq (.region [.one ⟨some 4, .move (.c (.int .i64 (-1)))⟩])
 .ret))) }
/-- slices.Clone[[]int,int]: number 112 -/
def slices_Clone_int : AFunc := { params := [.any], results := [.tmp 2], body :=
 (.seq (.region [.one ⟨some 2, .move (.c (.nil))⟩])
 (.seq (.seq (.region [.one ⟨some 3, .move (.t 0)⟩,
 .one ⟨some 4, .bin .eql 2 (.t 3) (.c (.nil))⟩])
 (.cond (.t 4) (.seq (.region [.one ⟨some 2, .move (.c (.nil))⟩])
 .ret)
 .skip))
 (.seq (.region [.one ⟨some 5, .buildSlice 1 0 [.int .i64 0] []⟩,
 .one ⟨some 6, .move (.t 0)⟩,
 .one ⟨some 7, .append 1 8 (.t 5) (.t 6)⟩,
 .one ⟨some 2, .move (.t 7)⟩])
 .ret))) }
/-- gradus/shape.All: number 118 -/
def shape_All : AFunc := { params := [.any], results := [.tmp 2], body :=
 (.seq (.region [.one ⟨some 2, .move (.c (.bool false))⟩])
 (.seq (.region [.one ⟨some 3, .move (.t 0)⟩,
 .one ⟨some 4, .call false .any 133 [.t 3, .c (.fn 134 [])]⟩,
 .one ⟨some 5, .un .not (.t 4)⟩,
 .one ⟨some 2, .move (.t 5)⟩])
 .ret)) }
/-- gradus/eval.fits: number 119 -/
def eval_fits_b0 : ACode :=
 (.seq (.region [.one ⟨some 18, .bin .lss 0 (.t 17) (.t 16)⟩])
 (.seq (.cond (.t 18) .skip
 (.exit 0))
 (.seq (.block 1 (.seq (.region [.one ⟨some 19, .move (.t 17)⟩,
 .one ⟨some 20, .indexAddr 1 (.t 15) (.t 17)⟩,
 .one ⟨some 21, .load 1 false .any (.t 20)⟩,
 .one ⟨some 6, .move (.t 19)⟩,
 .one ⟨some 7, .move (.t 21)⟩])
 (.seq (.region [.one ⟨some 22, .move (.t 0)⟩,
 .one ⟨some 23, .move (.t 7)⟩,
 .one ⟨some 24, .indexAddr 5 (.t 22) (.t 23)⟩,
 .one ⟨some 25, .fieldAddr 3 (.t 24)⟩,
 .one ⟨some 26, .load 1 false .any (.t 25)⟩,
 .one ⟨some 27, .move (.t 1)⟩,
 .one ⟨some 28, .move (.t 6)⟩,
 .one ⟨some 29, .indexAddr 2 (.t 27) (.t 28)⟩,
 .one ⟨some 30, .fieldAddr 0 (.t 29)⟩,
 .one ⟨some 31, .load 1 false .any (.t 30)⟩,
 .one ⟨some 32, .call true .any 98 [.t 26, .t 31]⟩,
 .one ⟨some 33, .un .not (.t 32)⟩])
 (.cond (.t 33) (.seq (.region [.one ⟨some 4, .move (.c (.bool false))⟩])
 .ret)
 .skip))))
 (.region [.one ⟨some 34, .bin .add 0 (.t 17) (.c (.int .i64 1))⟩,
 .one ⟨some 17, .move (.t 34)⟩]))))
def eval_fits_l0 : ACode :=
 (.loop [(0, .any), (1, .any), (15, .any), (16, .any), (17, .any)] [(0, [])] [(4, .any)] eval_fits_b0)
def eval_fits : AFunc := { params := [.any, .any], results := [.tmp 4], body :=
 (.seq (.region [.one ⟨some 4, .move (.c (.bool false))⟩])
 (.seq (.region [.one ⟨some 8, .move (.t 0)⟩,
 .one ⟨some 9, .call false .any 69 [.t 8]⟩,
 .one ⟨some 5, .move (.t 9)⟩])
 (.seq (.seq (.region [.one ⟨some 10, .move (.t 5)⟩,
 .one ⟨some 11, .len (.t 10)⟩,
 .one ⟨some 12, .move (.t 1)⟩,
 .one ⟨some 13, .len (.t 12)⟩,
 .one ⟨some 14, .bin .neq 0 (.t 11) (.t 13)⟩])
 (.cond (.t 14) (.seq (.region [.one ⟨some 4, .move (.c (.bool false))⟩])
 .ret)
 .skip))
 (.seq (.seq (.region [.one ⟨some 15, .move (.t 5)⟩,
 .one ⟨some 16, .len (.t 15)⟩,
 .one ⟨some 17, .move (.c (.int .i64 0))⟩])
 (.block 0 eval_fits_l0))
 (.seq (.region [.one ⟨some 4, .move (.c (.bool true))⟩])
 .ret))))) }
/-- gradus/eval.Given: number 120 -/
def eval_Given_b0 : ACode :=
 (.seq (.region [.one ⟨some 15, .bin .lss 0 (.t 14) (.t 13)⟩])
 (.seq (.cond (.t 15) .skip
 (.exit 0))
 (.seq (.block 1 (.seq (.region [.one ⟨some 16, .move (.t 14)⟩,
 .one ⟨some 17, .indexAddr 1 (.t 12) (.t 14)⟩,
 .one ⟨some 18, .load 1 false .any (.t 17)⟩,
 .one ⟨some 6, .move (.t 16)⟩,
 .one ⟨some 7, .move (.t 18)⟩])
 (.region [.one ⟨some 19, .move (.t 5)⟩,
 .one ⟨some 20, .move (.t 7)⟩,
 .one ⟨some 21, .move (.t 1)⟩,
 .one ⟨some 22, .move (.t 6)⟩,
 .one ⟨some 23, .indexAddr 2 (.t 21) (.t 22)⟩,
 .one ⟨some 24, .load 2 true .any (.t 23)⟩,
 .one ⟨some 25, .call false .any 135 [.t 24]⟩,
 .one ⟨some 26, .indexAddr 2 (.t 19) (.t 20)⟩,
 .one ⟨none, .store 2 (.t 26) (.t 25)⟩])))
 (.region [.one ⟨some 27, .bin .add 0 (.t 14) (.c (.int .i64 1))⟩,
 .one ⟨some 14, .move (.t 27)⟩]))))
def eval_Given_l0 : ACode :=
 (.loop [(1, .any), (5, .any), (12, .any), (13, .any), (14, .any)] [(0, [(5, .any)])] [] eval_Given_b0)
def eval_Given : AFunc := { params := [.any, .any], results := [.tmp 4], body :=
 (.seq (.region [.one ⟨some 4, .move (.c (.nil))⟩])
 (.seq (.region [.one ⟨some 8, .move (.t 0)⟩,
 .one ⟨some 9, .len (.t 8)⟩,
 .one ⟨some 10, .makeSlice 2 48 [.nil, .nil] (.t 9)⟩,
 .one ⟨some 5, .move (.t 10)⟩])
 (.seq (.seq (.region [.one ⟨some 11, .move (.t 0)⟩,
 .one ⟨some 12, .call false .any 69 [.t 11]⟩,
 .one ⟨some 13, .len (.t 12)⟩,
 .one ⟨some 14, .move (.c (.int .i64 0))⟩])
 (.block 0 eval_Given_l0))
 (.seq (.region [.one ⟨some 28, .move (.t 5)⟩,
 .one ⟨some 4, .move (.t 28)⟩])
 .ret)))) }
/-- gradus/eval.Leaf: number 121 -/
def eval_Leaf : AFunc := { params := [.any], results := [.tmp 2], body :=
 (.seq (.region [.one ⟨some 2, .move (.c (.bool false))⟩])
 (.seq (.region [.one ⟨some 3, .move (.t 0)⟩,
 .one ⟨some 4, .bin .eql 0 (.t 3) (.c (.int .i64 1))⟩,
 .one ⟨some 5, .move (.t 4)⟩,
 .grd 5 false [⟨some 6, .move (.t 0)⟩, ⟨some 7, .bin .eql 0 (.t 6) (.c (.int .i64 2))⟩],
 .one ⟨some 8, .pick (.t 5) (.c (.bool true)) (.t 7)⟩,
 .one ⟨some 2, .move (.t 8)⟩])
 .ret)) }
/-- gradus/eval.Of: number 122 -/
def eval_Of_b0 : ACode :=
 (.seq (.region [.one ⟨some 11, .bin .lss 0 (.t 10) (.t 9)⟩])
 (.seq (.cond (.t 11) .skip
 (.exit 0))
 (.seq (.block 1 (.seq (.region [.one ⟨some 12, .indexAddr 1 (.t 8) (.t 10)⟩,
 .one ⟨some 13, .load 1 false .any (.t 12)⟩,
 .one ⟨some 6, .move (.t 13)⟩])
 (.region [.one ⟨some 14, .move (.t 4)⟩,
 .one ⟨some 15, .move (.t 0)⟩,
 .one ⟨some 16, .move (.t 6)⟩,
 .one ⟨some 17, .indexAddr 2 (.t 15) (.t 16)⟩,
 .one ⟨some 18, .load 2 true .any (.t 17)⟩,
 .one ⟨some 19, .buildSlice 2 1 [.nil, .nil] [(0, .t 18)]⟩,
 .one ⟨some 20, .append 2 48 (.t 14) (.t 19)⟩,
 .one ⟨some 4, .move (.t 20)⟩])))
 (.region [.one ⟨some 21, .bin .add 0 (.t 10) (.c (.int .i64 1))⟩,
 .one ⟨some 10, .move (.t 21)⟩]))))
def eval_Of_l0 : ACode :=
 (.loop [(0, .any), (4, .any), (8, .any), (9, .any), (10, .any)] [(0, [(4, .any)])] [] eval_Of_b0)
def eval_Of : AFunc := { params := [.any, .any], results := [.tmp 4], body :=
 (.seq (.region [.one ⟨some 3, .box (.t 1)⟩,
 .one ⟨some 4, .move (.c (.nil))⟩])
 (.seq (.seq (.region [.one ⟨some 7, .fieldAddr 2 (.t 3)⟩,
 .one ⟨some 8, .load 1 false .any (.t 7)⟩,
 .one ⟨some 9, .len (.t 8)⟩,
 .one ⟨some 10, .move (.c (.int .i64 0))⟩])
 (.block 0 eval_Of_l0))
 (.seq (.region [.one ⟨some 22, .move (.t 4)⟩,
 .one ⟨some 4, .move (.t 22)⟩])
 .ret))) }
/-- gradus/kernel.Do: number 123 -/
def kernel_Do_b0 : ACode :=
 (.seq (.region [.one ⟨some 16, .bin .lss 0 (.t 15) (.t 14)⟩])
 (.seq (.cond (.t 16) .skip
 (.exit 0))
 (.seq (.block 1 (.seq (.region [.one ⟨some 17, .indexAddr 2 (.t 13) (.t 15)⟩,
 .one ⟨some 18, .load 2 true .any (.t 17)⟩,
 .one ⟨some 12, .alloc [.nil, .nil]⟩,
 .one ⟨none, .store 2 (.t 12) (.t 18)⟩])
 (.region [.one ⟨some 19, .move (.t 10)⟩,
 .one ⟨some 20, .fieldAddr 0 (.t 12)⟩,
 .one ⟨some 21, .load 1 false .any (.t 20)⟩,
 .one ⟨some 22, .buildSlice 1 1 [.nil] [(0, .t 21)]⟩,
 .one ⟨some 23, .append 1 24 (.t 19) (.t 22)⟩,
 .one ⟨some 10, .move (.t 23)⟩])))
 (.region [.one ⟨some 24, .bin .add 0 (.t 15) (.c (.int .i64 1))⟩,
 .one ⟨some 15, .move (.t 24)⟩]))))
def kernel_Do_l0 : ACode :=
 (.loop [(0, .any), (1, .any), (2, .any), (3, .any), (8, .any), (10, .any), (13, .any), (14, .any), (15, .any)] [(0, [(0, .any), (1, .any), (2, .any), (3, .any), (8, .any), (10, .any)])] [] kernel_Do_b0)
def kernel_Do : AFunc := { params := [.any, .any, .any, .any], results := [.cell 8 2 true, .tmp 9], body :=
 (.seq (.region [.one ⟨some 8, .alloc [.nil, .nil]⟩,
 .one ⟨some 9, .move (.c (.int .i64 0))⟩])
 (.seq (.region [.one ⟨some 10, .move (.c (.nil))⟩])
 (.seq (.seq (.region [.one ⟨some 13, .move (.t 3)⟩,
 .one ⟨some 14, .len (.t 13)⟩,
 .one ⟨some 15, .move (.c (.int .i64 0))⟩])
 (.block 0 kernel_Do_l0))
 (.seq (.seq (.region [.one ⟨some 25, .move (.t 0)⟩,
 .one ⟨some 26, .bin .eql 0 (.t 25) (.c (.int .i64 1))⟩,
 .one ⟨some 27, .move (.t 26)⟩,
 .grd 27 false [⟨some 28, .move (.t 0)⟩, ⟨some 29, .bin .eql 0 (.t 28) (.c (.int .i64 2))⟩],
 .one ⟨some 30, .pick (.t 27) (.c (.bool true)) (.t 29)⟩,
 .one ⟨some 31, .move (.t 30)⟩,
 .grd 31 false [⟨some 32, .move (.t 3)⟩, ⟨some 33, .call false .any 118 [.t 32]⟩, ⟨some 34, .un .not (.t 33)⟩],
 .one ⟨some 35, .pick (.t 31) (.c (.bool true)) (.t 34)⟩,
 .one ⟨some 36, .move (.t 35)⟩,
 .grd 36 false [⟨some 37, .move (.t 0)⟩, ⟨some 38, .move (.t 1)⟩, ⟨some 39, .move (.t 2)⟩, ⟨some 40, .move (.t 10)⟩, ⟨some 41, .call false .any 127 [.t 37, .t 38, .t 39, .t 40]⟩, ⟨some 42, .un .not (.t 41)⟩],
 .one ⟨some 43, .pick (.t 36) (.c (.bool true)) (.t 42)⟩])
 (.cond (.t 43) (.seq (.region [.one ⟨some 44, .build [.nil, .nil] []⟩,
 .one ⟨none, .store 2 (.t 8) (.t 44)⟩,
 .one ⟨some 9, .move (.c (.int .i64 1))⟩])
 .ret)
 .skip))
 (.seq (.seq (.region [.one ⟨some 45, .move (.t 0)⟩,
 .one ⟨some 46, .bin .eql 0 (.t 45) (.c (.int .i64 3))⟩])
 (.cond (.t 46) (.seq (.region [.one ⟨some 47, .move (.t 2)⟩,
 .one ⟨some 48, .move (.t 1)⟩,
 .one ⟨some 49, .call false .any 136 [.t 47, .t 48]⟩,
 .one ⟨some 50, .extract (.t 49) 0⟩,
 .one ⟨some 51, .extract (.t 49) 1⟩,
 .one ⟨none, .store 2 (.t 8) (.t 50)⟩,
 .one ⟨some 9, .move (.t 51)⟩])
 .ret)
 .skip))
 (.seq (.seq (.region [.one ⟨some 52, .move (.t 3)⟩,
 .one ⟨some 53, .len (.t 52)⟩,
 .one ⟨some 54, .bin .eql 0 (.t 53) (.c (.int .i64 2))⟩])
 (.cond (.t 54) (.seq (.region [.one ⟨some 55, .move (.t 0)⟩,
 .one ⟨some 56, .move (.t 1)⟩,
 .one ⟨some 57, .move (.t 3)⟩,
 .one ⟨some 58, .indexAddr 2 (.t 57) (.c (.int .i64 0))⟩,
 .one ⟨some 59, .load 2 true .any (.t 58)⟩,
 .one ⟨some 60, .move (.t 3)⟩,
 .one ⟨some 61, .indexAddr 2 (.t 60) (.c (.int .i64 1))⟩,
 .one ⟨some 62, .load 2 true .any (.t 61)⟩,
 .one ⟨some 63, .call true .any 137 [.t 55, .t 56, .t 59, .t 62]⟩,
 .one ⟨some 64, .extract (.t 63) 0⟩,
 .one ⟨some 65, .extract (.t 63) 1⟩,
 .one ⟨none, .store 2 (.t 8) (.t 64)⟩,
 .one ⟨some 9, .move (.t 65)⟩])
 .ret)
 .skip))
 (.seq (.region [.one ⟨some 66, .move (.t 0)⟩,
 .one ⟨some 67, .move (.t 1)⟩,
 .one ⟨some 68, .move (.t 2)⟩,
 .one ⟨some 69, .move (.t 3)⟩,
 .one ⟨some 70, .indexAddr 2 (.t 69) (.c (.int .i64 0))⟩,
 .one ⟨some 71, .load 2 true .any (.t 70)⟩,
 .one ⟨some 72, .call false .any 138 [.t 66, .t 67, .t 68, .t 71]⟩,
 .one ⟨some 73, .extract (.t 72) 0⟩,
 .one ⟨some 74, .extract (.t 72) 1⟩,
 .one ⟨none, .store 2 (.t 8) (.t 73)⟩,
 .one ⟨some 9, .move (.t 74)⟩])
 .ret))))))) }
/-- gradus/kernel.Named: number 126 -/
def kernel_Named : AFunc := { params := [.any], results := [.tmp 2], body :=
 (.seq (.region [.one ⟨some 2, .move (.c (.bool false))⟩])
 (.seq (.region [.one ⟨some 3, .move (.t 0)⟩,
 .one ⟨some 4, .bin .geq 0 (.t 3) (.c (.int .i64 1))⟩,
 .one ⟨some 5, .move (.t 4)⟩,
 .grd 5 true [⟨some 6, .move (.t 0)⟩, ⟨some 7, .bin .leq 0 (.t 6) (.c (.int .i64 3))⟩],
 .one ⟨some 8, .pick (.t 5) (.t 7) (.c (.bool false))⟩,
 .one ⟨some 9, .move (.t 8)⟩,
 .grd 9 false [⟨some 10, .move (.t 0)⟩, ⟨some 11, .bin .geq 0 (.t 10) (.c (.int .i64 11))⟩, ⟨some 12, .move (.t 11)⟩],
 .grd 12 true [⟨some 13, .move (.t 0)⟩, ⟨some 14, .bin .leq 0 (.t 13) (.c (.int .i64 13))⟩],
 .grd 9 false [⟨some 15, .pick (.t 12) (.t 14) (.c (.bool false))⟩],
 .one ⟨some 16, .pick (.t 9) (.c (.bool true)) (.t 15)⟩,
 .one ⟨some 2, .move (.t 16)⟩])
 .ret)) }
/-- gradus/kernel.form: number 127 -/
def kernel_form : AFunc := { params := [.any, .any, .any, .any], results := [.tmp 8], body :=
 (.seq (.region [.one ⟨some 8, .move (.c (.bool false))⟩])
 (.seq (.region [.one ⟨some 9, .move (.c (.fn 141 []))⟩])
 (.seq (.seq (.region [.one ⟨some 10, .move (.t 0)⟩,
 .one ⟨some 11, .bin .lss 0 (.t 10) (.c (.int .i64 1))⟩,
 .one ⟨some 12, .move (.t 11)⟩,
 .grd 12 false [⟨some 13, .move (.t 0)⟩, ⟨some 14, .bin .gtr 0 (.t 13) (.c (.int .i64 17))⟩],
 .one ⟨some 15, .pick (.t 12) (.c (.bool true)) (.t 14)⟩,
 .one ⟨some 16, .move (.t 15)⟩,
 .grd 16 false [⟨some 17, .move (.t 3)⟩, ⟨some 18, .len (.t 17)⟩, ⟨some 19, .move (.t 0)⟩, ⟨some 20, .call false .any 142 [.t 19]⟩, ⟨some 21, .bin .neq 0 (.t 18) (.t 20)⟩],
 .one ⟨some 22, .pick (.t 16) (.c (.bool true)) (.t 21)⟩,
 .one ⟨some 23, .move (.t 22)⟩,
 .grd 23 false [⟨some 24, .move (.t 3)⟩, ⟨some 25, .move (.t 9)⟩, ⟨some 26, .call false .any 143 [.t 24, .t 25]⟩],
 .one ⟨some 27, .pick (.t 23) (.c (.bool true)) (.t 26)⟩,
 .one ⟨some 28, .move (.t 27)⟩,
 .grd 28 false [⟨some 29, .move (.t 0)⟩, ⟨some 30, .move (.t 1)⟩, ⟨some 31, .call false .any 144 [.t 29, .t 30]⟩, ⟨some 32, .un .not (.t 31)⟩],
 .one ⟨some 33, .pick (.t 28) (.c (.bool true)) (.t 32)⟩])
 (.cond (.t 33) (.seq (.region [.one ⟨some 8, .move (.c (.bool false))⟩])
 .ret)
 .skip))
 (.seq (.seq (.region [.one ⟨some 34, .move (.t 0)⟩,
 .one ⟨some 35, .call false .any 126 [.t 34]⟩])
 (.cond (.t 35) (.seq (.region [.one ⟨some 36, .move (.t 2)⟩,
 .one ⟨some 37, .call false .any 145 [.t 36]⟩,
 .one ⟨some 8, .move (.t 37)⟩])
 .ret)
 .skip))
 (.seq (.region [.one ⟨some 38, .move (.t 2)⟩,
 .one ⟨some 39, .len (.t 38)⟩,
 .one ⟨some 40, .bin .eql 0 (.t 39) (.c (.int .i64 0))⟩,
 .one ⟨some 8, .move (.t 40)⟩])
 .ret))))) }
/-- gradus/kernel.dims: number 128 -/
def kernel_dims : AFunc := { params := [.any, .any, .any, .any], results := [.tmp 8], body :=
 (.seq (.region [.one ⟨some 8, .move (.c (.nil))⟩])
 (.seq (.region [.one ⟨some 9, .move (.c (.bool true))⟩])
 (.seq (.seq (.region [.one ⟨some 10, .move (.t 0)⟩])
 (.block 0 (.seq (.seq (.region [.one ⟨some 15, .bin .eql 0 (.t 10) (.c (.int .i64 1))⟩,
 .one ⟨some 14, .move (.t 15)⟩])
 (.cond (.t 14) .skip
 (.seq (.region [.one ⟨some 16, .bin .eql 0 (.t 10) (.c (.int .i64 2))⟩,
 .one ⟨some 14, .move (.t 16)⟩])
 (.cond (.t 14) .skip
 (.region [.one ⟨some 17, .bin .eql 0 (.t 10) (.c (.int .i64 3))⟩,
 .one ⟨some 14, .move (.t 17)⟩])))))
 (.cond (.t 14) .skip
 (.seq (.seq (.region [.one ⟨some 19, .bin .eql 0 (.t 10) (.c (.int .i64 4))⟩,
 .one ⟨some 18, .move (.t 19)⟩])
 (.cond (.t 18) .skip
 (.seq (.region [.one ⟨some 20, .bin .eql 0 (.t 10) (.c (.int .i64 5))⟩,
 .one ⟨some 18, .move (.t 20)⟩])
 (.cond (.t 18) .skip
 (.seq (.region [.one ⟨some 21, .bin .eql 0 (.t 10) (.c (.int .i64 6))⟩,
 .one ⟨some 18, .move (.t 21)⟩])
 (.cond (.t 18) .skip
 (.region [.one ⟨some 22, .bin .eql 0 (.t 10) (.c (.int .i64 16))⟩,
 .one ⟨some 18, .move (.t 22)⟩])))))))
 (.cond (.t 18) (.region [.one ⟨some 23, .move (.t 3)⟩,
 .one ⟨some 24, .indexAddr 1 (.t 23) (.c (.int .i64 0))⟩,
 .one ⟨some 25, .load 1 false .any (.t 24)⟩,
 .one ⟨some 26, .move (.t 3)⟩,
 .one ⟨some 27, .indexAddr 1 (.t 26) (.c (.int .i64 0))⟩,
 .one ⟨some 28, .load 1 false .any (.t 27)⟩,
 .one ⟨some 29, .move (.t 3)⟩,
 .one ⟨some 30, .indexAddr 1 (.t 29) (.c (.int .i64 1))⟩,
 .one ⟨some 31, .load 1 false .any (.t 30)⟩,
 .one ⟨some 32, .call true .any 98 [.t 28, .t 31]⟩,
 .one ⟨some 2, .move (.t 25)⟩,
 .one ⟨some 9, .move (.t 32)⟩])
 (.seq (.region [.one ⟨some 34, .bin .eql 0 (.t 10) (.c (.int .i64 9))⟩,
 .one ⟨some 33, .move (.t 34)⟩])
 (.cond (.t 33) (.seq (.region [.one ⟨some 35, .move (.t 3)⟩,
 .one ⟨some 36, .indexAddr 1 (.t 35) (.c (.int .i64 0))⟩,
 .one ⟨some 37, .load 1 false .any (.t 36)⟩,
 .one ⟨some 38, .len (.t 37)⟩,
 .one ⟨some 39, .bin .eql 0 (.t 38) (.c (.int .i64 2))⟩,
 .one ⟨some 40, .move (.t 39)⟩,
 .grd 40 true [⟨some 41, .move (.t 3)⟩, ⟨some 42, .indexAddr 1 (.t 41) (.c (.int .i64 1))⟩, ⟨some 43, .load 1 false .any (.t 42)⟩, ⟨some 44, .len (.t 43)⟩, ⟨some 45, .bin .eql 0 (.t 44) (.c (.int .i64 2))⟩],
 .one ⟨some 46, .pick (.t 40) (.t 45) (.c (.bool false))⟩,
 .one ⟨some 47, .move (.t 46)⟩,
 .grd 47 true [⟨some 48, .move (.t 3)⟩, ⟨some 49, .indexAddr 1 (.t 48) (.c (.int .i64 0))⟩, ⟨some 50, .load 1 false .any (.t 49)⟩, ⟨some 51, .indexAddr 1 (.t 50) (.c (.int .i64 1))⟩, ⟨some 52, .load 1 false .any (.t 51)⟩, ⟨some 53, .move (.t 3)⟩, ⟨some 54, .indexAddr 1 (.t 53) (.c (.int .i64 1))⟩, ⟨some 55, .load 1 false .any (.t 54)⟩, ⟨some 56, .indexAddr 1 (.t 55) (.c (.int .i64 0))⟩, ⟨some 57, .load 1 false .any (.t 56)⟩, ⟨some 58, .bin .eql 0 (.t 52) (.t 57)⟩],
 .one ⟨some 59, .pick (.t 47) (.t 58) (.c (.bool false))⟩,
 .one ⟨some 9, .move (.t 59)⟩])
 (.seq (.seq (.region [.one ⟨some 60, .move (.t 9)⟩])
 (.cond (.t 60) (.region [.one ⟨some 61, .move (.t 3)⟩,
 .one ⟨some 62, .indexAddr 1 (.t 61) (.c (.int .i64 0))⟩,
 .one ⟨some 63, .load 1 false .any (.t 62)⟩,
 .one ⟨some 64, .indexAddr 1 (.t 63) (.c (.int .i64 0))⟩,
 .one ⟨some 65, .load 1 false .any (.t 64)⟩,
 .one ⟨some 66, .move (.t 3)⟩,
 .one ⟨some 67, .indexAddr 1 (.t 66) (.c (.int .i64 1))⟩,
 .one ⟨some 68, .load 1 false .any (.t 67)⟩,
 .one ⟨some 69, .indexAddr 1 (.t 68) (.c (.int .i64 1))⟩,
 .one ⟨some 70, .load 1 false .any (.t 69)⟩,
 .one ⟨some 71, .buildSlice 1 2 [.int .i64 0] [(0, .t 65), (1, .t 70)]⟩,
 .one ⟨some 2, .move (.t 71)⟩])
 .skip))
 (.region [.one ⟨some 72, .move (.t 9)⟩,
 .one ⟨some 73, .move (.t 72)⟩,
 .grd 73 true [⟨some 74, .move (.t 2)⟩, ⟨some 75, .call false .any 145 [.t 74]⟩],
 .one ⟨some 76, .pick (.t 73) (.t 75) (.c (.bool false))⟩,
 .one ⟨some 9, .move (.t 76)⟩])))
 (.seq (.region [.one ⟨some 78, .bin .eql 0 (.t 10) (.c (.int .i64 10))⟩,
 .one ⟨some 77, .move (.t 78)⟩])
 (.cond (.t 77) (.seq (.region [.one ⟨some 79, .move (.t 3)⟩,
 .one ⟨some 80, .indexAddr 1 (.t 79) (.c (.int .i64 0))⟩,
 .one ⟨some 81, .load 1 false .any (.t 80)⟩,
 .one ⟨some 82, .len (.t 81)⟩,
 .one ⟨some 83, .bin .eql 0 (.t 82) (.c (.int .i64 2))⟩,
 .one ⟨some 9, .move (.t 83)⟩])
 (.seq (.region [.one ⟨some 84, .move (.t 9)⟩])
 (.cond (.t 84) (.region [.one ⟨some 85, .move (.t 3)⟩,
 .one ⟨some 86, .indexAddr 1 (.t 85) (.c (.int .i64 0))⟩,
 .one ⟨some 87, .load 1 false .any (.t 86)⟩,
 .one ⟨some 88, .indexAddr 1 (.t 87) (.c (.int .i64 1))⟩,
 .one ⟨some 89, .load 1 false .any (.t 88)⟩,
 .one ⟨some 90, .move (.t 3)⟩,
 .one ⟨some 91, .indexAddr 1 (.t 90) (.c (.int .i64 0))⟩,
 .one ⟨some 92, .load 1 false .any (.t 91)⟩,
 .one ⟨some 93, .indexAddr 1 (.t 92) (.c (.int .i64 0))⟩,
 .one ⟨some 94, .load 1 false .any (.t 93)⟩,
 .one ⟨some 95, .buildSlice 1 2 [.int .i64 0] [(0, .t 89), (1, .t 94)]⟩,
 .one ⟨some 2, .move (.t 95)⟩])
 .skip)))
 (.seq (.region [.one ⟨some 97, .bin .eql 0 (.t 10) (.c (.int .i64 11))⟩,
 .one ⟨some 96, .move (.t 97)⟩])
 (.cond (.t 96) (.region [.one ⟨some 98, .move (.t 2)⟩,
 .one ⟨some 99, .call true .any 106 [.t 98]⟩,
 .one ⟨some 100, .move (.t 3)⟩,
 .one ⟨some 101, .indexAddr 1 (.t 100) (.c (.int .i64 0))⟩,
 .one ⟨some 102, .load 1 false .any (.t 101)⟩,
 .one ⟨some 103, .call true .any 106 [.t 102]⟩,
 .one ⟨some 104, .bin .eql 0 (.t 99) (.t 103)⟩,
 .one ⟨some 9, .move (.t 104)⟩])
 (.seq (.region [.one ⟨some 106, .bin .eql 0 (.t 10) (.c (.int .i64 12))⟩,
 .one ⟨some 105, .move (.t 106)⟩])
 (.cond (.t 105) (.region [.one ⟨some 107, .move (.t 3)⟩,
 .one ⟨some 108, .indexAddr 1 (.t 107) (.c (.int .i64 0))⟩,
 .one ⟨some 109, .load 1 false .any (.t 108)⟩,
 .one ⟨some 110, .move (.t 2)⟩,
 .one ⟨some 111, .call false .any 146 [.t 109, .t 110]⟩,
 .one ⟨some 9, .move (.t 111)⟩])
 (.seq (.region [.one ⟨some 113, .bin .eql 0 (.t 10) (.c (.int .i64 13))⟩,
 .one ⟨some 112, .move (.t 113)⟩])
 (.cond (.t 112) (.region [.one ⟨some 114, .move (.t 2)⟩,
 .one ⟨some 115, .move (.t 3)⟩,
 .one ⟨some 116, .indexAddr 1 (.t 115) (.c (.int .i64 0))⟩,
 .one ⟨some 117, .load 1 false .any (.t 116)⟩,
 .one ⟨some 118, .call false .any 146 [.t 114, .t 117]⟩,
 .one ⟨some 9, .move (.t 118)⟩])
 (.seq (.region [.one ⟨some 120, .bin .eql 0 (.t 10) (.c (.int .i64 15))⟩,
 .one ⟨some 119, .move (.t 120)⟩])
 (.cond (.t 119) (.region [.one ⟨some 122, .move (.t 3)⟩,
 .one ⟨some 123, .indexAddr 1 (.t 122) (.c (.int .i64 0))⟩,
 .one ⟨some 124, .load 1 false .any (.t 123)⟩,
 .one ⟨some 125, .move (.t 1)⟩,
 .one ⟨some 126, .call false .any 147 [.t 124, .t 125]⟩,
 .one ⟨some 121, .move (.t 126)⟩,
 .one ⟨some 127, .extract (.t 121) 0⟩,
 .one ⟨some 128, .extract (.t 121) 1⟩,
 .one ⟨some 2, .move (.t 127)⟩,
 .one ⟨some 9, .move (.t 128)⟩])
 (.seq (.region [.one ⟨some 130, .bin .eql 0 (.t 10) (.c (.int .i64 17))⟩,
 .one ⟨some 129, .move (.t 130)⟩])
 (.cond (.t 129) (.seq (.region [.one ⟨some 132, .move (.t 3)⟩,
 .one ⟨some 133, .indexAddr 1 (.t 132) (.c (.int .i64 0))⟩,
 .one ⟨some 134, .load 1 false .any (.t 133)⟩,
 .one ⟨some 135, .move (.t 1)⟩,
 .one ⟨some 136, .call false .any 147 [.t 134, .t 135]⟩,
 .one ⟨some 131, .move (.t 136)⟩,
 .one ⟨some 137, .extract (.t 131) 0⟩,
 .one ⟨some 138, .extract (.t 131) 1⟩,
 .one ⟨some 2, .move (.t 137)⟩,
 .one ⟨some 9, .move (.t 138)⟩])
 (.seq (.region [.one ⟨some 139, .move (.t 9)⟩,
 .one ⟨some 140, .move (.t 139)⟩,
 .grd 140 true [⟨some 141, .move (.t 2)⟩, ⟨some 142, .move (.t 3)⟩, ⟨some 143, .indexAddr 1 (.t 142) (.c (.int .i64 1))⟩, ⟨some 144, .load 1 false .any (.t 143)⟩, ⟨some 145, .call false .any 98 [.t 141, .t 144]⟩],
 .one ⟨some 146, .pick (.t 140) (.t 145) (.c (.bool false))⟩,
 .one ⟨some 9, .move (.t 146)⟩])
 (.region [.one ⟨some 147, .move (.t 3)⟩,
 .one ⟨some 148, .indexAddr 1 (.t 147) (.c (.int .i64 0))⟩,
 .one ⟨some 149, .load 1 false .any (.t 148)⟩,
 .one ⟨some 2, .move (.t 149)⟩])))
 (.region [.one ⟨some 11, .move (.t 3)⟩,
 .one ⟨some 12, .indexAddr 1 (.t 11) (.c (.int .i64 0))⟩,
 .one ⟨some 13, .load 1 false .any (.t 12)⟩,
 .one ⟨some 2, .move (.t 13)⟩])))))))))))))))))))))
 (.seq (.seq (.region [.one ⟨some 150, .move (.t 9)⟩,
 .one ⟨some 151, .un .not (.t 150)⟩])
 (.cond (.t 151) (.seq (.region [.one ⟨some 8, .move (.c (.nil))⟩])
 .ret)
 .skip))
 (.seq (.region [.one ⟨some 152, .move (.t 2)⟩,
 .one ⟨some 153, .call false .any 112 [.t 152]⟩,
 .one ⟨some 8, .move (.t 153)⟩])
 .ret))))) }
/-- gradus/word.IsName: number 129 -/
def word_IsName_b0 : ACode :=
 (.seq (.region [.one ⟨some 8, .next (.t 7)⟩,
 .one ⟨some 9, .extract (.t 8) 0⟩])
 (.seq (.cond (.t 9) .skip
 (.exit 0))
 (.block 1 (.seq (.region [.one ⟨some 10, .extract (.t 8) 2⟩,
 .one ⟨some 5, .move (.t 10)⟩])
 (.seq (.seq (.region [.one ⟨some 11, .move (.t 5)⟩,
 .one ⟨some 12, .call false .any 148 [.t 11]⟩,
 .one ⟨some 13, .un .not (.t 12)⟩,
 .one ⟨some 14, .move (.t 13)⟩,
 .grd 14 true [⟨some 15, .move (.t 3)⟩, ⟨some 16, .bin .eql 0 (.t 15) (.c (.int .i64 0))⟩, ⟨some 17, .move (.t 16)⟩],
 .grd 17 false [⟨some 18, .move (.t 5)⟩, ⟨some 19, .call false .any 149 [.t 18]⟩, ⟨some 20, .un .not (.t 19)⟩],
 .grd 14 true [⟨some 21, .pick (.t 17) (.c (.bool true)) (.t 20)⟩],
 .one ⟨some 22, .pick (.t 14) (.t 21) (.c (.bool false))⟩])
 (.cond (.t 22) (.seq (.region [.one ⟨some 2, .move (.c (.bool false))⟩])
 .ret)
 .skip))
 (.region [.one ⟨some 23, .move (.t 3)⟩,
 .one ⟨some 24, .bin .add 0 (.t 23) (.c (.int .i64 1))⟩,
 .one ⟨some 3, .move (.t 24)⟩]))))))
def word_IsName_l0 : ACode :=
 (.loop [(3, .any), (7, .any)] [(0, [(3, .any)])] [(2, .any)] word_IsName_b0)
def word_IsName : AFunc := { params := [.any], results := [.tmp 2], body :=
 (.seq (.region [.one ⟨some 2, .move (.c (.bool false))⟩])
 (.seq (.region [.one ⟨some 3, .move (.c (.int .i64 0))⟩])
 (.seq (.seq (.region [.one ⟨some 6, .move (.t 0)⟩,
 .one ⟨some 7, .range (.t 6)⟩])
 (.block 0 word_IsName_l0))
 (.seq (.region [.one ⟨some 25, .move (.t 3)⟩,
 .one ⟨some 26, .bin .geq 0 (.t 25) (.c (.int .i64 1))⟩,
 .one ⟨some 27, .move (.t 26)⟩,
 .grd 27 true [⟨some 28, .move (.t 3)⟩, ⟨some 29, .bin .leq 0 (.t 28) (.c (.int .i64 6))⟩],
 .one ⟨some 30, .pick (.t 27) (.t 29) (.c (.bool false))⟩,
 .one ⟨some 2, .move (.t 30)⟩])
 .ret)))) }
/-- slices.IndexFunc[[]gradus/api.Node,gradus/api.Node]: number 130 -/
def slices_IndexFunc_Node_b0 : ACode :=
 (.seq (.region [.one ⟨some 9, .bin .lss 0 (.t 8) (.t 7)⟩])
 (.seq (.cond (.t 9) .skip
 (.exit 0))
 (.seq (.block 1 (.seq (.region [.one ⟨some 10, .move (.t 8)⟩,
 .one ⟨some 5, .move (.t 10)⟩])
 (.seq (.region [.one ⟨some 11, .move (.t 1)⟩,
 .one ⟨some 12, .move (.t 0)⟩,
 .one ⟨some 13, .move (.t 5)⟩,
 .one ⟨some 14, .indexAddr 5 (.t 12) (.t 13)⟩,
 .one ⟨some 15, .load 5 true .any (.t 14)⟩,
 .one ⟨some 16, .callv false .any (.t 11) [.t 15]⟩])
 (.cond (.t 16) (.seq (.region [.one ⟨some 17, .move (.t 5)⟩,
 .one ⟨some 4, .move (.t 17)⟩])
 .ret)
 .skip))))
 (.region [.one ⟨some 18, .bin .add 0 (.t 8) (.c (.int .i64 1))⟩,
 .one ⟨some 8, .move (.t 18)⟩]))))
def slices_IndexFunc_Node_l0 : ACode :=
 (.loop [(0, .any), (1, .any), (7, .any), (8, .any)] [(0, [])] [(4, .any)] slices_IndexFunc_Node_b0)
def slices_IndexFunc_Node : AFunc := { params := [.any, .any], results := [.tmp 4], body :=
 (.seq (.region [.one ⟨some 4, .move (.c (.int .i64 0))⟩])
 (.seq (.seq (.region [.one ⟨some 6, .move (.t 0)⟩,
 .one ⟨some 7, .len (.t 6)⟩,
 .one ⟨some 8, .move (.c (.int .i64 0))⟩])
 (.block 0 slices_IndexFunc_Node_l0))
 (.seq (.region [.one ⟨some 4, .move (.c (.int .i64 (-1)))⟩])
 .ret))) }
/-- slices.ContainsFunc[[]gradus/api.Tensor,gradus/api.Tensor]: number 133 -/
def slices_ContainsFunc_Tensor : AFunc := { params := [.any, .any], results := [.tmp 4], body :=
 (.seq (.region [.one ⟨some 4, .move (.c (.bool false))⟩])
 (.seq (.region [.one ⟨some 5, .move (.t 0)⟩,
 .one ⟨some 6, .move (.t 1)⟩,
 .one ⟨some 7, .call false .any 150 [.t 5, .t 6]⟩,
 .one ⟨some 8, .bin .geq 0 (.t 7) (.c (.int .i64 0))⟩,
 .one ⟨some 4, .move (.t 8)⟩])
 .ret)) }
/-- gradus/shape.All$1: number 134 -/
def shape_All_1 : AFunc := { params := [.any], results := [.tmp 2], body :=
 (.seq (.region [.one ⟨some 1, .box (.t 0)⟩,
 .one ⟨some 2, .move (.c (.bool false))⟩])
 (.seq (.region [.one ⟨some 3, .load 2 true .any (.t 1)⟩,
 .one ⟨some 4, .call false .any 151 [.t 3]⟩,
 .one ⟨some 5, .un .not (.t 4)⟩,
 .one ⟨some 2, .move (.t 5)⟩])
 .ret)) }
/-- gradus/eval.Own: number 135 -/
def eval_Own : AFunc := { params := [.any], results := [.cell 2 2 true], body :=
 (.seq (.region [.one ⟨some 1, .box (.t 0)⟩,
 .one ⟨some 2, .alloc [.nil, .nil]⟩])
 (.seq (.region [.one ⟨some 3, .fieldAddr 0 (.t 1)⟩,
 .one ⟨some 4, .load 1 false .any (.t 3)⟩,
 .one ⟨some 5, .call true .any 112 [.t 4]⟩,
 .one ⟨some 6, .fieldAddr 1 (.t 1)⟩,
 .one ⟨some 7, .load 1 false .any (.t 6)⟩,
 .one ⟨some 8, .call true .any 112 [.t 7]⟩,
 .one ⟨some 9, .build [.nil, .nil] [(0, 1, .t 5), (1, 1, .t 8)]⟩,
 .one ⟨none, .store 2 (.t 2) (.t 9)⟩])
 .ret)) }
/-- gradus/shape.Fill: number 136 -/
def shape_Fill_b0 : ACode :=
 (.seq (.region [.one ⟨some 18, .bin .lss 0 (.t 17) (.t 16)⟩])
 (.seq (.cond (.t 18) .skip
 (.exit 0))
 (.seq (.block 1 (.seq (.region [.one ⟨some 19, .move (.t 17)⟩,
 .one ⟨some 7, .move (.t 19)⟩])
 (.region [.one ⟨some 20, .fieldAddr 1 (.t 6)⟩,
 .one ⟨some 21, .load 1 false .any (.t 20)⟩,
 .one ⟨some 22, .move (.t 7)⟩,
 .one ⟨some 23, .move (.t 1)⟩,
 .one ⟨some 24, .indexAddr 1 (.t 21) (.t 22)⟩,
 .one ⟨none, .store 1 (.t 24) (.t 23)⟩])))
 (.region [.one ⟨some 25, .bin .add 0 (.t 17) (.c (.int .i64 1))⟩,
 .one ⟨some 17, .move (.t 25)⟩]))))
def shape_Fill_l0 : ACode :=
 (.loop [(1, .any), (4, .any), (6, .any), (16, .any), (17, .any)] [(0, [(4, .any), (6, .any)])] [] shape_Fill_b0)
def shape_Fill : AFunc := { params := [.any, .any], results := [.cell 4 2 true, .tmp 5], body :=
 (.seq (.region [.one ⟨some 4, .alloc [.nil, .nil]⟩,
 .one ⟨some 5, .move (.c (.int .i64 0))⟩])
 (.seq (.seq (.region [.one ⟨some 8, .move (.t 0)⟩,
 .one ⟨some 9, .call false .any 145 [.t 8]⟩,
 .one ⟨some 10, .un .not (.t 9)⟩])
 (.cond (.t 10) (.seq (.region [.one ⟨some 11, .build [.nil, .nil] []⟩,
 .one ⟨none, .store 2 (.t 4) (.t 11)⟩,
 .one ⟨some 5, .move (.c (.int .i64 1))⟩])
 .ret)
 .skip))
 (.seq (.region [.one ⟨some 12, .move (.t 0)⟩,
 .one ⟨some 13, .call false .any 152 [.t 12]⟩,
 .one ⟨some 6, .alloc [.nil, .nil]⟩,
 .one ⟨none, .store 2 (.t 6) (.t 13)⟩])
 (.seq (.seq (.region [.one ⟨some 14, .fieldAddr 1 (.t 6)⟩,
 .one ⟨some 15, .load 1 false .any (.t 14)⟩,
 .one ⟨some 16, .len (.t 15)⟩,
 .one ⟨some 17, .move (.c (.int .i64 0))⟩])
 (.block 0 shape_Fill_l0))
 (.seq (.region [.one ⟨some 26, .load 2 true .any (.t 6)⟩,
 .one ⟨none, .store 2 (.t 4) (.t 26)⟩,
 .one ⟨some 5, .move (.c (.int .i64 0))⟩])
 .ret))))) }
/-- gradus/kernel.double: number 137 -/
def kernel_double : AFunc := { params := [.any, .any, .any, .any], results := [.cell 8 2 true, .tmp 9], body :=
 (.seq (.region [.one ⟨some 6, .box (.t 2)⟩,
 .one ⟨some 7, .box (.t 3)⟩,
 .one ⟨some 8, .alloc [.nil, .nil]⟩,
 .one ⟨some 9, .move (.c (.int .i64 0))⟩])
 (.seq (.seq (.region [.one ⟨some 10, .move (.t 0)⟩])
 (.block 0 (.seq (.region [.one ⟨some 12, .bin .eql 0 (.t 10) (.c (.int .i64 4))⟩,
 .one ⟨some 11, .move (.t 12)⟩])
 (.cond (.t 11) (.seq (.region [.one ⟨some 13, .load 2 true .any (.t 6)⟩,
 .one ⟨some 14, .load 2 true .any (.t 7)⟩,
 .one ⟨some 15, .call false .any 153 [.t 13, .t 14]⟩,
 .one ⟨some 16, .extract (.t 15) 0⟩,
 .one ⟨some 17, .extract (.t 15) 1⟩,
 .one ⟨none, .store 2 (.t 8) (.t 16)⟩,
 .one ⟨some 9, .move (.t 17)⟩])
 .ret)
 (.seq (.region [.one ⟨some 19, .bin .eql 0 (.t 10) (.c (.int .i64 5))⟩,
 .one ⟨some 18, .move (.t 19)⟩])
 (.cond (.t 18) (.seq (.region [.one ⟨some 20, .load 2 true .any (.t 6)⟩,
 .one ⟨some 21, .load 2 true .any (.t 7)⟩,
 .one ⟨some 22, .call false .any 154 [.t 20, .t 21]⟩,
 .one ⟨some 23, .extract (.t 22) 0⟩,
 .one ⟨some 24, .extract (.t 22) 1⟩,
 .one ⟨none, .store 2 (.t 8) (.t 23)⟩,
 .one ⟨some 9, .move (.t 24)⟩])
 .ret)
 (.seq (.region [.one ⟨some 26, .bin .eql 0 (.t 10) (.c (.int .i64 6))⟩,
 .one ⟨some 25, .move (.t 26)⟩])
 (.cond (.t 25) (.seq (.region [.one ⟨some 27, .load 2 true .any (.t 6)⟩,
 .one ⟨some 28, .load 2 true .any (.t 7)⟩,
 .one ⟨some 29, .call false .any 155 [.t 27, .t 28]⟩,
 .one ⟨some 30, .extract (.t 29) 0⟩,
 .one ⟨some 31, .extract (.t 29) 1⟩,
 .one ⟨none, .store 2 (.t 8) (.t 30)⟩,
 .one ⟨some 9, .move (.t 31)⟩])
 .ret)
 (.seq (.region [.one ⟨some 33, .bin .eql 0 (.t 10) (.c (.int .i64 9))⟩,
 .one ⟨some 32, .move (.t 33)⟩])
 (.cond (.t 32) (.seq (.region [.one ⟨some 34, .load 2 true .any (.t 6)⟩,
 .one ⟨some 35, .load 2 true .any (.t 7)⟩,
 .one ⟨some 36, .call false .any 156 [.t 34, .t 35]⟩,
 .one ⟨some 37, .extract (.t 36) 0⟩,
 .one ⟨some 38, .extract (.t 36) 1⟩,
 .one ⟨none, .store 2 (.t 8) (.t 37)⟩,
 .one ⟨some 9, .move (.t 38)⟩])
 .ret)
 (.seq (.region [.one ⟨some 40, .bin .eql 0 (.t 10) (.c (.int .i64 16))⟩,
 .one ⟨some 39, .move (.t 40)⟩])
 (.cond (.t 39) (.seq (.region [.one ⟨some 41, .load 2 true .any (.t 6)⟩,
 .one ⟨some 42, .load 2 true .any (.t 7)⟩,
 .one ⟨some 43, .call false .any 157 [.t 41, .t 42]⟩,
 .one ⟨some 44, .extract (.t 43) 0⟩,
 .one ⟨some 45, .extract (.t 43) 1⟩,
 .one ⟨none, .store 2 (.t 8) (.t 44)⟩,
 .one ⟨some 9, .move (.t 45)⟩])
 .ret)
 .skip))))))))))))
 (.seq (.region [.one ⟨some 46, .load 2 true .any (.t 6)⟩,
 .one ⟨some 47, .load 2 true .any (.t 7)⟩,
 .one ⟨some 48, .move (.t 1)⟩,
 .one ⟨some 49, .call false .any 158 [.t 46, .t 47, .t 48]⟩,
 .one ⟨some 50, .extract (.t 49) 0⟩,
 .one ⟨some 51, .extract (.t 49) 1⟩,
 .one ⟨none, .store 2 (.t 8) (.t 50)⟩,
 .one ⟨some 9, .move (.t 51)⟩])
 .ret))) }
/-- gradus/kernel.single: number 138 -/
def kernel_single : AFunc := { params := [.any, .any, .any, .any], results := [.cell 8 2 true, .tmp 9], body :=
 (.seq (.region [.one ⟨some 7, .box (.t 3)⟩,
 .one ⟨some 8, .alloc [.nil, .nil]⟩,
 .one ⟨some 9, .move (.c (.int .i64 0))⟩])
 (.seq (.seq (.region [.one ⟨some 10, .move (.t 0)⟩])
 (.block 0 (.seq (.region [.one ⟨some 12, .bin .eql 0 (.t 10) (.c (.int .i64 7))⟩,
 .one ⟨some 11, .move (.t 12)⟩])
 (.cond (.t 11) (.seq (.region [.one ⟨some 13, .load 2 true .any (.t 7)⟩,
 .one ⟨some 14, .call false .any 159 [.t 13]⟩,
 .one ⟨some 15, .extract (.t 14) 0⟩,
 .one ⟨some 16, .extract (.t 14) 1⟩,
 .one ⟨none, .store 2 (.t 8) (.t 15)⟩,
 .one ⟨some 9, .move (.t 16)⟩])
 .ret)
 (.seq (.region [.one ⟨some 18, .bin .eql 0 (.t 10) (.c (.int .i64 8))⟩,
 .one ⟨some 17, .move (.t 18)⟩])
 (.cond (.t 17) (.seq (.region [.one ⟨some 19, .load 2 true .any (.t 7)⟩,
 .one ⟨some 20, .move (.t 1)⟩,
 .one ⟨some 21, .call false .any 160 [.t 19, .t 20]⟩,
 .one ⟨some 22, .extract (.t 21) 0⟩,
 .one ⟨some 23, .extract (.t 21) 1⟩,
 .one ⟨none, .store 2 (.t 8) (.t 22)⟩,
 .one ⟨some 9, .move (.t 23)⟩])
 .ret)
 (.seq (.region [.one ⟨some 25, .bin .eql 0 (.t 10) (.c (.int .i64 10))⟩,
 .one ⟨some 24, .move (.t 25)⟩])
 (.cond (.t 24) (.seq (.region [.one ⟨some 26, .load 2 true .any (.t 7)⟩,
 .one ⟨some 27, .call false .any 161 [.t 26]⟩,
 .one ⟨some 28, .extract (.t 27) 0⟩,
 .one ⟨some 29, .extract (.t 27) 1⟩,
 .one ⟨none, .store 2 (.t 8) (.t 28)⟩,
 .one ⟨some 9, .move (.t 29)⟩])
 .ret)
 (.seq (.region [.one ⟨some 31, .bin .eql 0 (.t 10) (.c (.int .i64 11))⟩,
 .one ⟨some 30, .move (.t 31)⟩])
 (.cond (.t 30) (.seq (.region [.one ⟨some 32, .load 2 true .any (.t 7)⟩,
 .one ⟨some 33, .move (.t 2)⟩,
 .one ⟨some 34, .call false .any 162 [.t 32, .t 33]⟩,
 .one ⟨some 35, .extract (.t 34) 0⟩,
 .one ⟨some 36, .extract (.t 34) 1⟩,
 .one ⟨none, .store 2 (.t 8) (.t 35)⟩,
 .one ⟨some 9, .move (.t 36)⟩])
 .ret)
 (.seq (.region [.one ⟨some 38, .bin .eql 0 (.t 10) (.c (.int .i64 12))⟩,
 .one ⟨some 37, .move (.t 38)⟩])
 (.cond (.t 37) (.seq (.region [.one ⟨some 39, .load 2 true .any (.t 7)⟩,
 .one ⟨some 40, .move (.t 2)⟩,
 .one ⟨some 41, .call false .any 163 [.t 39, .t 40]⟩,
 .one ⟨some 42, .extract (.t 41) 0⟩,
 .one ⟨some 43, .extract (.t 41) 1⟩,
 .one ⟨none, .store 2 (.t 8) (.t 42)⟩,
 .one ⟨some 9, .move (.t 43)⟩])
 .ret)
 (.seq (.region [.one ⟨some 45, .bin .eql 0 (.t 10) (.c (.int .i64 13))⟩,
 .one ⟨some 44, .move (.t 45)⟩])
 (.cond (.t 44) (.seq (.region [.one ⟨some 46, .load 2 true .any (.t 7)⟩,
 .one ⟨some 47, .move (.t 2)⟩,
 .one ⟨some 48, .call false .any 164 [.t 46, .t 47]⟩,
 .one ⟨some 49, .extract (.t 48) 0⟩,
 .one ⟨some 50, .extract (.t 48) 1⟩,
 .one ⟨none, .store 2 (.t 8) (.t 49)⟩,
 .one ⟨some 9, .move (.t 50)⟩])
 .ret)
 (.seq (.region [.one ⟨some 52, .bin .eql 0 (.t 10) (.c (.int .i64 14))⟩,
 .one ⟨some 51, .move (.t 52)⟩])
 (.cond (.t 51) (.seq (.region [.one ⟨some 53, .load 2 true .any (.t 7)⟩,
 .one ⟨some 54, .call false .any 165 [.t 53]⟩,
 .one ⟨some 55, .extract (.t 54) 0⟩,
 .one ⟨some 56, .extract (.t 54) 1⟩,
 .one ⟨none, .store 2 (.t 8) (.t 55)⟩,
 .one ⟨some 9, .move (.t 56)⟩])
 .ret)
 .skip))))))))))))))))
 (.seq (.region [.one ⟨some 57, .load 2 true .any (.t 7)⟩,
 .one ⟨some 58, .move (.t 1)⟩,
 .one ⟨some 59, .call false .any 166 [.t 57, .t 58]⟩,
 .one ⟨some 60, .extract (.t 59) 0⟩,
 .one ⟨some 61, .extract (.t 59) 1⟩,
 .one ⟨none, .store 2 (.t 8) (.t 60)⟩,
 .one ⟨some 9, .move (.t 61)⟩])
 .ret))) }
/-- gradus/kernel.form$1: number 141 -/
def kernel_form_1 : AFunc := { params := [.any], results := [.tmp 2], body :=
 (.seq (.region [.one ⟨some 2, .move (.c (.bool false))⟩])
 (.seq (.region [.one ⟨some 3, .move (.t 0)⟩,
 .one ⟨some 4, .call false .any 145 [.t 3]⟩,
 .one ⟨some 5, .un .not (.t 4)⟩,
 .one ⟨some 2, .move (.t 5)⟩])
 .ret)) }
/-- gradus/kernel.Many: number 142 -/
def kernel_Many : AFunc := { params := [.any], results := [.tmp 2], body :=
 (.seq (.region [.one ⟨some 2, .move (.c (.int .i64 0))⟩])
 (.seq (.seq (.region [.one ⟨some 3, .move (.t 0)⟩])
 (.block 0 (.seq (.seq (.region [.one ⟨some 5, .bin .eql 0 (.t 3) (.c (.int .i64 1))⟩,
 .one ⟨some 4, .move (.t 5)⟩])
 (.cond (.t 4) .skip
 (.seq (.region [.one ⟨some 6, .bin .eql 0 (.t 3) (.c (.int .i64 2))⟩,
 .one ⟨some 4, .move (.t 6)⟩])
 (.cond (.t 4) .skip
 (.region [.one ⟨some 7, .bin .eql 0 (.t 3) (.c (.int .i64 3))⟩,
 .one ⟨some 4, .move (.t 7)⟩])))))
 (.cond (.t 4) (.seq (.region [.one ⟨some 2, .move (.c (.int .i64 0))⟩])
 .ret)
 (.seq (.seq (.region [.one ⟨some 9, .bin .eql 0 (.t 3) (.c (.int .i64 4))⟩,
 .one ⟨some 8, .move (.t 9)⟩])
 (.cond (.t 8) .skip
 (.seq (.region [.one ⟨some 10, .bin .eql 0 (.t 3) (.c (.int .i64 5))⟩,
 .one ⟨some 8, .move (.t 10)⟩])
 (.cond (.t 8) .skip
 (.seq (.region [.one ⟨some 11, .bin .eql 0 (.t 3) (.c (.int .i64 6))⟩,
 .one ⟨some 8, .move (.t 11)⟩])
 (.cond (.t 8) .skip
 (.seq (.region [.one ⟨some 12, .bin .eql 0 (.t 3) (.c (.int .i64 9))⟩,
 .one ⟨some 8, .move (.t 12)⟩])
 (.cond (.t 8) .skip
 (.seq (.region [.one ⟨some 13, .bin .eql 0 (.t 3) (.c (.int .i64 16))⟩,
 .one ⟨some 8, .move (.t 13)⟩])
 (.cond (.t 8) .skip
 (.region [.one ⟨some 14, .bin .eql 0 (.t 3) (.c (.int .i64 17))⟩,
 .one ⟨some 8, .move (.t 14)⟩])))))))))))
 (.cond (.t 8) (.seq (.region [.one ⟨some 2, .move (.c (.int .i64 2))⟩])
 .ret)
 .skip))))))
 (.seq (.region [.one ⟨some 2, .move (.c (.int .i64 1))⟩])
 .ret))) }
/-- slices.ContainsFunc[[][]int,[]int]: number 143 -/
def slices_ContainsFunc_ints : AFunc := { params := [.any, .any], results := [.tmp 4], body :=
 (.seq (.region [.one ⟨some 4, .move (.c (.bool false))⟩])
 (.seq (.region [.one ⟨some 5, .move (.t 0)⟩,
 .one ⟨some 6, .move (.t 1)⟩,
 .one ⟨some 7, .call false .any 179 [.t 5, .t 6]⟩,
 .one ⟨some 8, .bin .geq 0 (.t 7) (.c (.int .i64 0))⟩,
 .one ⟨some 4, .move (.t 8)⟩])
 .ret)) }
/-- gradus/kernel.number: number 144 -/
def kernel_number : AFunc := { params := [.any, .any], results := [.tmp 4], body :=
 (.seq (.region [.one ⟨some 4, .move (.c (.bool false))⟩])
 (.seq (.seq (.region [.one ⟨some 5, .move (.t 0)⟩])
 (.block 0 (.seq (.seq (.region [.one ⟨some 7, .bin .eql 0 (.t 5) (.c (.int .i64 3))⟩,
 .one ⟨some 6, .move (.t 7)⟩])
 (.cond (.t 6) .skip
 (.region [.one ⟨some 8, .bin .eql 0 (.t 5) (.c (.int .i64 8))⟩,
 .one ⟨some 6, .move (.t 8)⟩])))
 (.cond (.t 6) (.seq (.region [.one ⟨some 4, .move (.c (.bool true))⟩])
 .ret)
 (.seq (.seq (.region [.one ⟨some 10, .bin .eql 0 (.t 5) (.c (.int .i64 15))⟩,
 .one ⟨some 9, .move (.t 10)⟩])
 (.cond (.t 9) .skip
 (.region [.one ⟨some 11, .bin .eql 0 (.t 5) (.c (.int .i64 17))⟩,
 .one ⟨some 9, .move (.t 11)⟩])))
 (.cond (.t 9) (.seq (.region [.one ⟨some 12, .move (.t 1)⟩,
 .one ⟨some 13, .bin .geq 0 (.t 12) (.c (.int .i64 1))⟩,
 .one ⟨some 14, .move (.t 13)⟩,
 .grd 14 true [⟨some 15, .move (.t 1)⟩, ⟨some 16, .bin .leq 0 (.t 15) (.c (.int .i64 8))⟩],
 .one ⟨some 17, .pick (.t 14) (.t 16) (.c (.bool false))⟩,
 .one ⟨some 4, .move (.t 17)⟩])
 .ret)
 .skip))))))
 (.seq (.region [.one ⟨some 18, .move (.t 1)⟩,
 .one ⟨some 19, .bin .eql 0 (.t 18) (.c (.int .i64 0))⟩,
 .one ⟨some 4, .move (.t 19)⟩])
 .ret))) }
/-- gradus/shape.May: number 145 -/
def shape_May : AFunc := { params := [.any], results := [.tmp 2], body :=
 (.seq (.region [.one ⟨some 2, .move (.c (.bool false))⟩])
 (.seq (.seq (.region [.one ⟨some 3, .move (.t 0)⟩,
 .one ⟨some 4, .len (.t 3)⟩,
 .one ⟨some 5, .bin .lss 0 (.t 4) (.c (.int .i64 1))⟩,
 .one ⟨some 6, .move (.t 5)⟩,
 .grd 6 false [⟨some 7, .move (.t 0)⟩, ⟨some 8, .len (.t 7)⟩, ⟨some 9, .bin .gtr 0 (.t 8) (.c (.int .i64 3))⟩],
 .one ⟨some 10, .pick (.t 6) (.c (.bool true)) (.t 9)⟩,
 .one ⟨some 11, .move (.t 10)⟩,
 .grd 11 false [⟨some 12, .move (.t 0)⟩, ⟨some 13, .call false .any 75 [.t 12, .c (.fn 178 [])]⟩],
 .one ⟨some 14, .pick (.t 11) (.c (.bool true)) (.t 13)⟩])
 (.cond (.t 14) (.seq (.region [.one ⟨some 2, .move (.c (.bool false))⟩])
 .ret)
 .skip))
 (.seq (.region [.one ⟨some 15, .move (.t 0)⟩,
 .one ⟨some 16, .call false .any 106 [.t 15]⟩,
 .one ⟨some 17, .bin .leq 0 (.t 16) (.c (.int .i64 64))⟩,
 .one ⟨some 2, .move (.t 17)⟩])
 .ret))) }
/-- gradus/shape.Grows: number 146 -/
def shape_Grows_b0 : ACode :=
 (.seq (.region [.one ⟨some 15, .bin .lss 0 (.t 14) (.t 13)⟩])
 (.seq (.cond (.t 15) .skip
 (.exit 0))
 (.seq (.block 1 (.seq (.region [.one ⟨some 16, .move (.t 14)⟩,
 .one ⟨some 17, .indexAddr 1 (.t 12) (.t 14)⟩,
 .one ⟨some 18, .load 1 false .any (.t 17)⟩,
 .one ⟨some 5, .move (.t 16)⟩,
 .one ⟨some 6, .move (.t 18)⟩])
 (.seq (.region [.one ⟨some 19, .move (.t 6)⟩,
 .one ⟨some 20, .bin .neq 0 (.t 19) (.c (.int .i64 1))⟩,
 .one ⟨some 21, .move (.t 20)⟩,
 .grd 21 true [⟨some 22, .move (.t 6)⟩, ⟨some 23, .move (.t 1)⟩, ⟨some 24, .move (.t 5)⟩, ⟨some 25, .indexAddr 1 (.t 23) (.t 24)⟩, ⟨some 26, .load 1 false .any (.t 25)⟩, ⟨some 27, .bin .neq 0 (.t 22) (.t 26)⟩],
 .one ⟨some 28, .pick (.t 21) (.t 27) (.c (.bool false))⟩])
 (.cond (.t 28) (.seq (.region [.one ⟨some 4, .move (.c (.bool false))⟩])
 .ret)
 .skip))))
 (.region [.one ⟨some 29, .bin .add 0 (.t 14) (.c (.int .i64 1))⟩,
 .one ⟨some 14, .move (.t 29)⟩]))))
def shape_Grows_l0 : ACode :=
 (.loop [(1, .any), (12, .any), (13, .any), (14, .any)] [(0, [])] [(4, .any)] shape_Grows_b0)
def shape_Grows : AFunc := { params := [.any, .any], results := [.tmp 4], body :=
 (.seq (.region [.one ⟨some 4, .move (.c (.bool false))⟩])
 (.seq (.seq (.region [.one ⟨some 7, .move (.t 0)⟩,
 .one ⟨some 8, .len (.t 7)⟩,
 .one ⟨some 9, .move (.t 1)⟩,
 .one ⟨some 10, .len (.t 9)⟩,
 .one ⟨some 11, .bin .neq 0 (.t 8) (.t 10)⟩])
 (.cond (.t 11) (.seq (.region [.one ⟨some 4, .move (.c (.bool false))⟩])
 .ret)
 .skip))
 (.seq (.seq (.region [.one ⟨some 12, .move (.t 0)⟩,
 .one ⟨some 13, .len (.t 12)⟩,
 .one ⟨some 14, .move (.c (.int .i64 0))⟩])
 (.block 0 shape_Grows_l0))
 (.seq (.region [.one ⟨some 4, .move (.c (.bool true))⟩])
 .ret)))) }
/-- gradus/gate.Less: number 147 -/
def gate_Less : AFunc := { params := [.any, .any], results := [.tmp 4, .tmp 5], body :=
 (.seq (.region [.one ⟨some 4, .move (.c (.nil))⟩,
 .one ⟨some 5, .move (.c (.bool false))⟩])
 (.seq (.region [.one ⟨some 7, .move (.t 0)⟩,
 .one ⟨some 8, .call false .any 112 [.t 7]⟩,
 .one ⟨some 0, .move (.t 8)⟩])
 (.seq (.region [.one ⟨some 9, .move (.t 0)⟩,
 .one ⟨some 10, .len (.t 9)⟩,
 .one ⟨some 11, .bin .sub 0 (.t 10) (.c (.int .i64 1))⟩,
 .one ⟨some 6, .move (.t 11)⟩])
 (.seq (.seq (.region [.one ⟨some 12, .move (.t 0)⟩,
 .one ⟨some 13, .move (.t 6)⟩,
 .one ⟨some 14, .indexAddr 1 (.t 12) (.t 13)⟩,
 .one ⟨some 15, .load 1 false .any (.t 14)⟩,
 .one ⟨some 16, .move (.t 1)⟩,
 .one ⟨some 17, .bin .rem 0 (.t 15) (.t 16)⟩,
 .one ⟨some 18, .bin .neq 0 (.t 17) (.c (.int .i64 0))⟩])
 (.cond (.t 18) (.seq (.region [.one ⟨some 4, .move (.c (.nil))⟩,
 .one ⟨some 5, .move (.c (.bool false))⟩])
 .ret)
 .skip))
 (.seq (.region [.one ⟨some 19, .move (.t 0)⟩,
 .one ⟨some 20, .move (.t 6)⟩,
 .one ⟨some 21, .indexAddr 1 (.t 19) (.t 20)⟩,
 .one ⟨some 22, .load 1 false .any (.t 21)⟩,
 .one ⟨some 23, .move (.t 1)⟩,
 .one ⟨some 24, .bin .quo 0 (.t 22) (.t 23)⟩,
 .one ⟨some 25, .indexAddr 1 (.t 19) (.t 20)⟩,
 .one ⟨none, .store 1 (.t 25) (.t 24)⟩])
 (.seq (.region [.one ⟨some 26, .move (.t 0)⟩,
 .one ⟨some 4, .move (.t 26)⟩,
 .one ⟨some 5, .move (.c (.bool true))⟩])
 .ret)))))) }
/-- gradus/word.letter: number 148 -/
def word_letter : AFunc := { params := [.any], results := [.tmp 2], body :=
 (.seq (.region [.one ⟨some 2, .move (.c (.bool false))⟩])
 (.seq (.region [.one ⟨some 3, .move (.t 0)⟩,
 .one ⟨some 4, .bin .geq 0 (.t 3) (.c (.int .i32 97))⟩,
 .one ⟨some 5, .move (.t 4)⟩,
 .grd 5 true [⟨some 6, .move (.t 0)⟩, ⟨some 7, .bin .leq 0 (.t 6) (.c (.int .i32 122))⟩],
 .one ⟨some 8, .pick (.t 5) (.t 7) (.c (.bool false))⟩,
 .one ⟨some 9, .move (.t 8)⟩,
 .grd 9 false [⟨some 10, .move (.t 0)⟩, ⟨some 11, .bin .geq 0 (.t 10) (.c (.int .i32 945))⟩, ⟨some 12, .move (.t 11)⟩],
 .grd 12 true [⟨some 13, .move (.t 0)⟩, ⟨some 14, .bin .leq 0 (.t 13) (.c (.int .i32 969))⟩],
 .grd 9 false [⟨some 15, .pick (.t 12) (.t 14) (.c (.bool false))⟩],
 .one ⟨some 16, .pick (.t 9) (.c (.bool true)) (.t 15)⟩,
 .one ⟨some 2, .move (.t 16)⟩])
 .ret)) }
/-- gradus/word.digit: number 149 -/
def word_digit : AFunc := { params := [.any], results := [.tmp 2], body :=
 (.seq (.region [.one ⟨some 2, .move (.c (.bool false))⟩])
 (.seq (.region [.one ⟨some 3, .move (.t 0)⟩,
 .one ⟨some 4, .bin .geq 0 (.t 3) (.c (.int .i32 48))⟩,
 .one ⟨some 5, .move (.t 4)⟩,
 .grd 5 true [⟨some 6, .move (.t 0)⟩, ⟨some 7, .bin .leq 0 (.t 6) (.c (.int .i32 57))⟩],
 .one ⟨some 8, .pick (.t 5) (.t 7) (.c (.bool false))⟩,
 .one ⟨some 2, .move (.t 8)⟩])
 .ret)) }
/-- slices.IndexFunc[[]gradus/api.Tensor,gradus/api.Tensor]: number 150 -/
def slices_IndexFunc_Tensor_b0 : ACode :=
 (.seq (.region [.one ⟨some 9, .bin .lss 0 (.t 8) (.t 7)⟩])
 (.seq (.cond (.t 9) .skip
 (.exit 0))
 (.seq (.block 1 (.seq (.region [.one ⟨some 10, .move (.t 8)⟩,
 .one ⟨some 5, .move (.t 10)⟩])
 (.seq (.region [.one ⟨some 11, .move (.t 1)⟩,
 .one ⟨some 12, .move (.t 0)⟩,
 .one ⟨some 13, .move (.t 5)⟩,
 .one ⟨some 14, .indexAddr 2 (.t 12) (.t 13)⟩,
 .one ⟨some 15, .load 2 true .any (.t 14)⟩,
 .one ⟨some 16, .callv false .any (.t 11) [.t 15]⟩])
 (.cond (.t 16) (.seq (.region [.one ⟨some 17, .move (.t 5)⟩,
 .one ⟨some 4, .move (.t 17)⟩])
 .ret)
 .skip))))
 (.region [.one ⟨some 18, .bin .add 0 (.t 8) (.c (.int .i64 1))⟩,
 .one ⟨some 8, .move (.t 18)⟩]))))
def slices_IndexFunc_Tensor_l0 : ACode :=
 (.loop [(0, .any), (1, .any), (7, .any), (8, .any)] [(0, [])] [(4, .any)] slices_IndexFunc_Tensor_b0)
def slices_IndexFunc_Tensor : AFunc := { params := [.any, .any], results := [.tmp 4], body :=
 (.seq (.region [.one ⟨some 4, .move (.c (.int .i64 0))⟩])
 (.seq (.seq (.region [.one ⟨some 6, .move (.t 0)⟩,
 .one ⟨some 7, .len (.t 6)⟩,
 .one ⟨some 8, .move (.c (.int .i64 0))⟩])
 (.block 0 slices_IndexFunc_Tensor_l0))
 (.seq (.region [.one ⟨some 4, .move (.c (.int .i64 (-1)))⟩])
 .ret))) }
/-- gradus/shape.Is: number 151 -/
def shape_Is : AFunc := { params := [.any], results := [.tmp 2], body :=
 (.seq (.region [.one ⟨some 1, .box (.t 0)⟩,
 .one ⟨some 2, .move (.c (.bool false))⟩])
 (.seq (.region [.one ⟨some 3, .fieldAddr 0 (.t 1)⟩,
 .one ⟨some 4, .load 1 false .any (.t 3)⟩,
 .one ⟨some 5, .call true .any 145 [.t 4]⟩,
 .one ⟨some 6, .move (.t 5)⟩,
 .grd 6 true [⟨some 7, .fieldAddr 1 (.t 1)⟩, ⟨some 8, .load 1 false .any (.t 7)⟩, ⟨some 9, .len (.t 8)⟩, ⟨some 10, .fieldAddr 0 (.t 1)⟩, ⟨some 11, .load 1 false .any (.t 10)⟩, ⟨some 12, .call true .any 106 [.t 11]⟩, ⟨some 13, .bin .eql 0 (.t 9) (.t 12)⟩],
 .one ⟨some 14, .pick (.t 6) (.t 13) (.c (.bool false))⟩,
 .one ⟨some 2, .move (.t 14)⟩])
 .ret)) }
/-- gradus/shape.New: number 152 -/
def shape_New : AFunc := { params := [.any], results := [.cell 2 2 true], body :=
 (.seq (.region [.one ⟨some 2, .alloc [.nil, .nil]⟩])
 (.seq (.region [.one ⟨some 3, .move (.t 0)⟩,
 .one ⟨some 4, .call false .any 112 [.t 3]⟩,
 .one ⟨some 5, .move (.t 0)⟩,
 .one ⟨some 6, .call false .any 106 [.t 5]⟩,
 .one ⟨some 7, .makeSlice 1 8 [.int .i64 0] (.t 6)⟩,
 .one ⟨some 8, .build [.nil, .nil] [(0, 1, .t 4), (1, 1, .t 7)]⟩,
 .one ⟨none, .store 2 (.t 2) (.t 8)⟩])
 .ret)) }
/-- gradus/ring.Add: number 153 -/
def ring_Add : AFunc := { params := [.any, .any], results := [.cell 4 2 true, .tmp 5], body :=
 (.seq (.region [.one ⟨some 2, .box (.t 0)⟩,
 .one ⟨some 3, .box (.t 1)⟩,
 .one ⟨some 4, .alloc [.nil, .nil]⟩,
 .one ⟨some 5, .move (.c (.int .i64 0))⟩])
 (.seq (.region [.one ⟨some 6, .load 2 true .any (.t 2)⟩,
 .one ⟨some 7, .load 2 true .any (.t 3)⟩,
 .one ⟨some 8, .call false .any 180 [.t 6, .t 7, .c (.fn 181 [])]⟩,
 .one ⟨some 9, .extract (.t 8) 0⟩,
 .one ⟨some 10, .extract (.t 8) 1⟩,
 .one ⟨none, .store 2 (.t 4) (.t 9)⟩,
 .one ⟨some 5, .move (.t 10)⟩])
 .ret)) }
/-- gradus/ring.Sub: number 154 -/
def ring_Sub : AFunc := { params := [.any, .any], results := [.cell 4 2 true, .tmp 5], body :=
 (.seq (.region [.one ⟨some 2, .box (.t 0)⟩,
 .one ⟨some 3, .box (.t 1)⟩,
 .one ⟨some 4, .alloc [.nil, .nil]⟩,
 .one ⟨some 5, .move (.c (.int .i64 0))⟩])
 (.seq (.region [.one ⟨some 6, .load 2 true .any (.t 2)⟩,
 .one ⟨some 7, .load 2 true .any (.t 3)⟩,
 .one ⟨some 8, .call false .any 180 [.t 6, .t 7, .c (.fn 182 [])]⟩,
 .one ⟨some 9, .extract (.t 8) 0⟩,
 .one ⟨some 10, .extract (.t 8) 1⟩,
 .one ⟨none, .store 2 (.t 4) (.t 9)⟩,
 .one ⟨some 5, .move (.t 10)⟩])
 .ret)) }
/-- gradus/ring.Mul: number 155 -/
def ring_Mul : AFunc := { params := [.any, .any], results := [.cell 4 2 true, .tmp 5], body :=
 (.seq (.region [.one ⟨some 2, .box (.t 0)⟩,
 .one ⟨some 3, .box (.t 1)⟩,
 .one ⟨some 4, .alloc [.nil, .nil]⟩,
 .one ⟨some 5, .move (.c (.int .i64 0))⟩])
 (.seq (.region [.one ⟨some 6, .load 2 true .any (.t 2)⟩,
 .one ⟨some 7, .load 2 true .any (.t 3)⟩,
 .one ⟨some 8, .call false .any 180 [.t 6, .t 7, .c (.fn 183 [])]⟩,
 .one ⟨some 9, .extract (.t 8) 0⟩,
 .one ⟨some 10, .extract (.t 8) 1⟩,
 .one ⟨none, .store 2 (.t 4) (.t 9)⟩,
 .one ⟨some 5, .move (.t 10)⟩])
 .ret)) }
/-- gradus/mat.Mul: number 156 -/
def mat_Mul_b0 : ACode :=
 (.seq (.region [.one ⟨some 75, .bin .lss 0 (.t 74) (.t 73)⟩])
 (.seq (.cond (.t 75) .skip
 (.exit 5))
 (.seq (.block 6 (.seq (.region [.one ⟨some 76, .move (.t 74)⟩,
 .one ⟨some 13, .move (.t 76)⟩])
 (.region [.one ⟨some 77, .fieldAddr 1 (.t 10)⟩,
 .one ⟨some 78, .load 1 false .any (.t 77)⟩,
 .one ⟨some 79, .move (.t 11)⟩,
 .one ⟨some 80, .move (.t 8)⟩,
 .one ⟨some 81, .bin .mul 0 (.t 79) (.t 80)⟩,
 .one ⟨some 82, .move (.t 12)⟩,
 .one ⟨some 83, .bin .add 0 (.t 81) (.t 82)⟩,
 .one ⟨some 84, .indexAddr 1 (.t 78) (.t 83)⟩,
 .one ⟨some 85, .load 1 false .any (.t 84)⟩,
 .one ⟨some 86, .fieldAddr 1 (.t 2)⟩,
 .one ⟨some 87, .load 1 false .any (.t 86)⟩,
 .one ⟨some 88, .move (.t 11)⟩,
 .one ⟨some 89, .move (.t 7)⟩,
 .one ⟨some 90, .bin .mul 0 (.t 88) (.t 89)⟩,
 .one ⟨some 91, .move (.t 13)⟩,
 .one ⟨some 92, .bin .add 0 (.t 90) (.t 91)⟩,
 .one ⟨some 93, .indexAddr 1 (.t 87) (.t 92)⟩,
 .one ⟨some 94, .load 1 false .any (.t 93)⟩,
 .one ⟨some 95, .fieldAddr 1 (.t 3)⟩,
 .one ⟨some 96, .load 1 false .any (.t 95)⟩,
 .one ⟨some 97, .move (.t 13)⟩,
 .one ⟨some 98, .move (.t 8)⟩,
 .one ⟨some 99, .bin .mul 0 (.t 97) (.t 98)⟩,
 .one ⟨some 100, .move (.t 12)⟩,
 .one ⟨some 101, .bin .add 0 (.t 99) (.t 100)⟩,
 .one ⟨some 102, .indexAddr 1 (.t 96) (.t 101)⟩,
 .one ⟨some 103, .load 1 false .any (.t 102)⟩,
 .one ⟨some 104, .bin .mul 0 (.t 94) (.t 103)⟩,
 .one ⟨some 105, .bin .add 0 (.t 85) (.t 104)⟩,
 .one ⟨some 106, .indexAddr 1 (.t 78) (.t 83)⟩,
 .one ⟨none, .store 1 (.t 106) (.t 105)⟩])))
 (.region [.one ⟨some 107, .bin .add 0 (.t 74) (.c (.int .i64 1))⟩,
 .one ⟨some 74, .move (.t 107)⟩]))))
def mat_Mul_l0 : ACode :=
 (.loop [(2, .any), (3, .any), (4, .any), (7, .any), (8, .any), (10, .any), (11, .any), (12, .any), (65, .any), (66, .any), (69, .any), (70, .any), (73, .any), (74, .any)] [(5, [(2, .any), (3, .any), (4, .any), (7, .any), (8, .any), (10, .any), (11, .any), (65, .any), (66, .any), (69, .any), (70, .any)])] [] mat_Mul_b0)
def mat_Mul_b1 : ACode :=
 (.seq (.region [.one ⟨some 71, .bin .lss 0 (.t 70) (.t 69)⟩])
 (.seq (.cond (.t 71) .skip
 (.exit 3))
 (.seq (.block 4 (.seq (.region [.one ⟨some 72, .move (.t 70)⟩,
 .one ⟨some 12, .move (.t 72)⟩])
 (.seq (.region [.one ⟨some 73, .move (.t 7)⟩,
 .one ⟨some 74, .move (.c (.int .i64 0))⟩])
 (.block 5 mat_Mul_l0))))
 (.region [.one ⟨some 108, .bin .add 0 (.t 70) (.c (.int .i64 1))⟩,
 .one ⟨some 70, .move (.t 108)⟩]))))
def mat_Mul_l1 : ACode :=
 (.loop [(2, .any), (3, .any), (4, .any), (7, .any), (8, .any), (10, .any), (11, .any), (65, .any), (66, .any), (69, .any), (70, .any)] [(3, [(2, .any), (3, .any), (4, .any), (7, .any), (8, .any), (10, .any), (65, .any), (66, .any)])] [] mat_Mul_b1)
def mat_Mul_b2 : ACode :=
 (.seq (.region [.one ⟨some 67, .bin .lss 0 (.t 66) (.t 65)⟩])
 (.seq (.cond (.t 67) .skip
 (.exit 1))
 (.seq (.block 2 (.seq (.region [.one ⟨some 68, .move (.t 66)⟩,
 .one ⟨some 11, .move (.t 68)⟩])
 (.seq (.region [.one ⟨some 69, .move (.t 8)⟩,
 .one ⟨some 70, .move (.c (.int .i64 0))⟩])
 (.block 3 mat_Mul_l1))))
 (.region [.one ⟨some 109, .bin .add 0 (.t 66) (.c (.int .i64 1))⟩,
 .one ⟨some 66, .move (.t 109)⟩]))))
def mat_Mul_l2 : ACode :=
 (.loop [(2, .any), (3, .any), (4, .any), (7, .any), (8, .any), (10, .any), (65, .any), (66, .any)] [(1, [(4, .any), (10, .any)])] [] mat_Mul_b2)
def mat_Mul : AFunc := { params := [.any, .any], results := [.cell 4 2 true, .tmp 5], body :=
 (.seq (.region [.one ⟨some 2, .box (.t 0)⟩,
 .one ⟨some 3, .box (.t 1)⟩,
 .one ⟨some 4, .alloc [.nil, .nil]⟩,
 .one ⟨some 5, .move (.c (.int .i64 0))⟩])
 (.seq (.block 0 (.seq (.region [.one ⟨some 15, .load 2 true .any (.t 2)⟩,
 .one ⟨some 16, .load 2 true .any (.t 3)⟩,
 .one ⟨some 17, .buildSlice 2 2 [.nil, .nil] [(0, .t 15), (1, .t 16)]⟩,
 .one ⟨some 18, .call false .any 118 [.t 17]⟩,
 .one ⟨some 19, .un .not (.t 18)⟩,
 .one ⟨some 14, .move (.t 19)⟩])
 (.cond (.t 14) (.seq (.region [.one ⟨some 20, .build [.nil, .nil] []⟩,
 .one ⟨none, .store 2 (.t 4) (.t 20)⟩,
 .one ⟨some 5, .move (.c (.int .i64 1))⟩])
 .ret)
 (.seq (.region [.one ⟨some 22, .fieldAddr 0 (.t 2)⟩,
 .one ⟨some 23, .load 1 false .any (.t 22)⟩,
 .one ⟨some 24, .len (.t 23)⟩,
 .one ⟨some 25, .bin .neq 0 (.t 24) (.c (.int .i64 2))⟩,
 .one ⟨some 26, .move (.t 25)⟩,
 .grd 26 false [⟨some 27, .fieldAddr 0 (.t 3)⟩, ⟨some 28, .load 1 false .any (.t 27)⟩, ⟨some 29, .len (.t 28)⟩, ⟨some 30, .bin .neq 0 (.t 29) (.c (.int .i64 2))⟩],
 .one ⟨some 31, .pick (.t 26) (.c (.bool true)) (.t 30)⟩,
 .one ⟨some 32, .move (.t 31)⟩,
 .grd 32 false [⟨some 33, .fieldAddr 0 (.t 2)⟩, ⟨some 34, .load 1 false .any (.t 33)⟩, ⟨some 35, .indexAddr 1 (.t 34) (.c (.int .i64 1))⟩, ⟨some 36, .load 1 false .any (.t 35)⟩, ⟨some 37, .fieldAddr 0 (.t 3)⟩, ⟨some 38, .load 1 false .any (.t 37)⟩, ⟨some 39, .indexAddr 1 (.t 38) (.c (.int .i64 0))⟩, ⟨some 40, .load 1 false .any (.t 39)⟩, ⟨some 41, .bin .neq 0 (.t 36) (.t 40)⟩],
 .one ⟨some 42, .pick (.t 32) (.c (.bool true)) (.t 41)⟩,
 .one ⟨some 21, .move (.t 42)⟩])
 (.cond (.t 21) (.seq (.region [.one ⟨some 43, .build [.nil, .nil] []⟩,
 .one ⟨none, .store 2 (.t 4) (.t 43)⟩,
 .one ⟨some 5, .move (.c (.int .i64 4))⟩])
 .ret)
 .skip)))))
 (.seq (.region [.one ⟨some 44, .fieldAddr 0 (.t 2)⟩,
 .one ⟨some 45, .load 1 false .any (.t 44)⟩,
 .one ⟨some 46, .indexAddr 1 (.t 45) (.c (.int .i64 0))⟩,
 .one ⟨some 47, .load 1 false .any (.t 46)⟩,
 .one ⟨some 48, .fieldAddr 0 (.t 2)⟩,
 .one ⟨some 49, .load 1 false .any (.t 48)⟩,
 .one ⟨some 50, .indexAddr 1 (.t 49) (.c (.int .i64 1))⟩,
 .one ⟨some 51, .load 1 false .any (.t 50)⟩,
 .one ⟨some 52, .fieldAddr 0 (.t 3)⟩,
 .one ⟨some 53, .load 1 false .any (.t 52)⟩,
 .one ⟨some 54, .indexAddr 1 (.t 53) (.c (.int .i64 1))⟩,
 .one ⟨some 55, .load 1 false .any (.t 54)⟩,
 .one ⟨some 6, .move (.t 47)⟩,
 .one ⟨some 7, .move (.t 51)⟩,
 .one ⟨some 8, .move (.t 55)⟩])
 (.seq (.region [.one ⟨some 56, .move (.t 6)⟩,
 .one ⟨some 57, .move (.t 8)⟩,
 .one ⟨some 58, .buildSlice 1 2 [.int .i64 0] [(0, .t 56), (1, .t 57)]⟩,
 .one ⟨some 9, .move (.t 58)⟩])
 (.seq (.seq (.region [.one ⟨some 59, .move (.t 9)⟩,
 .one ⟨some 60, .call false .any 145 [.t 59]⟩,
 .one ⟨some 61, .un .not (.t 60)⟩])
 (.cond (.t 61) (.seq (.region [.one ⟨some 62, .build [.nil, .nil] []⟩,
 .one ⟨none, .store 2 (.t 4) (.t 62)⟩,
 .one ⟨some 5, .move (.c (.int .i64 4))⟩])
 .ret)
 .skip))
 (.seq (.region [.one ⟨some 63, .move (.t 9)⟩,
 .one ⟨some 64, .call false .any 152 [.t 63]⟩,
 .one ⟨some 10, .alloc [.nil, .nil]⟩,
 .one ⟨none, .store 2 (.t 10) (.t 64)⟩])
 (.seq (.seq (.region [.one ⟨some 65, .move (.t 6)⟩,
 .one ⟨some 66, .move (.c (.int .i64 0))⟩])
 (.block 1 mat_Mul_l2))
 (.seq (.region [.one ⟨some 110, .load 2 true .any (.t 10)⟩,
 .one ⟨none, .store 2 (.t 4) (.t 110)⟩,
 .one ⟨some 5, .move (.c (.int .i64 0))⟩])
 .ret)))))))) }
/-- gradus/gate.Step: number 157 -/
def gate_Step_b0 : ACode :=
 (.seq (.region [.one ⟨some 31, .bin .lss 0 (.t 30) (.t 29)⟩])
 (.seq (.cond (.t 31) .skip
 (.exit 1))
 (.seq (.block 2 (.seq (.region [.one ⟨some 32, .move (.t 30)⟩,
 .one ⟨some 33, .indexAddr 1 (.t 28) (.t 30)⟩,
 .one ⟨some 34, .load 1 false .any (.t 33)⟩,
 .one ⟨some 7, .move (.t 32)⟩,
 .one ⟨some 8, .move (.t 34)⟩])
 (.seq (.region [.one ⟨some 35, .move (.t 8)⟩,
 .one ⟨some 36, .bin .gtr 0 (.t 35) (.c (.int .i64 0))⟩])
 (.cond (.t 36) (.region [.one ⟨some 37, .fieldAddr 1 (.t 6)⟩,
 .one ⟨some 38, .load 1 false .any (.t 37)⟩,
 .one ⟨some 39, .move (.t 7)⟩,
 .one ⟨some 40, .fieldAddr 1 (.t 3)⟩,
 .one ⟨some 41, .load 1 false .any (.t 40)⟩,
 .one ⟨some 42, .move (.t 7)⟩,
 .one ⟨some 43, .indexAddr 1 (.t 41) (.t 42)⟩,
 .one ⟨some 44, .load 1 false .any (.t 43)⟩,
 .one ⟨some 45, .indexAddr 1 (.t 38) (.t 39)⟩,
 .one ⟨none, .store 1 (.t 45) (.t 44)⟩])
 .skip))))
 (.region [.one ⟨some 46, .bin .add 0 (.t 30) (.c (.int .i64 1))⟩,
 .one ⟨some 30, .move (.t 46)⟩]))))
def gate_Step_l0 : ACode :=
 (.loop [(3, .any), (4, .any), (6, .any), (28, .any), (29, .any), (30, .any)] [(1, [(4, .any), (6, .any)])] [] gate_Step_b0)
def gate_Step : AFunc := { params := [.any, .any], results := [.cell 4 2 true, .tmp 5], body :=
 (.seq (.region [.one ⟨some 2, .box (.t 0)⟩,
 .one ⟨some 3, .box (.t 1)⟩,
 .one ⟨some 4, .alloc [.nil, .nil]⟩,
 .one ⟨some 5, .move (.c (.int .i64 0))⟩])
 (.seq (.block 0 (.seq (.region [.one ⟨some 10, .load 2 true .any (.t 2)⟩,
 .one ⟨some 11, .load 2 true .any (.t 3)⟩,
 .one ⟨some 12, .buildSlice 2 2 [.nil, .nil] [(0, .t 10), (1, .t 11)]⟩,
 .one ⟨some 13, .call false .any 118 [.t 12]⟩,
 .one ⟨some 14, .un .not (.t 13)⟩,
 .one ⟨some 9, .move (.t 14)⟩])
 (.cond (.t 9) (.seq (.region [.one ⟨some 15, .build [.nil, .nil] []⟩,
 .one ⟨none, .store 2 (.t 4) (.t 15)⟩,
 .one ⟨some 5, .move (.c (.int .i64 1))⟩])
 .ret)
 (.seq (.region [.one ⟨some 17, .fieldAddr 0 (.t 2)⟩,
 .one ⟨some 18, .load 1 false .any (.t 17)⟩,
 .one ⟨some 19, .fieldAddr 0 (.t 3)⟩,
 .one ⟨some 20, .load 1 false .any (.t 19)⟩,
 .one ⟨some 21, .call false .any 98 [.t 18, .t 20]⟩,
 .one ⟨some 22, .un .not (.t 21)⟩,
 .one ⟨some 16, .move (.t 22)⟩])
 (.cond (.t 16) (.seq (.region [.one ⟨some 23, .build [.nil, .nil] []⟩,
 .one ⟨none, .store 2 (.t 4) (.t 23)⟩,
 .one ⟨some 5, .move (.c (.int .i64 4))⟩])
 .ret)
 .skip)))))
 (.seq (.region [.one ⟨some 24, .fieldAddr 0 (.t 2)⟩,
 .one ⟨some 25, .load 1 false .any (.t 24)⟩,
 .one ⟨some 26, .call false .any 152 [.t 25]⟩,
 .one ⟨some 6, .alloc [.nil, .nil]⟩,
 .one ⟨none, .store 2 (.t 6) (.t 26)⟩])
 (.seq (.seq (.region [.one ⟨some 27, .fieldAddr 1 (.t 2)⟩,
 .one ⟨some 28, .load 1 false .any (.t 27)⟩,
 .one ⟨some 29, .len (.t 28)⟩,
 .one ⟨some 30, .move (.c (.int .i64 0))⟩])
 (.block 1 gate_Step_l0))
 (.seq (.region [.one ⟨some 47, .load 2 true .any (.t 6)⟩,
 .one ⟨none, .store 2 (.t 4) (.t 47)⟩,
 .one ⟨some 5, .move (.c (.int .i64 0))⟩])
 .ret))))) }
end C
end Go.AM
