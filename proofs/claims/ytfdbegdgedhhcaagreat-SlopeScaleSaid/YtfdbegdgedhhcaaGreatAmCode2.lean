/- PRINTED by wip/tools/gen.py out of the program's form in the model: its functions as the abstract machine's code. -/
import Derived.Test.YtfdbegdgedhhcaaGreatAmCore
set_option linter.all false
namespace Go.AM
namespace C
set_option maxRecDepth 100000
/-- gradus/gradusref1.Mat: number 255 -/
def ref1_Mat_b0 : ACode :=
 (.seq (.seq (.region [.one ⟨some 36, .move (.t 9)⟩,
 .one ⟨some 37, .fieldAddr 0 (.t 2)⟩,
 .one ⟨some 38, .load 1 false .any (.t 37)⟩,
 .one ⟨some 39, .indexAddr 1 (.t 38) (.c (.int .i64 1))⟩,
 .one ⟨some 40, .load 1 false .any (.t 39)⟩,
 .one ⟨some 41, .bin .lss 0 (.t 36) (.t 40)⟩])
 (.cond (.t 41) .skip
 (.exit 4)))
 (.seq (.block 5 (.region [.one ⟨some 44, .move (.t 8)⟩,
 .one ⟨some 45, .fieldAddr 1 (.t 2)⟩,
 .one ⟨some 46, .load 1 false .any (.t 45)⟩,
 .one ⟨some 47, .move (.t 6)⟩,
 .one ⟨some 48, .fieldAddr 0 (.t 2)⟩,
 .one ⟨some 49, .load 1 false .any (.t 48)⟩,
 .one ⟨some 50, .indexAddr 1 (.t 49) (.c (.int .i64 1))⟩,
 .one ⟨some 51, .load 1 false .any (.t 50)⟩,
 .one ⟨some 52, .bin .mul 0 (.t 47) (.t 51)⟩,
 .one ⟨some 53, .move (.t 9)⟩,
 .one ⟨some 54, .bin .add 0 (.t 52) (.t 53)⟩,
 .one ⟨some 55, .indexAddr 1 (.t 46) (.t 54)⟩,
 .one ⟨some 56, .load 1 false .any (.t 55)⟩,
 .one ⟨some 57, .fieldAddr 1 (.t 3)⟩,
 .one ⟨some 58, .load 1 false .any (.t 57)⟩,
 .one ⟨some 59, .move (.t 9)⟩,
 .one ⟨some 60, .fieldAddr 0 (.t 3)⟩,
 .one ⟨some 61, .load 1 false .any (.t 60)⟩,
 .one ⟨some 62, .indexAddr 1 (.t 61) (.c (.int .i64 1))⟩,
 .one ⟨some 63, .load 1 false .any (.t 62)⟩,
 .one ⟨some 64, .bin .mul 0 (.t 59) (.t 63)⟩,
 .one ⟨some 65, .move (.t 7)⟩,
 .one ⟨some 66, .bin .add 0 (.t 64) (.t 65)⟩,
 .one ⟨some 67, .indexAddr 1 (.t 58) (.t 66)⟩,
 .one ⟨some 68, .load 1 false .any (.t 67)⟩,
 .one ⟨some 69, .bin .mul 0 (.t 56) (.t 68)⟩,
 .one ⟨some 70, .bin .add 0 (.t 44) (.t 69)⟩,
 .one ⟨some 8, .move (.t 70)⟩]))
 (.region [.one ⟨some 42, .move (.t 9)⟩,
 .one ⟨some 43, .bin .add 0 (.t 42) (.c (.int .i64 1))⟩,
 .one ⟨some 9, .move (.t 43)⟩])))
def ref1_Mat_l0 : ACode :=
 (.loop [(2, .any), (3, .any), (4, .any), (5, .any), (6, .any), (7, .any), (8, .any), (9, .any)] [(4, [(2, .any), (3, .any), (4, .any), (5, .any), (6, .any), (7, .any), (8, .any)])] [] ref1_Mat_b0)
def ref1_Mat_b1 : ACode :=
 (.seq (.seq (.region [.one ⟨some 28, .move (.t 7)⟩,
 .one ⟨some 29, .fieldAddr 0 (.t 3)⟩,
 .one ⟨some 30, .load 1 false .any (.t 29)⟩,
 .one ⟨some 31, .indexAddr 1 (.t 30) (.c (.int .i64 1))⟩,
 .one ⟨some 32, .load 1 false .any (.t 31)⟩,
 .one ⟨some 33, .bin .lss 0 (.t 28) (.t 32)⟩])
 (.cond (.t 33) .skip
 (.exit 2)))
 (.seq (.block 3 (.seq (.region [.one ⟨some 8, .move (.c (.int .i64 0))⟩])
 (.seq (.seq (.region [.one ⟨some 9, .move (.c (.int .i64 0))⟩])
 (.block 4 ref1_Mat_l0))
 (.region [.one ⟨some 71, .fieldAddr 1 (.t 5)⟩,
 .one ⟨some 72, .load 1 false .any (.t 71)⟩,
 .one ⟨some 73, .move (.t 6)⟩,
 .one ⟨some 74, .fieldAddr 0 (.t 3)⟩,
 .one ⟨some 75, .load 1 false .any (.t 74)⟩,
 .one ⟨some 76, .indexAddr 1 (.t 75) (.c (.int .i64 1))⟩,
 .one ⟨some 77, .load 1 false .any (.t 76)⟩,
 .one ⟨some 78, .bin .mul 0 (.t 73) (.t 77)⟩,
 .one ⟨some 79, .move (.t 7)⟩,
 .one ⟨some 80, .bin .add 0 (.t 78) (.t 79)⟩,
 .one ⟨some 81, .move (.t 8)⟩,
 .one ⟨some 82, .indexAddr 1 (.t 72) (.t 80)⟩,
 .one ⟨none, .store 1 (.t 82) (.t 81)⟩]))))
 (.region [.one ⟨some 34, .move (.t 7)⟩,
 .one ⟨some 35, .bin .add 0 (.t 34) (.c (.int .i64 1))⟩,
 .one ⟨some 7, .move (.t 35)⟩])))
def ref1_Mat_l1 : ACode :=
 (.loop [(2, .any), (3, .any), (4, .any), (5, .any), (6, .any), (7, .any)] [(2, [(2, .any), (3, .any), (4, .any), (5, .any), (6, .any)])] [] ref1_Mat_b1)
def ref1_Mat_b2 : ACode :=
 (.seq (.seq (.region [.one ⟨some 20, .move (.t 6)⟩,
 .one ⟨some 21, .fieldAddr 0 (.t 2)⟩,
 .one ⟨some 22, .load 1 false .any (.t 21)⟩,
 .one ⟨some 23, .indexAddr 1 (.t 22) (.c (.int .i64 0))⟩,
 .one ⟨some 24, .load 1 false .any (.t 23)⟩,
 .one ⟨some 25, .bin .lss 0 (.t 20) (.t 24)⟩])
 (.cond (.t 25) .skip
 (.exit 0)))
 (.seq (.block 1 (.seq (.region [.one ⟨some 7, .move (.c (.int .i64 0))⟩])
 (.block 2 ref1_Mat_l1)))
 (.region [.one ⟨some 26, .move (.t 6)⟩,
 .one ⟨some 27, .bin .add 0 (.t 26) (.c (.int .i64 1))⟩,
 .one ⟨some 6, .move (.t 27)⟩])))
def ref1_Mat_l2 : ACode :=
 (.loop [(2, .any), (3, .any), (4, .any), (5, .any), (6, .any)] [(0, [(4, .any), (5, .any)])] [] ref1_Mat_b2)
def ref1_Mat : AFunc := { params := [.any, .any], results := [.cell 4 2 true], body :=
 (.seq (.region [.one ⟨some 2, .box (.t 0)⟩,
 .one ⟨some 3, .box (.t 1)⟩,
 .one ⟨some 4, .alloc [.nil, .nil]⟩])
 (.seq (.region [.one ⟨some 10, .fieldAddr 0 (.t 2)⟩,
 .one ⟨some 11, .load 1 false .any (.t 10)⟩,
 .one ⟨some 12, .indexAddr 1 (.t 11) (.c (.int .i64 0))⟩,
 .one ⟨some 13, .load 1 false .any (.t 12)⟩,
 .one ⟨some 14, .fieldAddr 0 (.t 3)⟩,
 .one ⟨some 15, .load 1 false .any (.t 14)⟩,
 .one ⟨some 16, .indexAddr 1 (.t 15) (.c (.int .i64 1))⟩,
 .one ⟨some 17, .load 1 false .any (.t 16)⟩,
 .one ⟨some 18, .buildSlice 1 2 [.int .i64 0] [(0, .t 13), (1, .t 17)]⟩,
 .one ⟨some 19, .call true .any 240 [.t 18, .c (.int .i64 0)]⟩,
 .one ⟨some 5, .alloc [.nil, .nil]⟩,
 .one ⟨none, .store 2 (.t 5) (.t 19)⟩])
 (.seq (.seq (.region [.one ⟨some 6, .move (.c (.int .i64 0))⟩])
 (.block 0 ref1_Mat_l2))
 (.seq (.region [.one ⟨some 83, .load 2 true .any (.t 5)⟩,
 .one ⟨none, .store 2 (.t 4) (.t 83)⟩])
 .ret)))) }
/-- gradus/gradusref1.Turn: number 256 -/
def ref1_Turn_b0 : ACode :=
 (.seq (.seq (.region [.one ⟨some 24, .move (.t 5)⟩,
 .one ⟨some 25, .fieldAddr 0 (.t 1)⟩,
 .one ⟨some 26, .load 1 false .any (.t 25)⟩,
 .one ⟨some 27, .indexAddr 1 (.t 26) (.c (.int .i64 1))⟩,
 .one ⟨some 28, .load 1 false .any (.t 27)⟩,
 .one ⟨some 29, .bin .lss 0 (.t 24) (.t 28)⟩])
 (.cond (.t 29) .skip
 (.exit 2)))
 (.seq (.block 3 (.region [.one ⟨some 32, .fieldAddr 1 (.t 3)⟩,
 .one ⟨some 33, .load 1 false .any (.t 32)⟩,
 .one ⟨some 34, .move (.t 5)⟩,
 .one ⟨some 35, .fieldAddr 0 (.t 1)⟩,
 .one ⟨some 36, .load 1 false .any (.t 35)⟩,
 .one ⟨some 37, .indexAddr 1 (.t 36) (.c (.int .i64 0))⟩,
 .one ⟨some 38, .load 1 false .any (.t 37)⟩,
 .one ⟨some 39, .bin .mul 0 (.t 34) (.t 38)⟩,
 .one ⟨some 40, .move (.t 4)⟩,
 .one ⟨some 41, .bin .add 0 (.t 39) (.t 40)⟩,
 .one ⟨some 42, .fieldAddr 1 (.t 1)⟩,
 .one ⟨some 43, .load 1 false .any (.t 42)⟩,
 .one ⟨some 44, .move (.t 4)⟩,
 .one ⟨some 45, .fieldAddr 0 (.t 1)⟩,
 .one ⟨some 46, .load 1 false .any (.t 45)⟩,
 .one ⟨some 47, .indexAddr 1 (.t 46) (.c (.int .i64 1))⟩,
 .one ⟨some 48, .load 1 false .any (.t 47)⟩,
 .one ⟨some 49, .bin .mul 0 (.t 44) (.t 48)⟩,
 .one ⟨some 50, .move (.t 5)⟩,
 .one ⟨some 51, .bin .add 0 (.t 49) (.t 50)⟩,
 .one ⟨some 52, .indexAddr 1 (.t 43) (.t 51)⟩,
 .one ⟨some 53, .load 1 false .any (.t 52)⟩,
 .one ⟨some 54, .indexAddr 1 (.t 33) (.t 41)⟩,
 .one ⟨none, .store 1 (.t 54) (.t 53)⟩]))
 (.region [.one ⟨some 30, .move (.t 5)⟩,
 .one ⟨some 31, .bin .add 0 (.t 30) (.c (.int .i64 1))⟩,
 .one ⟨some 5, .move (.t 31)⟩])))
def ref1_Turn_l0 : ACode :=
 (.loop [(1, .any), (2, .any), (3, .any), (4, .any), (5, .any)] [(2, [(1, .any), (2, .any), (3, .any), (4, .any)])] [] ref1_Turn_b0)
def ref1_Turn_b1 : ACode :=
 (.seq (.seq (.region [.one ⟨some 16, .move (.t 4)⟩,
 .one ⟨some 17, .fieldAddr 0 (.t 1)⟩,
 .one ⟨some 18, .load 1 false .any (.t 17)⟩,
 .one ⟨some 19, .indexAddr 1 (.t 18) (.c (.int .i64 0))⟩,
 .one ⟨some 20, .load 1 false .any (.t 19)⟩,
 .one ⟨some 21, .bin .lss 0 (.t 16) (.t 20)⟩])
 (.cond (.t 21) .skip
 (.exit 0)))
 (.seq (.block 1 (.seq (.region [.one ⟨some 5, .move (.c (.int .i64 0))⟩])
 (.block 2 ref1_Turn_l0)))
 (.region [.one ⟨some 22, .move (.t 4)⟩,
 .one ⟨some 23, .bin .add 0 (.t 22) (.c (.int .i64 1))⟩,
 .one ⟨some 4, .move (.t 23)⟩])))
def ref1_Turn_l1 : ACode :=
 (.loop [(1, .any), (2, .any), (3, .any), (4, .any)] [(0, [(2, .any), (3, .any)])] [] ref1_Turn_b1)
def ref1_Turn : AFunc := { params := [.any], results := [.cell 2 2 true], body :=
 (.seq (.region [.one ⟨some 1, .box (.t 0)⟩,
 .one ⟨some 2, .alloc [.nil, .nil]⟩])
 (.seq (.region [.one ⟨some 6, .fieldAddr 0 (.t 1)⟩,
 .one ⟨some 7, .load 1 false .any (.t 6)⟩,
 .one ⟨some 8, .indexAddr 1 (.t 7) (.c (.int .i64 1))⟩,
 .one ⟨some 9, .load 1 false .any (.t 8)⟩,
 .one ⟨some 10, .fieldAddr 0 (.t 1)⟩,
 .one ⟨some 11, .load 1 false .any (.t 10)⟩,
 .one ⟨some 12, .indexAddr 1 (.t 11) (.c (.int .i64 0))⟩,
 .one ⟨some 13, .load 1 false .any (.t 12)⟩,
 .one ⟨some 14, .buildSlice 1 2 [.int .i64 0] [(0, .t 9), (1, .t 13)]⟩,
 .one ⟨some 15, .call true .any 240 [.t 14, .c (.int .i64 0)]⟩,
 .one ⟨some 3, .alloc [.nil, .nil]⟩,
 .one ⟨none, .store 2 (.t 3) (.t 15)⟩])
 (.seq (.seq (.region [.one ⟨some 4, .move (.c (.int .i64 0))⟩])
 (.block 0 ref1_Turn_l1))
 (.seq (.region [.one ⟨some 55, .load 2 true .any (.t 3)⟩,
 .one ⟨none, .store 2 (.t 2) (.t 55)⟩])
 .ret)))) }
/-- gradus/gradusref1.Wide: number 257 -/
def ref1_Wide_b0 : ACode :=
 (.seq (.seq (.region [.one ⟨some 9, .move (.t 6)⟩,
 .one ⟨some 10, .fieldAddr 1 (.t 5)⟩,
 .one ⟨some 11, .load 1 false .any (.t 10)⟩,
 .one ⟨some 12, .len (.t 11)⟩,
 .one ⟨some 13, .bin .lss 0 (.t 9) (.t 12)⟩])
 (.cond (.t 13) .skip
 (.exit 0)))
 (.seq (.block 1 (.region [.one ⟨some 16, .fieldAddr 1 (.t 5)⟩,
 .one ⟨some 17, .load 1 false .any (.t 16)⟩,
 .one ⟨some 18, .move (.t 6)⟩,
 .one ⟨some 19, .fieldAddr 1 (.t 2)⟩,
 .one ⟨some 20, .load 1 false .any (.t 19)⟩,
 .one ⟨some 21, .fieldAddr 0 (.t 2)⟩,
 .one ⟨some 22, .load 1 false .any (.t 21)⟩,
 .one ⟨some 23, .fieldAddr 0 (.t 2)⟩,
 .one ⟨some 24, .load 1 false .any (.t 23)⟩,
 .one ⟨some 25, .move (.t 1)⟩,
 .one ⟨some 26, .move (.t 6)⟩,
 .one ⟨some 27, .call true .any 259 [.t 25, .t 26]⟩,
 .one ⟨some 28, .call true .any 260 [.t 24, .t 27]⟩,
 .one ⟨some 29, .call true .any 261 [.t 22, .t 28]⟩,
 .one ⟨some 30, .indexAddr 1 (.t 20) (.t 29)⟩,
 .one ⟨some 31, .load 1 false .any (.t 30)⟩,
 .one ⟨some 32, .indexAddr 1 (.t 17) (.t 18)⟩,
 .one ⟨none, .store 1 (.t 32) (.t 31)⟩]))
 (.region [.one ⟨some 14, .move (.t 6)⟩,
 .one ⟨some 15, .bin .add 0 (.t 14) (.c (.int .i64 1))⟩,
 .one ⟨some 6, .move (.t 15)⟩])))
def ref1_Wide_l0 : ACode :=
 (.loop [(1, .any), (2, .any), (4, .any), (5, .any), (6, .any)] [(0, [(4, .any), (5, .any)])] [] ref1_Wide_b0)
def ref1_Wide : AFunc := { params := [.any, .any], results := [.cell 4 2 true], body :=
 (.seq (.region [.one ⟨some 2, .box (.t 0)⟩,
 .one ⟨some 4, .alloc [.nil, .nil]⟩])
 (.seq (.region [.one ⟨some 7, .move (.t 1)⟩,
 .one ⟨some 8, .call false .any 240 [.t 7, .c (.int .i64 0)]⟩,
 .one ⟨some 5, .alloc [.nil, .nil]⟩,
 .one ⟨none, .store 2 (.t 5) (.t 8)⟩])
 (.seq (.seq (.region [.one ⟨some 6, .move (.c (.int .i64 0))⟩])
 (.block 0 ref1_Wide_l0))
 (.seq (.region [.one ⟨some 33, .load 2 true .any (.t 5)⟩,
 .one ⟨none, .store 2 (.t 4) (.t 33)⟩])
 .ret)))) }
/-- gradus/gradusref1.Sum: number 258 -/
def ref1_Sum_b0 : ACode :=
 (.seq (.seq (.region [.one ⟨some 10, .move (.t 6)⟩,
 .one ⟨some 11, .fieldAddr 1 (.t 2)⟩,
 .one ⟨some 12, .load 1 false .any (.t 11)⟩,
 .one ⟨some 13, .len (.t 12)⟩,
 .one ⟨some 14, .bin .lss 0 (.t 10) (.t 13)⟩])
 (.cond (.t 14) .skip
 (.exit 0)))
 (.seq (.block 1 (.seq (.region [.one ⟨some 17, .move (.t 1)⟩,
 .one ⟨some 18, .move (.t 1)⟩,
 .one ⟨some 19, .fieldAddr 0 (.t 2)⟩,
 .one ⟨some 20, .load 1 false .any (.t 19)⟩,
 .one ⟨some 21, .move (.t 6)⟩,
 .one ⟨some 22, .call false .any 259 [.t 20, .t 21]⟩,
 .one ⟨some 23, .call false .any 260 [.t 18, .t 22]⟩,
 .one ⟨some 24, .call false .any 261 [.t 17, .t 23]⟩,
 .one ⟨some 7, .move (.t 24)⟩])
 (.region [.one ⟨some 25, .fieldAddr 1 (.t 5)⟩,
 .one ⟨some 26, .load 1 false .any (.t 25)⟩,
 .one ⟨some 27, .move (.t 7)⟩,
 .one ⟨some 28, .fieldAddr 1 (.t 5)⟩,
 .one ⟨some 29, .load 1 false .any (.t 28)⟩,
 .one ⟨some 30, .move (.t 7)⟩,
 .one ⟨some 31, .indexAddr 1 (.t 29) (.t 30)⟩,
 .one ⟨some 32, .load 1 false .any (.t 31)⟩,
 .one ⟨some 33, .fieldAddr 1 (.t 2)⟩,
 .one ⟨some 34, .load 1 false .any (.t 33)⟩,
 .one ⟨some 35, .move (.t 6)⟩,
 .one ⟨some 36, .indexAddr 1 (.t 34) (.t 35)⟩,
 .one ⟨some 37, .load 1 false .any (.t 36)⟩,
 .one ⟨some 38, .bin .add 0 (.t 32) (.t 37)⟩,
 .one ⟨some 39, .indexAddr 1 (.t 26) (.t 27)⟩,
 .one ⟨none, .store 1 (.t 39) (.t 38)⟩])))
 (.region [.one ⟨some 15, .move (.t 6)⟩,
 .one ⟨some 16, .bin .add 0 (.t 15) (.c (.int .i64 1))⟩,
 .one ⟨some 6, .move (.t 16)⟩])))
def ref1_Sum_l0 : ACode :=
 (.loop [(1, .any), (2, .any), (4, .any), (5, .any), (6, .any)] [(0, [(4, .any), (5, .any)])] [] ref1_Sum_b0)
def ref1_Sum : AFunc := { params := [.any, .any], results := [.cell 4 2 true], body :=
 (.seq (.region [.one ⟨some 2, .box (.t 0)⟩,
 .one ⟨some 4, .alloc [.nil, .nil]⟩])
 (.seq (.region [.one ⟨some 8, .move (.t 1)⟩,
 .one ⟨some 9, .call false .any 240 [.t 8, .c (.int .i64 0)]⟩,
 .one ⟨some 5, .alloc [.nil, .nil]⟩,
 .one ⟨none, .store 2 (.t 5) (.t 9)⟩])
 (.seq (.seq (.region [.one ⟨some 6, .move (.c (.int .i64 0))⟩])
 (.block 0 ref1_Sum_l0))
 (.seq (.region [.one ⟨some 40, .load 2 true .any (.t 5)⟩,
 .one ⟨none, .store 2 (.t 4) (.t 40)⟩])
 .ret)))) }
/-- gradus/gradusref1.Where: number 259 -/
def ref1_Where_b0 : ACode :=
 (.seq (.seq (.region [.one ⟨some 13, .move (.t 6)⟩,
 .one ⟨some 14, .bin .geq 0 (.t 13) (.c (.int .i64 0))⟩])
 (.cond (.t 14) .skip
 (.exit 0)))
 (.seq (.block 1 (.seq (.region [.one ⟨some 17, .move (.t 5)⟩,
 .one ⟨some 18, .move (.t 6)⟩,
 .one ⟨some 19, .move (.t 1)⟩,
 .one ⟨some 20, .move (.t 0)⟩,
 .one ⟨some 21, .move (.t 6)⟩,
 .one ⟨some 22, .indexAddr 1 (.t 20) (.t 21)⟩,
 .one ⟨some 23, .load 1 false .any (.t 22)⟩,
 .one ⟨some 24, .bin .rem 0 (.t 19) (.t 23)⟩,
 .one ⟨some 25, .indexAddr 1 (.t 17) (.t 18)⟩,
 .one ⟨none, .store 1 (.t 25) (.t 24)⟩])
 (.region [.one ⟨some 26, .move (.t 1)⟩,
 .one ⟨some 27, .move (.t 0)⟩,
 .one ⟨some 28, .move (.t 6)⟩,
 .one ⟨some 29, .indexAddr 1 (.t 27) (.t 28)⟩,
 .one ⟨some 30, .load 1 false .any (.t 29)⟩,
 .one ⟨some 31, .bin .quo 0 (.t 26) (.t 30)⟩,
 .one ⟨some 1, .move (.t 31)⟩])))
 (.region [.one ⟨some 15, .move (.t 6)⟩,
 .one ⟨some 16, .bin .sub 0 (.t 15) (.c (.int .i64 1))⟩,
 .one ⟨some 6, .move (.t 16)⟩])))
def ref1_Where_l0 : ACode :=
 (.loop [(0, .any), (1, .any), (5, .any), (6, .any)] [(0, [(5, .any)])] [] ref1_Where_b0)
def ref1_Where : AFunc := { params := [.any, .any], results := [.tmp 4], body :=
 (.seq (.region [.one ⟨some 4, .move (.c (.nil))⟩])
 (.seq (.region [.one ⟨some 7, .move (.t 0)⟩,
 .one ⟨some 8, .len (.t 7)⟩,
 .one ⟨some 9, .makeSlice 1 8 [.int .i64 0] (.t 8)⟩,
 .one ⟨some 5, .move (.t 9)⟩])
 (.seq (.seq (.region [.one ⟨some 10, .move (.t 0)⟩,
 .one ⟨some 11, .len (.t 10)⟩,
 .one ⟨some 12, .bin .sub 0 (.t 11) (.c (.int .i64 1))⟩,
 .one ⟨some 6, .move (.t 12)⟩])
 (.block 0 ref1_Where_l0))
 (.seq (.region [.one ⟨some 32, .move (.t 5)⟩,
 .one ⟨some 4, .move (.t 32)⟩])
 .ret)))) }
/-- gradus/gradusref1.narrow: number 260 -/
def ref1_narrow_b0 : ACode :=
 (.seq (.seq (.region [.one ⟨some 9, .move (.t 6)⟩,
 .one ⟨some 10, .move (.t 5)⟩,
 .one ⟨some 11, .len (.t 10)⟩,
 .one ⟨some 12, .bin .lss 0 (.t 9) (.t 11)⟩])
 (.cond (.t 12) .skip
 (.exit 0)))
 (.seq (.block 1 (.seq (.region [.one ⟨some 15, .move (.t 0)⟩,
 .one ⟨some 16, .move (.t 6)⟩,
 .one ⟨some 17, .indexAddr 1 (.t 15) (.t 16)⟩,
 .one ⟨some 18, .load 1 false .any (.t 17)⟩,
 .one ⟨some 19, .bin .eql 0 (.t 18) (.c (.int .i64 1))⟩])
 (.cond (.t 19) (.region [.one ⟨some 20, .move (.t 5)⟩,
 .one ⟨some 21, .move (.t 6)⟩,
 .one ⟨some 22, .indexAddr 1 (.t 20) (.t 21)⟩,
 .one ⟨none, .store 1 (.t 22) (.c (.int .i64 0))⟩])
 .skip)))
 (.region [.one ⟨some 13, .move (.t 6)⟩,
 .one ⟨some 14, .bin .add 0 (.t 13) (.c (.int .i64 1))⟩,
 .one ⟨some 6, .move (.t 14)⟩])))
def ref1_narrow_l0 : ACode :=
 (.loop [(0, .any), (5, .any), (6, .any)] [(0, [(5, .any)])] [] ref1_narrow_b0)
def ref1_narrow : AFunc := { params := [.any, .any], results := [.tmp 4], body :=
 (.seq (.region [.one ⟨some 4, .move (.c (.nil))⟩])
 (.seq (.region [.one ⟨some 7, .move (.t 1)⟩,
 .one ⟨some 8, .call false .any 25 [.t 7]⟩,
 .one ⟨some 5, .move (.t 8)⟩])
 (.seq (.seq (.region [.one ⟨some 6, .move (.c (.int .i64 0))⟩])
 (.block 0 ref1_narrow_l0))
 (.seq (.region [.one ⟨some 23, .move (.t 5)⟩,
 .one ⟨some 4, .move (.t 23)⟩])
 .ret)))) }
/-- gradus/gradusref1.At: number 261 -/
def ref1_At_b0 : ACode :=
 (.seq (.seq (.region [.one ⟨some 7, .move (.t 6)⟩,
 .one ⟨some 8, .move (.t 0)⟩,
 .one ⟨some 9, .len (.t 8)⟩,
 .one ⟨some 10, .bin .lss 0 (.t 7) (.t 9)⟩])
 (.cond (.t 10) .skip
 (.exit 0)))
 (.seq (.block 1 (.region [.one ⟨some 13, .move (.t 5)⟩,
 .one ⟨some 14, .move (.t 0)⟩,
 .one ⟨some 15, .move (.t 6)⟩,
 .one ⟨some 16, .indexAddr 1 (.t 14) (.t 15)⟩,
 .one ⟨some 17, .load 1 false .any (.t 16)⟩,
 .one ⟨some 18, .bin .mul 0 (.t 13) (.t 17)⟩,
 .one ⟨some 19, .move (.t 1)⟩,
 .one ⟨some 20, .move (.t 6)⟩,
 .one ⟨some 21, .indexAddr 1 (.t 19) (.t 20)⟩,
 .one ⟨some 22, .load 1 false .any (.t 21)⟩,
 .one ⟨some 23, .bin .add 0 (.t 18) (.t 22)⟩,
 .one ⟨some 5, .move (.t 23)⟩]))
 (.region [.one ⟨some 11, .move (.t 6)⟩,
 .one ⟨some 12, .bin .add 0 (.t 11) (.c (.int .i64 1))⟩,
 .one ⟨some 6, .move (.t 12)⟩])))
def ref1_At_l0 : ACode :=
 (.loop [(0, .any), (1, .any), (5, .any), (6, .any)] [(0, [(5, .any)])] [] ref1_At_b0)
def ref1_At : AFunc := { params := [.any, .any], results := [.tmp 4], body :=
 (.seq (.region [.one ⟨some 4, .move (.c (.int .i64 0))⟩])
 (.seq (.region [.one ⟨some 5, .move (.c (.int .i64 0))⟩])
 (.seq (.seq (.region [.one ⟨some 6, .move (.c (.int .i64 0))⟩])
 (.block 0 ref1_At_l0))
 (.seq (.region [.one ⟨some 24, .move (.t 5)⟩,
 .one ⟨some 4, .move (.t 24)⟩])
 .ret)))) }
end C
end Go.AM
