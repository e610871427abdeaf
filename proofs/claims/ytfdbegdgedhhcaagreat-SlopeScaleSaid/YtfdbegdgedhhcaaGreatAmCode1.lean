/- PRINTED by wip/tools/gen.py out of the program's form in the model: its functions as the abstract machine's code. -/
import Derived.Test.YtfdbegdgedhhcaaGreatAmCore
set_option linter.all false
namespace Go.AM
namespace C
set_option maxRecDepth 100000
/-- gradus/gate.Pick: number 158 -/
def gate_Pick_b0 : ACode :=
 (.seq (.region [.one ⟨some 42, .bin .lss 0 (.t 41) (.t 40)⟩])
 (.seq (.cond (.t 42) .skip
 (.exit 1))
 (.seq (.block 2 (.seq (.region [.one ⟨some 43, .move (.t 41)⟩,
 .one ⟨some 44, .indexAddr 1 (.t 39) (.t 41)⟩,
 .one ⟨some 45, .load 1 false .any (.t 44)⟩,
 .one ⟨some 11, .move (.t 43)⟩,
 .one ⟨some 12, .move (.t 45)⟩])
 (.region [.one ⟨some 46, .fieldAddr 1 (.t 10)⟩,
 .one ⟨some 47, .load 1 false .any (.t 46)⟩,
 .one ⟨some 48, .move (.t 11)⟩,
 .one ⟨some 49, .move (.t 2)⟩,
 .one ⟨some 50, .bin .mul 0 (.t 48) (.t 49)⟩,
 .one ⟨some 51, .fieldAddr 1 (.t 3)⟩,
 .one ⟨some 52, .load 1 false .any (.t 51)⟩,
 .one ⟨some 53, .move (.t 11)⟩,
 .one ⟨some 54, .move (.t 2)⟩,
 .one ⟨some 55, .bin .mul 0 (.t 53) (.t 54)⟩,
 .one ⟨some 56, .move (.t 11)⟩,
 .one ⟨some 57, .move (.t 2)⟩,
 .one ⟨some 58, .bin .mul 0 (.t 56) (.t 57)⟩,
 .one ⟨some 59, .move (.t 2)⟩,
 .one ⟨some 60, .bin .add 0 (.t 58) (.t 59)⟩,
 .one ⟨some 61, .cut 1 (.t 52) (some (.t 55)) (some (.t 60))⟩,
 .one ⟨some 62, .call true .any 185 [.t 61]⟩,
 .one ⟨some 63, .bin .add 0 (.t 50) (.t 62)⟩,
 .one ⟨some 64, .move (.t 12)⟩,
 .one ⟨some 65, .indexAddr 1 (.t 47) (.t 63)⟩,
 .one ⟨none, .store 1 (.t 65) (.t 64)⟩])))
 (.region [.one ⟨some 66, .bin .add 0 (.t 41) (.c (.int .i64 1))⟩,
 .one ⟨some 41, .move (.t 66)⟩]))))
def gate_Pick_l0 : ACode :=
 (.loop [(2, .any), (3, .any), (6, .any), (10, .any), (39, .any), (40, .any), (41, .any)] [(1, [(6, .any), (10, .any)])] [] gate_Pick_b0)
def gate_Pick : AFunc := { params := [.any, .any, .any], results := [.cell 6 2 true, .tmp 7], body :=
 (.seq (.region [.one ⟨some 3, .box (.t 0)⟩,
 .one ⟨some 4, .box (.t 1)⟩,
 .one ⟨some 6, .alloc [.nil, .nil]⟩,
 .one ⟨some 7, .move (.c (.int .i64 0))⟩])
 (.seq (.seq (.region [.one ⟨some 13, .load 2 true .any (.t 4)⟩,
 .one ⟨some 14, .call false .any 151 [.t 13]⟩,
 .one ⟨some 15, .un .not (.t 14)⟩])
 (.cond (.t 15) (.seq (.region [.one ⟨some 16, .build [.nil, .nil] []⟩,
 .one ⟨none, .store 2 (.t 6) (.t 16)⟩,
 .one ⟨some 7, .move (.c (.int .i64 1))⟩])
 .ret)
 .skip))
 (.seq (.region [.one ⟨some 18, .load 2 true .any (.t 3)⟩,
 .one ⟨some 19, .move (.t 2)⟩,
 .one ⟨some 20, .call false .any 184 [.t 18, .t 19]⟩,
 .one ⟨some 17, .move (.t 20)⟩,
 .one ⟨some 21, .extract (.t 17) 0⟩,
 .one ⟨some 22, .extract (.t 17) 1⟩,
 .one ⟨some 8, .move (.t 21)⟩,
 .one ⟨some 9, .move (.t 22)⟩])
 (.seq (.block 0 (.seq (.region [.one ⟨some 24, .move (.t 9)⟩,
 .one ⟨some 25, .bin .neq 0 (.t 24) (.c (.int .i64 0))⟩,
 .one ⟨some 23, .move (.t 25)⟩])
 (.cond (.t 23) (.seq (.region [.one ⟨some 26, .build [.nil, .nil] []⟩,
 .one ⟨some 27, .move (.t 9)⟩,
 .one ⟨none, .store 2 (.t 6) (.t 26)⟩,
 .one ⟨some 7, .move (.t 27)⟩])
 .ret)
 (.seq (.region [.one ⟨some 29, .move (.t 8)⟩,
 .one ⟨some 30, .fieldAddr 0 (.t 4)⟩,
 .one ⟨some 31, .load 1 false .any (.t 30)⟩,
 .one ⟨some 32, .call false .any 98 [.t 29, .t 31]⟩,
 .one ⟨some 33, .un .not (.t 32)⟩,
 .one ⟨some 28, .move (.t 33)⟩])
 (.cond (.t 28) (.seq (.region [.one ⟨some 34, .build [.nil, .nil] []⟩,
 .one ⟨none, .store 2 (.t 6) (.t 34)⟩,
 .one ⟨some 7, .move (.c (.int .i64 4))⟩])
 .ret)
 .skip)))))
 (.seq (.region [.one ⟨some 35, .fieldAddr 0 (.t 3)⟩,
 .one ⟨some 36, .load 1 false .any (.t 35)⟩,
 .one ⟨some 37, .call false .any 152 [.t 36]⟩,
 .one ⟨some 10, .alloc [.nil, .nil]⟩,
 .one ⟨none, .store 2 (.t 10) (.t 37)⟩])
 (.seq (.seq (.region [.one ⟨some 38, .fieldAddr 1 (.t 4)⟩,
 .one ⟨some 39, .load 1 false .any (.t 38)⟩,
 .one ⟨some 40, .len (.t 39)⟩,
 .one ⟨some 41, .move (.c (.int .i64 0))⟩])
 (.block 1 gate_Pick_l0))
 (.seq (.region [.one ⟨some 67, .load 2 true .any (.t 10)⟩,
 .one ⟨none, .store 2 (.t 6) (.t 67)⟩,
 .one ⟨some 7, .move (.c (.int .i64 0))⟩])
 .ret))))))) }
/-- gradus/ring.Neg: number 159 -/
def ring_Neg : AFunc := { params := [.any], results := [.cell 2 2 true, .tmp 3], body :=
 (.seq (.region [.one ⟨some 1, .box (.t 0)⟩,
 .one ⟨some 2, .alloc [.nil, .nil]⟩,
 .one ⟨some 3, .move (.c (.int .i64 0))⟩])
 (.seq (.region [.one ⟨some 4, .load 2 true .any (.t 1)⟩,
 .one ⟨some 5, .call false .any 160 [.t 4, .c (.int .i64 (-1))]⟩,
 .one ⟨some 6, .extract (.t 5) 0⟩,
 .one ⟨some 7, .extract (.t 5) 1⟩,
 .one ⟨none, .store 2 (.t 2) (.t 6)⟩,
 .one ⟨some 3, .move (.t 7)⟩])
 .ret)) }
/-- gradus/ring.Scale: number 160 -/
def ring_Scale : AFunc := { params := [.any, .any], results := [.cell 4 2 true, .tmp 5], body :=
 (.seq (.region [.one ⟨some 2, .box (.t 0)⟩,
 .one ⟨some 3, .box (.t 1)⟩,
 .one ⟨some 4, .alloc [.nil, .nil]⟩,
 .one ⟨some 5, .move (.c (.int .i64 0))⟩])
 (.seq (.region [.one ⟨some 6, .load 2 true .any (.t 2)⟩,
 .one ⟨some 7, .load 2 true .any (.t 2)⟩,
 .one ⟨some 8, .mkfn 186 [.t 3]⟩,
 .one ⟨some 9, .call false .any 180 [.t 6, .t 7, .t 8]⟩,
 .one ⟨some 10, .extract (.t 9) 0⟩,
 .one ⟨some 11, .extract (.t 9) 1⟩,
 .one ⟨none, .store 2 (.t 4) (.t 10)⟩,
 .one ⟨some 5, .move (.t 11)⟩])
 .ret)) }
/-- gradus/turn.Turn: number 161 -/
def turn_Turn_b0 : ACode :=
 (.seq (.region [.one ⟨some 38, .bin .lss 0 (.t 37) (.t 36)⟩])
 (.seq (.cond (.t 38) .skip
 (.exit 3))
 (.seq (.block 4 (.seq (.region [.one ⟨some 39, .move (.t 37)⟩,
 .one ⟨some 8, .move (.t 39)⟩])
 (.region [.one ⟨some 40, .fieldAddr 1 (.t 6)⟩,
 .one ⟨some 41, .load 1 false .any (.t 40)⟩,
 .one ⟨some 42, .move (.t 8)⟩,
 .one ⟨some 43, .move (.t 4)⟩,
 .one ⟨some 44, .bin .mul 0 (.t 42) (.t 43)⟩,
 .one ⟨some 45, .move (.t 7)⟩,
 .one ⟨some 46, .bin .add 0 (.t 44) (.t 45)⟩,
 .one ⟨some 47, .fieldAddr 1 (.t 1)⟩,
 .one ⟨some 48, .load 1 false .any (.t 47)⟩,
 .one ⟨some 49, .move (.t 7)⟩,
 .one ⟨some 50, .move (.t 5)⟩,
 .one ⟨some 51, .bin .mul 0 (.t 49) (.t 50)⟩,
 .one ⟨some 52, .move (.t 8)⟩,
 .one ⟨some 53, .bin .add 0 (.t 51) (.t 52)⟩,
 .one ⟨some 54, .indexAddr 1 (.t 48) (.t 53)⟩,
 .one ⟨some 55, .load 1 false .any (.t 54)⟩,
 .one ⟨some 56, .indexAddr 1 (.t 41) (.t 46)⟩,
 .one ⟨none, .store 1 (.t 56) (.t 55)⟩])))
 (.region [.one ⟨some 57, .bin .add 0 (.t 37) (.c (.int .i64 1))⟩,
 .one ⟨some 37, .move (.t 57)⟩]))))
def turn_Turn_l0 : ACode :=
 (.loop [(1, .any), (2, .any), (4, .any), (5, .any), (6, .any), (7, .any), (32, .any), (33, .any), (36, .any), (37, .any)] [(3, [(1, .any), (2, .any), (4, .any), (5, .any), (6, .any), (32, .any), (33, .any)])] [] turn_Turn_b0)
def turn_Turn_b1 : ACode :=
 (.seq (.region [.one ⟨some 34, .bin .lss 0 (.t 33) (.t 32)⟩])
 (.seq (.cond (.t 34) .skip
 (.exit 1))
 (.seq (.block 2 (.seq (.region [.one ⟨some 35, .move (.t 33)⟩,
 .one ⟨some 7, .move (.t 35)⟩])
 (.seq (.region [.one ⟨some 36, .move (.t 5)⟩,
 .one ⟨some 37, .move (.c (.int .i64 0))⟩])
 (.block 3 turn_Turn_l0))))
 (.region [.one ⟨some 58, .bin .add 0 (.t 33) (.c (.int .i64 1))⟩,
 .one ⟨some 33, .move (.t 58)⟩]))))
def turn_Turn_l1 : ACode :=
 (.loop [(1, .any), (2, .any), (4, .any), (5, .any), (6, .any), (32, .any), (33, .any)] [(1, [(2, .any), (6, .any)])] [] turn_Turn_b1)
def turn_Turn : AFunc := { params := [.any], results := [.cell 2 2 true, .tmp 3], body :=
 (.seq (.region [.one ⟨some 1, .box (.t 0)⟩,
 .one ⟨some 2, .alloc [.nil, .nil]⟩,
 .one ⟨some 3, .move (.c (.int .i64 0))⟩])
 (.seq (.block 0 (.seq (.region [.one ⟨some 10, .load 2 true .any (.t 1)⟩,
 .one ⟨some 11, .call false .any 151 [.t 10]⟩,
 .one ⟨some 12, .un .not (.t 11)⟩,
 .one ⟨some 9, .move (.t 12)⟩])
 (.cond (.t 9) (.seq (.region [.one ⟨some 13, .build [.nil, .nil] []⟩,
 .one ⟨none, .store 2 (.t 2) (.t 13)⟩,
 .one ⟨some 3, .move (.c (.int .i64 1))⟩])
 .ret)
 (.seq (.region [.one ⟨some 15, .fieldAddr 0 (.t 1)⟩,
 .one ⟨some 16, .load 1 false .any (.t 15)⟩,
 .one ⟨some 17, .len (.t 16)⟩,
 .one ⟨some 18, .bin .neq 0 (.t 17) (.c (.int .i64 2))⟩,
 .one ⟨some 14, .move (.t 18)⟩])
 (.cond (.t 14) (.seq (.region [.one ⟨some 19, .build [.nil, .nil] []⟩,
 .one ⟨none, .store 2 (.t 2) (.t 19)⟩,
 .one ⟨some 3, .move (.c (.int .i64 4))⟩])
 .ret)
 .skip)))))
 (.seq (.region [.one ⟨some 20, .fieldAddr 0 (.t 1)⟩,
 .one ⟨some 21, .load 1 false .any (.t 20)⟩,
 .one ⟨some 22, .indexAddr 1 (.t 21) (.c (.int .i64 0))⟩,
 .one ⟨some 23, .load 1 false .any (.t 22)⟩,
 .one ⟨some 24, .fieldAddr 0 (.t 1)⟩,
 .one ⟨some 25, .load 1 false .any (.t 24)⟩,
 .one ⟨some 26, .indexAddr 1 (.t 25) (.c (.int .i64 1))⟩,
 .one ⟨some 27, .load 1 false .any (.t 26)⟩,
 .one ⟨some 4, .move (.t 23)⟩,
 .one ⟨some 5, .move (.t 27)⟩])
 (.seq (.region [.one ⟨some 28, .move (.t 5)⟩,
 .one ⟨some 29, .move (.t 4)⟩,
 .one ⟨some 30, .buildSlice 1 2 [.int .i64 0] [(0, .t 28), (1, .t 29)]⟩,
 .one ⟨some 31, .call false .any 152 [.t 30]⟩,
 .one ⟨some 6, .alloc [.nil, .nil]⟩,
 .one ⟨none, .store 2 (.t 6) (.t 31)⟩])
 (.seq (.seq (.region [.one ⟨some 32, .move (.t 4)⟩,
 .one ⟨some 33, .move (.c (.int .i64 0))⟩])
 (.block 1 turn_Turn_l1))
 (.seq (.region [.one ⟨some 59, .load 2 true .any (.t 6)⟩,
 .one ⟨none, .store 2 (.t 2) (.t 59)⟩,
 .one ⟨some 3, .move (.c (.int .i64 0))⟩])
 .ret)))))) }
/-- gradus/turn.Shape: number 162 -/
def turn_Shape : AFunc := { params := [.any, .any], results := [.cell 4 2 true, .tmp 5], body :=
 (.seq (.region [.one ⟨some 2, .box (.t 0)⟩,
 .one ⟨some 4, .alloc [.nil, .nil]⟩,
 .one ⟨some 5, .move (.c (.int .i64 0))⟩])
 (.seq (.block 0 (.seq (.region [.one ⟨some 7, .load 2 true .any (.t 2)⟩,
 .one ⟨some 8, .call false .any 151 [.t 7]⟩,
 .one ⟨some 9, .un .not (.t 8)⟩,
 .one ⟨some 10, .move (.t 9)⟩,
 .grd 10 false [⟨some 11, .move (.t 1)⟩, ⟨some 12, .call false .any 145 [.t 11]⟩, ⟨some 13, .un .not (.t 12)⟩],
 .one ⟨some 14, .pick (.t 10) (.c (.bool true)) (.t 13)⟩,
 .one ⟨some 6, .move (.t 14)⟩])
 (.cond (.t 6) (.seq (.region [.one ⟨some 15, .build [.nil, .nil] []⟩,
 .one ⟨none, .store 2 (.t 4) (.t 15)⟩,
 .one ⟨some 5, .move (.c (.int .i64 1))⟩])
 .ret)
 (.seq (.region [.one ⟨some 17, .move (.t 1)⟩,
 .one ⟨some 18, .call true .any 106 [.t 17]⟩,
 .one ⟨some 19, .fieldAddr 1 (.t 2)⟩,
 .one ⟨some 20, .load 1 false .any (.t 19)⟩,
 .one ⟨some 21, .len (.t 20)⟩,
 .one ⟨some 22, .bin .neq 0 (.t 18) (.t 21)⟩,
 .one ⟨some 16, .move (.t 22)⟩])
 (.cond (.t 16) (.seq (.region [.one ⟨some 23, .build [.nil, .nil] []⟩,
 .one ⟨none, .store 2 (.t 4) (.t 23)⟩,
 .one ⟨some 5, .move (.c (.int .i64 4))⟩])
 .ret)
 .skip)))))
 (.seq (.region [.one ⟨some 24, .move (.t 1)⟩,
 .one ⟨some 25, .call true .any 112 [.t 24]⟩,
 .one ⟨some 26, .fieldAddr 1 (.t 2)⟩,
 .one ⟨some 27, .load 1 false .any (.t 26)⟩,
 .one ⟨some 28, .call true .any 112 [.t 27]⟩,
 .one ⟨some 29, .build [.nil, .nil] [(0, 1, .t 25), (1, 1, .t 28)]⟩,
 .one ⟨none, .store 2 (.t 4) (.t 29)⟩,
 .one ⟨some 5, .move (.c (.int .i64 0))⟩])
 .ret))) }
/-- gradus/turn.Wide: number 163 -/
def turn_Wide_b0 : ACode :=
 (.seq (.region [.one ⟨some 31, .bin .lss 0 (.t 30) (.t 29)⟩])
 (.seq (.cond (.t 31) .skip
 (.exit 1))
 (.seq (.block 2 (.seq (.region [.one ⟨some 32, .move (.t 30)⟩,
 .one ⟨some 7, .move (.t 32)⟩])
 (.region [.one ⟨some 33, .fieldAddr 1 (.t 6)⟩,
 .one ⟨some 34, .load 1 false .any (.t 33)⟩,
 .one ⟨some 35, .move (.t 7)⟩,
 .one ⟨some 36, .fieldAddr 1 (.t 2)⟩,
 .one ⟨some 37, .load 1 false .any (.t 36)⟩,
 .one ⟨some 38, .fieldAddr 0 (.t 2)⟩,
 .one ⟨some 39, .load 1 false .any (.t 38)⟩,
 .one ⟨some 40, .move (.t 1)⟩,
 .one ⟨some 41, .move (.t 7)⟩,
 .one ⟨some 42, .call true .any 187 [.t 39, .t 40, .t 41]⟩,
 .one ⟨some 43, .indexAddr 1 (.t 37) (.t 42)⟩,
 .one ⟨some 44, .load 1 false .any (.t 43)⟩,
 .one ⟨some 45, .indexAddr 1 (.t 34) (.t 35)⟩,
 .one ⟨none, .store 1 (.t 45) (.t 44)⟩])))
 (.region [.one ⟨some 46, .bin .add 0 (.t 30) (.c (.int .i64 1))⟩,
 .one ⟨some 30, .move (.t 46)⟩]))))
def turn_Wide_l0 : ACode :=
 (.loop [(1, .any), (2, .any), (4, .any), (6, .any), (29, .any), (30, .any)] [(1, [(4, .any), (6, .any)])] [] turn_Wide_b0)
def turn_Wide : AFunc := { params := [.any, .any], results := [.cell 4 2 true, .tmp 5], body :=
 (.seq (.region [.one ⟨some 2, .box (.t 0)⟩,
 .one ⟨some 4, .alloc [.nil, .nil]⟩,
 .one ⟨some 5, .move (.c (.int .i64 0))⟩])
 (.seq (.block 0 (.seq (.region [.one ⟨some 9, .load 2 true .any (.t 2)⟩,
 .one ⟨some 10, .call false .any 151 [.t 9]⟩,
 .one ⟨some 11, .un .not (.t 10)⟩,
 .one ⟨some 12, .move (.t 11)⟩,
 .grd 12 false [⟨some 13, .move (.t 1)⟩, ⟨some 14, .call false .any 145 [.t 13]⟩, ⟨some 15, .un .not (.t 14)⟩],
 .one ⟨some 16, .pick (.t 12) (.c (.bool true)) (.t 15)⟩,
 .one ⟨some 8, .move (.t 16)⟩])
 (.cond (.t 8) (.seq (.region [.one ⟨some 17, .build [.nil, .nil] []⟩,
 .one ⟨none, .store 2 (.t 4) (.t 17)⟩,
 .one ⟨some 5, .move (.c (.int .i64 1))⟩])
 .ret)
 (.seq (.region [.one ⟨some 19, .fieldAddr 0 (.t 2)⟩,
 .one ⟨some 20, .load 1 false .any (.t 19)⟩,
 .one ⟨some 21, .move (.t 1)⟩,
 .one ⟨some 22, .call false .any 146 [.t 20, .t 21]⟩,
 .one ⟨some 23, .un .not (.t 22)⟩,
 .one ⟨some 18, .move (.t 23)⟩])
 (.cond (.t 18) (.seq (.region [.one ⟨some 24, .build [.nil, .nil] []⟩,
 .one ⟨none, .store 2 (.t 4) (.t 24)⟩,
 .one ⟨some 5, .move (.c (.int .i64 4))⟩])
 .ret)
 .skip)))))
 (.seq (.region [.one ⟨some 25, .move (.t 1)⟩,
 .one ⟨some 26, .call false .any 152 [.t 25]⟩,
 .one ⟨some 6, .alloc [.nil, .nil]⟩,
 .one ⟨none, .store 2 (.t 6) (.t 26)⟩])
 (.seq (.seq (.region [.one ⟨some 27, .fieldAddr 1 (.t 6)⟩,
 .one ⟨some 28, .load 1 false .any (.t 27)⟩,
 .one ⟨some 29, .len (.t 28)⟩,
 .one ⟨some 30, .move (.c (.int .i64 0))⟩])
 (.block 1 turn_Wide_l0))
 (.seq (.region [.one ⟨some 47, .load 2 true .any (.t 6)⟩,
 .one ⟨none, .store 2 (.t 4) (.t 47)⟩,
 .one ⟨some 5, .move (.c (.int .i64 0))⟩])
 .ret))))) }
/-- gradus/turn.Sum: number 164 -/
def turn_Sum_b0 : ACode :=
 (.seq (.region [.one ⟨some 32, .bin .lss 0 (.t 31) (.t 30)⟩])
 (.seq (.cond (.t 32) .skip
 (.exit 1))
 (.seq (.block 2 (.seq (.region [.one ⟨some 33, .move (.t 31)⟩,
 .one ⟨some 34, .indexAddr 1 (.t 29) (.t 31)⟩,
 .one ⟨some 35, .load 1 false .any (.t 34)⟩,
 .one ⟨some 7, .move (.t 33)⟩,
 .one ⟨some 8, .move (.t 35)⟩])
 (.region [.one ⟨some 36, .fieldAddr 1 (.t 6)⟩,
 .one ⟨some 37, .load 1 false .any (.t 36)⟩,
 .one ⟨some 38, .move (.t 1)⟩,
 .one ⟨some 39, .fieldAddr 0 (.t 2)⟩,
 .one ⟨some 40, .load 1 false .any (.t 39)⟩,
 .one ⟨some 41, .move (.t 7)⟩,
 .one ⟨some 42, .call true .any 187 [.t 38, .t 40, .t 41]⟩,
 .one ⟨some 43, .indexAddr 1 (.t 37) (.t 42)⟩,
 .one ⟨some 44, .load 1 false .any (.t 43)⟩,
 .one ⟨some 45, .move (.t 8)⟩,
 .one ⟨some 46, .bin .add 0 (.t 44) (.t 45)⟩,
 .one ⟨some 47, .indexAddr 1 (.t 37) (.t 42)⟩,
 .one ⟨none, .store 1 (.t 47) (.t 46)⟩])))
 (.region [.one ⟨some 48, .bin .add 0 (.t 31) (.c (.int .i64 1))⟩,
 .one ⟨some 31, .move (.t 48)⟩]))))
def turn_Sum_l0 : ACode :=
 (.loop [(1, .any), (2, .any), (4, .any), (6, .any), (29, .any), (30, .any), (31, .any)] [(1, [(4, .any), (6, .any)])] [] turn_Sum_b0)
def turn_Sum : AFunc := { params := [.any, .any], results := [.cell 4 2 true, .tmp 5], body :=
 (.seq (.region [.one ⟨some 2, .box (.t 0)⟩,
 .one ⟨some 4, .alloc [.nil, .nil]⟩,
 .one ⟨some 5, .move (.c (.int .i64 0))⟩])
 (.seq (.block 0 (.seq (.region [.one ⟨some 10, .load 2 true .any (.t 2)⟩,
 .one ⟨some 11, .call false .any 151 [.t 10]⟩,
 .one ⟨some 12, .un .not (.t 11)⟩,
 .one ⟨some 13, .move (.t 12)⟩,
 .grd 13 false [⟨some 14, .move (.t 1)⟩, ⟨some 15, .call false .any 145 [.t 14]⟩, ⟨some 16, .un .not (.t 15)⟩],
 .one ⟨some 17, .pick (.t 13) (.c (.bool true)) (.t 16)⟩,
 .one ⟨some 9, .move (.t 17)⟩])
 (.cond (.t 9) (.seq (.region [.one ⟨some 18, .build [.nil, .nil] []⟩,
 .one ⟨none, .store 2 (.t 4) (.t 18)⟩,
 .one ⟨some 5, .move (.c (.int .i64 1))⟩])
 .ret)
 (.seq (.region [.one ⟨some 20, .move (.t 1)⟩,
 .one ⟨some 21, .fieldAddr 0 (.t 2)⟩,
 .one ⟨some 22, .load 1 false .any (.t 21)⟩,
 .one ⟨some 23, .call false .any 146 [.t 20, .t 22]⟩,
 .one ⟨some 24, .un .not (.t 23)⟩,
 .one ⟨some 19, .move (.t 24)⟩])
 (.cond (.t 19) (.seq (.region [.one ⟨some 25, .build [.nil, .nil] []⟩,
 .one ⟨none, .store 2 (.t 4) (.t 25)⟩,
 .one ⟨some 5, .move (.c (.int .i64 4))⟩])
 .ret)
 .skip)))))
 (.seq (.region [.one ⟨some 26, .move (.t 1)⟩,
 .one ⟨some 27, .call false .any 152 [.t 26]⟩,
 .one ⟨some 6, .alloc [.nil, .nil]⟩,
 .one ⟨none, .store 2 (.t 6) (.t 27)⟩])
 (.seq (.seq (.region [.one ⟨some 28, .fieldAddr 1 (.t 2)⟩,
 .one ⟨some 29, .load 1 false .any (.t 28)⟩,
 .one ⟨some 30, .len (.t 29)⟩,
 .one ⟨some 31, .move (.c (.int .i64 0))⟩])
 (.block 1 turn_Sum_l0))
 (.seq (.region [.one ⟨some 49, .load 2 true .any (.t 6)⟩,
 .one ⟨none, .store 2 (.t 4) (.t 49)⟩,
 .one ⟨some 5, .move (.c (.int .i64 0))⟩])
 .ret))))) }
/-- gradus/gate.Relu: number 165 -/
def gate_Relu : AFunc := { params := [.any], results := [.cell 2 2 true, .tmp 3], body :=
 (.seq (.region [.one ⟨some 1, .box (.t 0)⟩,
 .one ⟨some 2, .alloc [.nil, .nil]⟩,
 .one ⟨some 3, .move (.c (.int .i64 0))⟩])
 (.seq (.region [.one ⟨some 4, .load 2 true .any (.t 1)⟩,
 .one ⟨some 5, .load 2 true .any (.t 1)⟩,
 .one ⟨some 6, .call false .any 157 [.t 4, .t 5]⟩,
 .one ⟨some 7, .extract (.t 6) 0⟩,
 .one ⟨some 8, .extract (.t 6) 1⟩,
 .one ⟨none, .store 2 (.t 2) (.t 7)⟩,
 .one ⟨some 3, .move (.t 8)⟩])
 .ret)) }
/-- gradus/gate.Max: number 166 -/
def gate_Max_b0 : ACode :=
 (.seq (.region [.one ⟨some 26, .bin .lss 0 (.t 25) (.t 24)⟩])
 (.seq (.cond (.t 26) .skip
 (.exit 0))
 (.seq (.block 1 (.seq (.region [.one ⟨some 27, .move (.t 25)⟩,
 .one ⟨some 9, .move (.t 27)⟩])
 (.region [.one ⟨some 28, .fieldAddr 1 (.t 8)⟩,
 .one ⟨some 29, .load 1 false .any (.t 28)⟩,
 .one ⟨some 30, .move (.t 9)⟩,
 .one ⟨some 31, .fieldAddr 1 (.t 2)⟩,
 .one ⟨some 32, .load 1 false .any (.t 31)⟩,
 .one ⟨some 33, .move (.t 9)⟩,
 .one ⟨some 34, .move (.t 1)⟩,
 .one ⟨some 35, .bin .mul 0 (.t 33) (.t 34)⟩,
 .one ⟨some 36, .move (.t 9)⟩,
 .one ⟨some 37, .move (.t 1)⟩,
 .one ⟨some 38, .bin .mul 0 (.t 36) (.t 37)⟩,
 .one ⟨some 39, .move (.t 1)⟩,
 .one ⟨some 40, .bin .add 0 (.t 38) (.t 39)⟩,
 .one ⟨some 41, .cut 1 (.t 32) (some (.t 35)) (some (.t 40))⟩,
 .one ⟨some 42, .call true .any 73 [.t 41]⟩,
 .one ⟨some 43, .indexAddr 1 (.t 29) (.t 30)⟩,
 .one ⟨none, .store 1 (.t 43) (.t 42)⟩])))
 (.region [.one ⟨some 44, .bin .add 0 (.t 25) (.c (.int .i64 1))⟩,
 .one ⟨some 25, .move (.t 44)⟩]))))
def gate_Max_l0 : ACode :=
 (.loop [(1, .any), (2, .any), (4, .any), (8, .any), (24, .any), (25, .any)] [(0, [(4, .any), (8, .any)])] [] gate_Max_b0)
def gate_Max : AFunc := { params := [.any, .any], results := [.cell 4 2 true, .tmp 5], body :=
 (.seq (.region [.one ⟨some 2, .box (.t 0)⟩,
 .one ⟨some 4, .alloc [.nil, .nil]⟩,
 .one ⟨some 5, .move (.c (.int .i64 0))⟩])
 (.seq (.region [.one ⟨some 11, .load 2 true .any (.t 2)⟩,
 .one ⟨some 12, .move (.t 1)⟩,
 .one ⟨some 13, .call false .any 184 [.t 11, .t 12]⟩,
 .one ⟨some 10, .move (.t 13)⟩,
 .one ⟨some 14, .extract (.t 10) 0⟩,
 .one ⟨some 15, .extract (.t 10) 1⟩,
 .one ⟨some 6, .move (.t 14)⟩,
 .one ⟨some 7, .move (.t 15)⟩])
 (.seq (.seq (.region [.one ⟨some 16, .move (.t 7)⟩,
 .one ⟨some 17, .bin .neq 0 (.t 16) (.c (.int .i64 0))⟩])
 (.cond (.t 17) (.seq (.region [.one ⟨some 18, .build [.nil, .nil] []⟩,
 .one ⟨some 19, .move (.t 7)⟩,
 .one ⟨none, .store 2 (.t 4) (.t 18)⟩,
 .one ⟨some 5, .move (.t 19)⟩])
 .ret)
 .skip))
 (.seq (.region [.one ⟨some 20, .move (.t 6)⟩,
 .one ⟨some 21, .call false .any 152 [.t 20]⟩,
 .one ⟨some 8, .alloc [.nil, .nil]⟩,
 .one ⟨none, .store 2 (.t 8) (.t 21)⟩])
 (.seq (.seq (.region [.one ⟨some 22, .fieldAddr 1 (.t 8)⟩,
 .one ⟨some 23, .load 1 false .any (.t 22)⟩,
 .one ⟨some 24, .len (.t 23)⟩,
 .one ⟨some 25, .move (.c (.int .i64 0))⟩])
 (.block 0 gate_Max_l0))
 (.seq (.region [.one ⟨some 45, .load 2 true .any (.t 8)⟩,
 .one ⟨none, .store 2 (.t 4) (.t 45)⟩,
 .one ⟨some 5, .move (.c (.int .i64 0))⟩])
 .ret)))))) }
/-- gradus/shape.May$1: number 178 -/
def shape_May_1 : AFunc := { params := [.any], results := [.tmp 2], body :=
 (.seq (.region [.one ⟨some 2, .move (.c (.bool false))⟩])
 (.seq (.region [.one ⟨some 3, .move (.t 0)⟩,
 .one ⟨some 4, .bin .lss 0 (.t 3) (.c (.int .i64 1))⟩,
 .one ⟨some 5, .move (.t 4)⟩,
 .grd 5 false [⟨some 6, .move (.t 0)⟩, ⟨some 7, .bin .gtr 0 (.t 6) (.c (.int .i64 8))⟩],
 .one ⟨some 8, .pick (.t 5) (.c (.bool true)) (.t 7)⟩,
 .one ⟨some 2, .move (.t 8)⟩])
 .ret)) }
/-- slices.IndexFunc[[][]int,[]int]: number 179 -/
def slices_IndexFunc_ints_b0 : ACode :=
 (.seq (.region [.one ⟨some 9, .bin .lss 0 (.t 8) (.t 7)⟩])
 (.seq (.cond (.t 9) .skip
 (.exit 0))
 (.seq (.block 1 (.seq (.region [.one ⟨some 10, .move (.t 8)⟩,
 .one ⟨some 5, .move (.t 10)⟩])
 (.seq (.region [.one ⟨some 11, .move (.t 1)⟩,
 .one ⟨some 12, .move (.t 0)⟩,
 .one ⟨some 13, .move (.t 5)⟩,
 .one ⟨some 14, .indexAddr 1 (.t 12) (.t 13)⟩,
 .one ⟨some 15, .load 1 false .any (.t 14)⟩,
 .one ⟨some 16, .callv false .any (.t 11) [.t 15]⟩])
 (.cond (.t 16) (.seq (.region [.one ⟨some 17, .move (.t 5)⟩,
 .one ⟨some 4, .move (.t 17)⟩])
 .ret)
 .skip))))
 (.region [.one ⟨some 18, .bin .add 0 (.t 8) (.c (.int .i64 1))⟩,
 .one ⟨some 8, .move (.t 18)⟩]))))
def slices_IndexFunc_ints_l0 : ACode :=
 (.loop [(0, .any), (1, .any), (7, .any), (8, .any)] [(0, [])] [(4, .any)] slices_IndexFunc_ints_b0)
def slices_IndexFunc_ints : AFunc := { params := [.any, .any], results := [.tmp 4], body :=
 (.seq (.region [.one ⟨some 4, .move (.c (.int .i64 0))⟩])
 (.seq (.seq (.region [.one ⟨some 6, .move (.t 0)⟩,
 .one ⟨some 7, .len (.t 6)⟩,
 .one ⟨some 8, .move (.c (.int .i64 0))⟩])
 (.block 0 slices_IndexFunc_ints_l0))
 (.seq (.region [.one ⟨some 4, .move (.c (.int .i64 (-1)))⟩])
 .ret))) }
/-- gradus/ring.two: number 180 -/
def ring_two_b0 : ACode :=
 (.seq (.region [.one ⟨some 25, .bin .lss 0 (.t 24) (.t 23)⟩])
 (.seq (.cond (.t 25) .skip
 (.exit 0))
 (.seq (.block 1 (.seq (.region [.one ⟨some 26, .move (.t 24)⟩,
 .one ⟨some 10, .move (.t 26)⟩])
 (.region [.one ⟨some 27, .fieldAddr 1 (.t 9)⟩,
 .one ⟨some 28, .load 1 false .any (.t 27)⟩,
 .one ⟨some 29, .move (.t 10)⟩,
 .one ⟨some 30, .move (.t 2)⟩,
 .one ⟨some 31, .fieldAddr 1 (.t 3)⟩,
 .one ⟨some 32, .load 1 false .any (.t 31)⟩,
 .one ⟨some 33, .move (.t 10)⟩,
 .one ⟨some 34, .indexAddr 1 (.t 32) (.t 33)⟩,
 .one ⟨some 35, .load 1 false .any (.t 34)⟩,
 .one ⟨some 36, .fieldAddr 1 (.t 4)⟩,
 .one ⟨some 37, .load 1 false .any (.t 36)⟩,
 .one ⟨some 38, .move (.t 10)⟩,
 .one ⟨some 39, .indexAddr 1 (.t 37) (.t 38)⟩,
 .one ⟨some 40, .load 1 false .any (.t 39)⟩,
 .one ⟨some 41, .callv true .any (.t 30) [.t 35, .t 40]⟩,
 .one ⟨some 42, .indexAddr 1 (.t 28) (.t 29)⟩,
 .one ⟨none, .store 1 (.t 42) (.t 41)⟩])))
 (.region [.one ⟨some 43, .bin .add 0 (.t 24) (.c (.int .i64 1))⟩,
 .one ⟨some 24, .move (.t 43)⟩]))))
def ring_two_l0 : ACode :=
 (.loop [(2, .any), (3, .any), (4, .any), (6, .any), (9, .any), (23, .any), (24, .any)] [(0, [(6, .any), (9, .any)])] [] ring_two_b0)
def ring_two : AFunc := { params := [.any, .any, .any], results := [.cell 6 2 true, .tmp 7], body :=
 (.seq (.region [.one ⟨some 3, .box (.t 0)⟩,
 .one ⟨some 4, .box (.t 1)⟩,
 .one ⟨some 6, .alloc [.nil, .nil]⟩,
 .one ⟨some 7, .move (.c (.int .i64 0))⟩])
 (.seq (.seq (.region [.one ⟨some 11, .load 2 true .any (.t 3)⟩,
 .one ⟨some 12, .load 2 true .any (.t 4)⟩,
 .one ⟨some 13, .call false .any 194 [.t 11, .t 12]⟩,
 .one ⟨some 8, .move (.t 13)⟩])
 (.seq (.region [.one ⟨some 14, .move (.t 8)⟩,
 .one ⟨some 15, .bin .neq 0 (.t 14) (.c (.int .i64 0))⟩])
 (.cond (.t 15) (.seq (.region [.one ⟨some 16, .build [.nil, .nil] []⟩,
 .one ⟨some 17, .move (.t 8)⟩,
 .one ⟨none, .store 2 (.t 6) (.t 16)⟩,
 .one ⟨some 7, .move (.t 17)⟩])
 .ret)
 .skip)))
 (.seq (.region [.one ⟨some 18, .fieldAddr 0 (.t 3)⟩,
 .one ⟨some 19, .load 1 false .any (.t 18)⟩,
 .one ⟨some 20, .call false .any 152 [.t 19]⟩,
 .one ⟨some 9, .alloc [.nil, .nil]⟩,
 .one ⟨none, .store 2 (.t 9) (.t 20)⟩])
 (.seq (.seq (.region [.one ⟨some 21, .fieldAddr 1 (.t 9)⟩,
 .one ⟨some 22, .load 1 false .any (.t 21)⟩,
 .one ⟨some 23, .len (.t 22)⟩,
 .one ⟨some 24, .move (.c (.int .i64 0))⟩])
 (.block 0 ring_two_l0))
 (.seq (.region [.one ⟨some 44, .load 2 true .any (.t 9)⟩,
 .one ⟨none, .store 2 (.t 6) (.t 44)⟩,
 .one ⟨some 7, .move (.c (.int .i64 0))⟩])
 .ret))))) }
/-- gradus/ring.Add$1: number 181 -/
def ring_Add_1 : AFunc := { params := [.any, .any], results := [.tmp 4], body :=
 (.seq (.region [.one ⟨some 4, .move (.c (.int .i64 0))⟩])
 (.seq (.region [.one ⟨some 5, .move (.t 0)⟩,
 .one ⟨some 6, .move (.t 1)⟩,
 .one ⟨some 7, .bin .add 0 (.t 5) (.t 6)⟩,
 .one ⟨some 4, .move (.t 7)⟩])
 .ret)) }
/-- gradus/ring.Sub$1: number 182 -/
def ring_Sub_1 : AFunc := { params := [.any, .any], results := [.tmp 4], body :=
 (.seq (.region [.one ⟨some 4, .move (.c (.int .i64 0))⟩])
 (.seq (.region [.one ⟨some 5, .move (.t 0)⟩,
 .one ⟨some 6, .move (.t 1)⟩,
 .one ⟨some 7, .bin .sub 0 (.t 5) (.t 6)⟩,
 .one ⟨some 4, .move (.t 7)⟩])
 .ret)) }
/-- gradus/ring.Mul$1: number 183 -/
def ring_Mul_1 : AFunc := { params := [.any, .any], results := [.tmp 4], body :=
 (.seq (.region [.one ⟨some 4, .move (.c (.int .i64 0))⟩])
 (.seq (.region [.one ⟨some 5, .move (.t 0)⟩,
 .one ⟨some 6, .move (.t 1)⟩,
 .one ⟨some 7, .bin .mul 0 (.t 5) (.t 6)⟩,
 .one ⟨some 4, .move (.t 7)⟩])
 .ret)) }
/-- gradus/gate.asked: number 184 -/
def gate_asked : AFunc := { params := [.any, .any], results := [.tmp 4, .tmp 5], body :=
 (.seq (.region [.one ⟨some 2, .box (.t 0)⟩,
 .one ⟨some 4, .move (.c (.nil))⟩,
 .one ⟨some 5, .move (.c (.int .i64 0))⟩])
 (.seq (.seq (.region [.one ⟨some 8, .load 2 true .any (.t 2)⟩,
 .one ⟨some 9, .call false .any 151 [.t 8]⟩,
 .one ⟨some 10, .un .not (.t 9)⟩,
 .one ⟨some 11, .move (.t 10)⟩,
 .grd 11 false [⟨some 12, .move (.t 1)⟩, ⟨some 13, .bin .lss 0 (.t 12) (.c (.int .i64 1))⟩],
 .one ⟨some 14, .pick (.t 11) (.c (.bool true)) (.t 13)⟩,
 .one ⟨some 15, .move (.t 14)⟩,
 .grd 15 false [⟨some 16, .move (.t 1)⟩, ⟨some 17, .bin .gtr 0 (.t 16) (.c (.int .i64 8))⟩],
 .one ⟨some 18, .pick (.t 15) (.c (.bool true)) (.t 17)⟩])
 (.cond (.t 18) (.seq (.region [.one ⟨some 4, .move (.c (.nil))⟩,
 .one ⟨some 5, .move (.c (.int .i64 1))⟩])
 .ret)
 .skip))
 (.seq (.region [.one ⟨some 20, .fieldAddr 0 (.t 2)⟩,
 .one ⟨some 21, .load 1 false .any (.t 20)⟩,
 .one ⟨some 22, .move (.t 1)⟩,
 .one ⟨some 23, .call false .any 147 [.t 21, .t 22]⟩,
 .one ⟨some 19, .move (.t 23)⟩,
 .one ⟨some 24, .extract (.t 19) 0⟩,
 .one ⟨some 25, .extract (.t 19) 1⟩,
 .one ⟨some 6, .move (.t 24)⟩,
 .one ⟨some 7, .move (.t 25)⟩])
 (.seq (.seq (.region [.one ⟨some 26, .move (.t 7)⟩,
 .one ⟨some 27, .un .not (.t 26)⟩])
 (.cond (.t 27) (.seq (.region [.one ⟨some 4, .move (.c (.nil))⟩,
 .one ⟨some 5, .move (.c (.int .i64 4))⟩])
 .ret)
 .skip))
 (.seq (.region [.one ⟨some 28, .move (.t 6)⟩,
 .one ⟨some 4, .move (.t 28)⟩,
 .one ⟨some 5, .move (.c (.int .i64 0))⟩])
 .ret))))) }
/-- gradus/gate.greatest: number 185 -/
def gate_greatest : AFunc := { params := [.any], results := [.tmp 2], body :=
 (.seq (.region [.one ⟨some 2, .move (.c (.int .i64 0))⟩])
 (.seq (.region [.one ⟨some 3, .move (.t 0)⟩,
 .one ⟨some 4, .move (.t 0)⟩,
 .one ⟨some 5, .call false .any 73 [.t 4]⟩,
 .one ⟨some 6, .call false .any 107 [.t 3, .t 5]⟩,
 .one ⟨some 2, .move (.t 6)⟩])
 .ret)) }
/-- gradus/ring.Scale$1: number 186 -/
def ring_Scale_1 : AFunc := { params := [.any, .any, .any], results := [.tmp 5], body :=
 (.seq (.region [.one ⟨some 5, .move (.c (.int .i64 0))⟩])
 (.seq (.region [.one ⟨some 6, .move (.t 0)⟩,
 .one ⟨some 7, .load 1 false .any (.t 2)⟩,
 .one ⟨some 8, .bin .mul 0 (.t 6) (.t 7)⟩,
 .one ⟨some 5, .move (.t 8)⟩])
 .ret)) }
/-- gradus/turn.low: number 187 -/
def turn_low_b0 : ACode :=
 (.seq (.region [.one ⟨some 16, .bin .lss 0 (.t 15) (.t 14)⟩])
 (.seq (.cond (.t 16) .skip
 (.exit 0))
 (.seq (.block 1 (.seq (.region [.one ⟨some 17, .move (.t 15)⟩,
 .one ⟨some 18, .indexAddr 1 (.t 13) (.t 15)⟩,
 .one ⟨some 19, .load 1 false .any (.t 18)⟩,
 .one ⟨some 8, .move (.t 17)⟩,
 .one ⟨some 9, .move (.t 19)⟩])
 (.seq (.region [.one ⟨some 20, .move (.t 9)⟩,
 .one ⟨some 21, .bin .eql 0 (.t 20) (.c (.int .i64 1))⟩])
 (.cond (.t 21) (.region [.one ⟨some 22, .move (.t 7)⟩,
 .one ⟨some 23, .move (.t 8)⟩,
 .one ⟨some 24, .indexAddr 1 (.t 22) (.t 23)⟩,
 .one ⟨none, .store 1 (.t 24) (.c (.int .i64 0))⟩])
 .skip))))
 (.region [.one ⟨some 25, .bin .add 0 (.t 15) (.c (.int .i64 1))⟩,
 .one ⟨some 15, .move (.t 25)⟩]))))
def turn_low_l0 : ACode :=
 (.loop [(0, .any), (7, .any), (13, .any), (14, .any), (15, .any)] [(0, [(0, .any), (7, .any)])] [] turn_low_b0)
def turn_low : AFunc := { params := [.any, .any, .any], results := [.tmp 6], body :=
 (.seq (.region [.one ⟨some 6, .move (.c (.int .i64 0))⟩])
 (.seq (.region [.one ⟨some 10, .move (.t 1)⟩,
 .one ⟨some 11, .move (.t 2)⟩,
 .one ⟨some 12, .call false .any 195 [.t 10, .t 11]⟩,
 .one ⟨some 7, .move (.t 12)⟩])
 (.seq (.seq (.region [.one ⟨some 13, .move (.t 0)⟩,
 .one ⟨some 14, .len (.t 13)⟩,
 .one ⟨some 15, .move (.c (.int .i64 0))⟩])
 (.block 0 turn_low_l0))
 (.seq (.region [.one ⟨some 26, .move (.t 0)⟩,
 .one ⟨some 27, .move (.t 7)⟩,
 .one ⟨some 28, .call false .any 196 [.t 26, .t 27]⟩,
 .one ⟨some 6, .move (.t 28)⟩])
 .ret)))) }
/-- gradus/ring.pair: number 194 -/
def ring_pair : AFunc := { params := [.any, .any], results := [.tmp 4], body :=
 (.seq (.region [.one ⟨some 2, .box (.t 0)⟩,
 .one ⟨some 3, .box (.t 1)⟩,
 .one ⟨some 4, .move (.c (.int .i64 0))⟩])
 (.seq (.block 0 (.seq (.region [.one ⟨some 6, .load 2 true .any (.t 2)⟩,
 .one ⟨some 7, .load 2 true .any (.t 3)⟩,
 .one ⟨some 8, .buildSlice 2 2 [.nil, .nil] [(0, .t 6), (1, .t 7)]⟩,
 .one ⟨some 9, .call false .any 118 [.t 8]⟩,
 .one ⟨some 10, .un .not (.t 9)⟩,
 .one ⟨some 5, .move (.t 10)⟩])
 (.cond (.t 5) (.seq (.region [.one ⟨some 4, .move (.c (.int .i64 1))⟩])
 .ret)
 (.seq (.region [.one ⟨some 12, .fieldAddr 0 (.t 2)⟩,
 .one ⟨some 13, .load 1 false .any (.t 12)⟩,
 .one ⟨some 14, .fieldAddr 0 (.t 3)⟩,
 .one ⟨some 15, .load 1 false .any (.t 14)⟩,
 .one ⟨some 16, .call false .any 98 [.t 13, .t 15]⟩,
 .one ⟨some 17, .un .not (.t 16)⟩,
 .one ⟨some 11, .move (.t 17)⟩])
 (.cond (.t 11) (.seq (.region [.one ⟨some 4, .move (.c (.int .i64 4))⟩])
 .ret)
 .skip)))))
 (.seq (.region [.one ⟨some 4, .move (.c (.int .i64 0))⟩])
 .ret))) }
/-- gradus/shape.Numbers: number 195 -/
def shape_Numbers_b0 : ACode :=
 (.seq (.region [.one ⟨some 15, .bin .lss 0 (.t 14) (.t 13)⟩])
 (.seq (.cond (.t 15) .skip
 (.exit 0))
 (.seq (.block 1 (.seq (.region [.one ⟨some 16, .move (.t 14)⟩,
 .one ⟨some 17, .indexAddr 1 (.t 12) (.t 14)⟩,
 .one ⟨some 18, .load 1 false .any (.t 17)⟩,
 .one ⟨some 6, .move (.t 16)⟩,
 .one ⟨some 7, .move (.t 18)⟩])
 (.seq (.region [.one ⟨some 19, .move (.t 5)⟩,
 .one ⟨some 20, .move (.t 6)⟩,
 .one ⟨some 21, .move (.t 1)⟩,
 .one ⟨some 22, .move (.t 7)⟩,
 .one ⟨some 23, .bin .quo 0 (.t 21) (.t 22)⟩,
 .one ⟨some 24, .indexAddr 1 (.t 19) (.t 20)⟩,
 .one ⟨none, .store 1 (.t 24) (.t 23)⟩])
 (.region [.one ⟨some 25, .move (.t 1)⟩,
 .one ⟨some 26, .move (.t 7)⟩,
 .one ⟨some 27, .bin .rem 0 (.t 25) (.t 26)⟩,
 .one ⟨some 1, .move (.t 27)⟩]))))
 (.region [.one ⟨some 28, .bin .add 0 (.t 14) (.c (.int .i64 1))⟩,
 .one ⟨some 14, .move (.t 28)⟩]))))
def shape_Numbers_l0 : ACode :=
 (.loop [(1, .any), (5, .any), (12, .any), (13, .any), (14, .any)] [(0, [(5, .any)])] [] shape_Numbers_b0)
def shape_Numbers : AFunc := { params := [.any, .any], results := [.tmp 4], body :=
 (.seq (.region [.one ⟨some 4, .move (.c (.nil))⟩])
 (.seq (.region [.one ⟨some 8, .move (.t 0)⟩,
 .one ⟨some 9, .len (.t 8)⟩,
 .one ⟨some 10, .makeSlice 1 8 [.int .i64 0] (.t 9)⟩,
 .one ⟨some 5, .move (.t 10)⟩])
 (.seq (.seq (.region [.one ⟨some 11, .move (.t 0)⟩,
 .one ⟨some 12, .call false .any 198 [.t 11]⟩,
 .one ⟨some 13, .len (.t 12)⟩,
 .one ⟨some 14, .move (.c (.int .i64 0))⟩])
 (.block 0 shape_Numbers_l0))
 (.seq (.region [.one ⟨some 29, .move (.t 5)⟩,
 .one ⟨some 4, .move (.t 29)⟩])
 .ret)))) }
/-- gradus/shape.Place: number 196 -/
def shape_Place_b0 : ACode :=
 (.seq (.region [.one ⟨some 12, .bin .lss 0 (.t 11) (.t 10)⟩])
 (.seq (.cond (.t 12) .skip
 (.exit 0))
 (.seq (.block 1 (.seq (.region [.one ⟨some 13, .move (.t 11)⟩,
 .one ⟨some 14, .indexAddr 1 (.t 9) (.t 11)⟩,
 .one ⟨some 15, .load 1 false .any (.t 14)⟩,
 .one ⟨some 6, .move (.t 13)⟩,
 .one ⟨some 7, .move (.t 15)⟩])
 (.region [.one ⟨some 16, .move (.t 5)⟩,
 .one ⟨some 17, .move (.t 7)⟩,
 .one ⟨some 18, .move (.t 1)⟩,
 .one ⟨some 19, .move (.t 6)⟩,
 .one ⟨some 20, .indexAddr 1 (.t 18) (.t 19)⟩,
 .one ⟨some 21, .load 1 false .any (.t 20)⟩,
 .one ⟨some 22, .bin .mul 0 (.t 17) (.t 21)⟩,
 .one ⟨some 23, .bin .add 0 (.t 16) (.t 22)⟩,
 .one ⟨some 5, .move (.t 23)⟩])))
 (.region [.one ⟨some 24, .bin .add 0 (.t 11) (.c (.int .i64 1))⟩,
 .one ⟨some 11, .move (.t 24)⟩]))))
def shape_Place_l0 : ACode :=
 (.loop [(1, .any), (5, .any), (9, .any), (10, .any), (11, .any)] [(0, [(5, .any)])] [] shape_Place_b0)
def shape_Place : AFunc := { params := [.any, .any], results := [.tmp 4], body :=
 (.seq (.region [.one ⟨some 4, .move (.c (.int .i64 0))⟩])
 (.seq (.region [.one ⟨some 5, .move (.c (.int .i64 0))⟩])
 (.seq (.seq (.region [.one ⟨some 8, .move (.t 0)⟩,
 .one ⟨some 9, .call false .any 198 [.t 8]⟩,
 .one ⟨some 10, .len (.t 9)⟩,
 .one ⟨some 11, .move (.c (.int .i64 0))⟩])
 (.block 0 shape_Place_l0))
 (.seq (.region [.one ⟨some 25, .move (.t 5)⟩,
 .one ⟨some 4, .move (.t 25)⟩])
 .ret)))) }
/-- gradus/shape.Strides: number 198 -/
def shape_Strides_b0 : ACode :=
 (.seq (.region [.one ⟨some 11, .bin .lss 0 (.t 10) (.t 9)⟩])
 (.seq (.cond (.t 11) .skip
 (.exit 0))
 (.seq (.block 1 (.seq (.region [.one ⟨some 12, .move (.t 10)⟩,
 .one ⟨some 4, .move (.t 12)⟩])
 (.region [.one ⟨some 13, .move (.t 3)⟩,
 .one ⟨some 14, .move (.t 4)⟩,
 .one ⟨some 15, .move (.t 0)⟩,
 .one ⟨some 16, .move (.t 4)⟩,
 .one ⟨some 17, .bin .add 0 (.t 16) (.c (.int .i64 1))⟩,
 .one ⟨some 18, .cut 1 (.t 15) (some (.t 17)) none⟩,
 .one ⟨some 19, .call false .any 106 [.t 18]⟩,
 .one ⟨some 20, .indexAddr 1 (.t 13) (.t 14)⟩,
 .one ⟨none, .store 1 (.t 20) (.t 19)⟩])))
 (.region [.one ⟨some 21, .bin .add 0 (.t 10) (.c (.int .i64 1))⟩,
 .one ⟨some 10, .move (.t 21)⟩]))))
def shape_Strides_l0 : ACode :=
 (.loop [(0, .any), (3, .any), (9, .any), (10, .any)] [(0, [(3, .any)])] [] shape_Strides_b0)
def shape_Strides : AFunc := { params := [.any], results := [.tmp 2], body :=
 (.seq (.region [.one ⟨some 2, .move (.c (.nil))⟩])
 (.seq (.region [.one ⟨some 5, .move (.t 0)⟩,
 .one ⟨some 6, .len (.t 5)⟩,
 .one ⟨some 7, .makeSlice 1 8 [.int .i64 0] (.t 6)⟩,
 .one ⟨some 3, .move (.t 7)⟩])
 (.seq (.seq (.region [.one ⟨some 8, .move (.t 0)⟩,
 .one ⟨some 9, .len (.t 8)⟩,
 .one ⟨some 10, .move (.c (.int .i64 0))⟩])
 (.block 0 shape_Strides_l0))
 (.seq (.region [.one ⟨some 22, .move (.t 3)⟩,
 .one ⟨some 2, .move (.t 22)⟩])
 .ret)))) }
/-- gradus/gradusref0.CopyTensors: number 213 -/
def ref0_CopyTensors_b0 : ACode :=
 (.seq (.seq (.region [.one ⟨some 5, .move (.t 4)⟩,
 .one ⟨some 6, .move (.t 0)⟩,
 .one ⟨some 7, .len (.t 6)⟩,
 .one ⟨some 8, .bin .lss 0 (.t 5) (.t 7)⟩])
 (.cond (.t 8) .skip
 (.exit 0)))
 (.seq (.block 1 (.region [.one ⟨some 11, .move (.t 3)⟩,
 .one ⟨some 12, .move (.t 0)⟩,
 .one ⟨some 13, .move (.t 4)⟩,
 .one ⟨some 14, .indexAddr 2 (.t 12) (.t 13)⟩,
 .one ⟨some 15, .load 2 true .any (.t 14)⟩,
 .one ⟨some 16, .call false .any 235 [.t 15]⟩,
 .one ⟨some 17, .buildSlice 2 1 [.nil, .nil] [(0, .t 16)]⟩,
 .one ⟨some 18, .append 2 48 (.t 11) (.t 17)⟩,
 .one ⟨some 3, .move (.t 18)⟩]))
 (.region [.one ⟨some 9, .move (.t 4)⟩,
 .one ⟨some 10, .bin .add 0 (.t 9) (.c (.int .i64 1))⟩,
 .one ⟨some 4, .move (.t 10)⟩])))
def ref0_CopyTensors_l0 : ACode :=
 (.loop [(0, .any), (3, .any), (4, .any)] [(0, [(3, .any)])] [] ref0_CopyTensors_b0)
def ref0_CopyTensors : AFunc := { params := [.any], results := [.tmp 2], body :=
 (.seq (.region [.one ⟨some 2, .move (.c (.nil))⟩])
 (.seq (.region [.one ⟨some 3, .move (.c (.nil))⟩])
 (.seq (.seq (.region [.one ⟨some 4, .move (.c (.int .i64 0))⟩])
 (.block 0 ref0_CopyTensors_l0))
 (.seq (.region [.one ⟨some 19, .move (.t 3)⟩,
 .one ⟨some 2, .move (.t 19)⟩])
 .ret)))) }
/-- gradus/slope.All: number 214 -/
def slope_All : AFunc := { params := [.any, .any, .any], results := [.tmp 6, .tmp 7], body :=
 (.seq (.region [.one ⟨some 6, .move (.c (.nil))⟩,
 .one ⟨some 7, .move (.c (.int .i64 0))⟩])
 (.seq (.seq (.region [.one ⟨some 9, .move (.t 0)⟩,
 .one ⟨some 10, .move (.t 1)⟩,
 .one ⟨some 11, .move (.t 2)⟩,
 .one ⟨some 12, .call false .any 236 [.t 9, .t 10, .t 11]⟩,
 .one ⟨some 8, .move (.t 12)⟩])
 (.seq (.region [.one ⟨some 13, .move (.t 8)⟩,
 .one ⟨some 14, .bin .neq 0 (.t 13) (.c (.int .i64 0))⟩])
 (.cond (.t 14) (.seq (.region [.one ⟨some 15, .move (.t 8)⟩,
 .one ⟨some 6, .move (.c (.nil))⟩,
 .one ⟨some 7, .move (.t 15)⟩])
 .ret)
 .skip)))
 (.seq (.region [.one ⟨some 16, .move (.t 0)⟩,
 .one ⟨some 17, .move (.t 1)⟩,
 .one ⟨some 18, .move (.t 2)⟩,
 .one ⟨some 19, .call false .any 237 [.t 16, .t 17, .t 18]⟩,
 .one ⟨some 6, .move (.t 19)⟩,
 .one ⟨some 7, .move (.c (.int .i64 0))⟩])
 .ret))) }
/-- gradus/graduslaw11.num: number 215 -/
def law11_num : AFunc := { params := [.any], results := [.tmp 2], body :=
 (.seq (.region [.one ⟨some 2, .move (.c (.int .i64 0))⟩])
 (.seq (.region [.one ⟨some 3, .move (.t 0)⟩,
 .one ⟨some 2, .move (.t 3)⟩])
 .ret)) }
/-- gradus/graduslaw11.wakes: number 216 -/
def law11_wakes : AFunc := { params := [], results := [.tmp 0], body :=
 (.seq (.region [.one ⟨some 0, .move (.c (.bool false))⟩])
 (.seq (.region [.one ⟨some 4, .buildSlice 1 1 [.int .i64 0] [(0, .c (.int .i64 1))]⟩,
 .one ⟨some 5, .build [.str (bs []), .int .i64 0, .nil, .nil, .int .i64 0] [(0, 1, .c (.str (bs [97]))), (1, 1, .c (.int .i64 2)), (3, 1, .t 4)]⟩,
 .one ⟨some 6, .buildSlice 1 2 [.int .i64 0] [(0, .c (.int .i64 0)), (1, .c (.int .i64 0))]⟩,
 .one ⟨some 7, .buildSlice 1 1 [.int .i64 0] [(0, .c (.int .i64 1))]⟩,
 .one ⟨some 8, .build [.str (bs []), .int .i64 0, .nil, .nil, .int .i64 0] [(0, 1, .c (.str (bs [98]))), (1, 1, .c (.int .i64 6)), (2, 1, .t 6), (3, 1, .t 7)]⟩,
 .one ⟨some 9, .buildSlice 5 2 [.str (bs []), .int .i64 0, .nil, .nil, .int .i64 0] [(0, .t 5), (1, .t 8)]⟩,
 .one ⟨some 1, .move (.t 9)⟩])
 (.seq (.region [.one ⟨some 11, .move (.t 1)⟩,
 .one ⟨some 12, .buildSlice 1 1 [.int .i64 0] [(0, .c (.int .i64 1))]⟩,
 .one ⟨some 13, .buildSlice 1 1 [.int .i64 0] [(0, .c (.int .i64 3))]⟩,
 .one ⟨some 14, .build [.nil, .nil] [(0, 1, .t 12), (1, 1, .t 13)]⟩,
 .one ⟨some 15, .buildSlice 2 1 [.nil, .nil] [(0, .t 14)]⟩,
 .one ⟨some 16, .buildSlice 1 1 [.int .i64 0] [(0, .c (.int .i64 1))]⟩,
 .one ⟨some 17, .buildSlice 1 1 [.int .i64 0] [(0, .c (.int .i64 1))]⟩,
 .one ⟨some 18, .build [.nil, .nil] [(0, 1, .t 16), (1, 1, .t 17)]⟩,
 .one ⟨some 19, .buildSlice 2 1 [.nil, .nil] [(0, .t 18)]⟩,
 .one ⟨some 20, .call false .any 238 [.t 11, .t 15, .t 19]⟩,
 .one ⟨some 10, .move (.t 20)⟩,
 .one ⟨some 21, .extract (.t 10) 0⟩,
 .one ⟨some 22, .extract (.t 10) 1⟩,
 .one ⟨some 2, .move (.t 21)⟩,
 .one ⟨some 3, .move (.t 22)⟩])
 (.seq (.region [.one ⟨some 23, .move (.t 3)⟩,
 .one ⟨some 24, .call false .any 215 [.t 23]⟩,
 .one ⟨some 25, .bin .eql 0 (.t 24) (.c (.int .i64 0))⟩,
 .one ⟨some 26, .move (.t 25)⟩,
 .grd 26 true [⟨some 27, .move (.t 2)⟩, ⟨some 28, .bin .eql 0 (.t 27) (.c (.int .i64 6))⟩],
 .one ⟨some 29, .pick (.t 26) (.t 28) (.c (.bool false))⟩,
 .one ⟨some 0, .move (.t 29)⟩])
 .ret)))) }
/-- gradus/graduslaw11.of: number 218 -/
def law11_of_b0 : ACode :=
 (.seq (.seq (.region [.one ⟨some 31, .move (.t 9)⟩,
 .one ⟨some 32, .move (.t 7)⟩,
 .one ⟨some 33, .move (.t 8)⟩,
 .one ⟨some 34, .indexAddr 2 (.t 32) (.t 33)⟩,
 .one ⟨some 35, .fieldAddr 1 (.t 34)⟩,
 .one ⟨some 36, .load 1 false .any (.t 35)⟩,
 .one ⟨some 37, .len (.t 36)⟩,
 .one ⟨some 38, .bin .lss 0 (.t 31) (.t 37)⟩])
 (.cond (.t 38) .skip
 (.exit 2)))
 (.seq (.block 3 (.region [.one ⟨some 41, .move (.t 7)⟩,
 .one ⟨some 42, .move (.t 8)⟩,
 .one ⟨some 43, .indexAddr 2 (.t 41) (.t 42)⟩,
 .one ⟨some 44, .fieldAddr 1 (.t 43)⟩,
 .one ⟨some 45, .load 1 false .any (.t 44)⟩,
 .one ⟨some 46, .move (.t 9)⟩,
 .one ⟨some 47, .move (.t 9)⟩,
 .one ⟨some 48, .move (.t 9)⟩,
 .one ⟨some 49, .bin .mul 0 (.t 47) (.t 48)⟩,
 .one ⟨some 50, .move (.t 8)⟩,
 .one ⟨some 51, .bin .mul 0 (.c (.int .i64 3)) (.t 50)⟩,
 .one ⟨some 52, .bin .sub 0 (.t 49) (.t 51)⟩,
 .one ⟨some 53, .bin .add 0 (.t 52) (.c (.int .i64 1))⟩,
 .one ⟨some 54, .indexAddr 1 (.t 45) (.t 46)⟩,
 .one ⟨none, .store 1 (.t 54) (.t 53)⟩]))
 (.region [.one ⟨some 39, .move (.t 9)⟩,
 .one ⟨some 40, .bin .add 0 (.t 39) (.c (.int .i64 1))⟩,
 .one ⟨some 9, .move (.t 40)⟩])))
def law11_of_l0 : ACode :=
 (.loop [(5, .any), (6, .any), (7, .any), (8, .any), (9, .any)] [(2, [(5, .any), (6, .any), (7, .any), (8, .any)])] [] law11_of_b0)
def law11_of_b1 : ACode :=
 (.seq (.seq (.region [.one ⟨some 25, .move (.t 8)⟩,
 .one ⟨some 26, .move (.t 7)⟩,
 .one ⟨some 27, .len (.t 26)⟩,
 .one ⟨some 28, .bin .lss 0 (.t 25) (.t 27)⟩])
 (.cond (.t 28) .skip
 (.exit 0)))
 (.seq (.block 1 (.seq (.region [.one ⟨some 9, .move (.c (.int .i64 0))⟩])
 (.block 2 law11_of_l0)))
 (.region [.one ⟨some 29, .move (.t 8)⟩,
 .one ⟨some 30, .bin .add 0 (.t 29) (.c (.int .i64 1))⟩,
 .one ⟨some 8, .move (.t 30)⟩])))
def law11_of_l1 : ACode :=
 (.loop [(5, .any), (6, .any), (7, .any), (8, .any)] [(0, [(5, .any), (6, .any), (7, .any)])] [] law11_of_b1)
def law11_of : AFunc := { params := [.any, .any], results := [.tmp 4], body :=
 (.seq (.region [.one ⟨some 2, .box (.t 0)⟩,
 .one ⟨some 4, .move (.c (.bool false))⟩])
 (.seq (.seq (.region [.one ⟨some 15, .load 5 true .any (.t 2)⟩,
 .one ⟨some 16, .call false .any 36 [.t 15]⟩])
 (.cond (.t 16) (.seq (.region [.one ⟨some 4, .move (.c (.bool true))⟩])
 .ret)
 .skip))
 (.seq (.region [.one ⟨some 18, .load 5 true .any (.t 2)⟩,
 .one ⟨some 19, .move (.t 1)⟩,
 .one ⟨some 20, .call false .any 231 [.t 18, .t 19]⟩,
 .one ⟨some 17, .move (.t 20)⟩,
 .one ⟨some 21, .extract (.t 17) 0⟩,
 .one ⟨some 22, .extract (.t 17) 1⟩,
 .one ⟨some 5, .move (.t 21)⟩,
 .one ⟨some 6, .move (.t 22)⟩])
 (.seq (.region [.one ⟨some 23, .move (.t 6)⟩,
 .one ⟨some 24, .call false .any 213 [.t 23]⟩,
 .one ⟨some 7, .move (.t 24)⟩])
 (.seq (.seq (.region [.one ⟨some 8, .move (.c (.int .i64 0))⟩])
 (.block 0 law11_of_l1))
 (.seq (.region [.one ⟨some 56, .move (.t 5)⟩,
 .one ⟨some 57, .move (.t 6)⟩,
 .one ⟨some 58, .move (.t 7)⟩,
 .one ⟨some 59, .call false .any 214 [.t 56, .t 57, .t 58]⟩,
 .one ⟨some 55, .move (.t 59)⟩,
 .one ⟨some 60, .extract (.t 55) 0⟩,
 .one ⟨some 61, .extract (.t 55) 1⟩,
 .one ⟨some 10, .move (.t 60)⟩,
 .one ⟨some 11, .move (.t 61)⟩])
 (.seq (.region [.one ⟨some 63, .move (.t 5)⟩,
 .one ⟨some 64, .move (.t 6)⟩,
 .one ⟨some 65, .move (.t 7)⟩,
 .one ⟨some 66, .call false .any 238 [.t 63, .t 64, .t 65]⟩,
 .one ⟨some 62, .move (.t 66)⟩,
 .one ⟨some 67, .extract (.t 62) 0⟩,
 .one ⟨some 68, .extract (.t 62) 1⟩,
 .one ⟨some 12, .move (.t 67)⟩,
 .one ⟨some 13, .move (.t 68)⟩])
 (.seq (.region [.one ⟨some 69, .move (.t 5)⟩,
 .one ⟨some 70, .move (.t 6)⟩,
 .one ⟨some 71, .move (.t 7)⟩,
 .one ⟨some 72, .call false .any 239 [.t 69, .t 70, .t 71]⟩,
 .one ⟨some 14, .move (.t 72)⟩])
 (.seq (.region [.one ⟨some 73, .move (.t 11)⟩,
 .one ⟨some 74, .call false .any 215 [.t 73]⟩,
 .one ⟨some 75, .bin .eql 0 (.t 74) (.c (.int .i64 0))⟩,
 .one ⟨some 76, .move (.t 75)⟩,
 .grd 76 true [⟨some 77, .move (.t 13)⟩, ⟨some 78, .call false .any 215 [.t 77]⟩, ⟨some 79, .bin .eql 0 (.t 78) (.c (.int .i64 0))⟩],
 .one ⟨some 80, .pick (.t 76) (.t 79) (.c (.bool false))⟩,
 .one ⟨some 81, .move (.t 80)⟩,
 .grd 81 true [⟨some 82, .move (.t 10)⟩, ⟨some 83, .move (.t 14)⟩, ⟨some 84, .call false .any 233 [.t 82, .t 83]⟩],
 .one ⟨some 85, .pick (.t 81) (.t 84) (.c (.bool false))⟩,
 .one ⟨some 86, .move (.t 85)⟩,
 .grd 86 true [⟨some 87, .move (.t 12)⟩, ⟨some 88, .move (.t 14)⟩, ⟨some 89, .move (.t 14)⟩, ⟨some 90, .len (.t 89)⟩, ⟨some 91, .bin .sub 0 (.t 90) (.c (.int .i64 1))⟩, ⟨some 92, .indexAddr 2 (.t 88) (.t 91)⟩, ⟨some 93, .fieldAddr 1 (.t 92)⟩, ⟨some 94, .load 1 false .any (.t 93)⟩, ⟨some 95, .indexAddr 1 (.t 94) (.c (.int .i64 0))⟩, ⟨some 96, .load 1 false .any (.t 95)⟩, ⟨some 97, .bin .eql 0 (.t 87) (.t 96)⟩],
 .one ⟨some 98, .pick (.t 86) (.t 97) (.c (.bool false))⟩,
 .one ⟨some 99, .move (.t 98)⟩,
 .grd 99 true [⟨some 100, .call false .any 216 []⟩],
 .one ⟨some 101, .pick (.t 99) (.t 100) (.c (.bool false))⟩,
 .one ⟨some 4, .move (.t 101)⟩])
 .ret))))))))) }
/-- gradus/graduslaw11.SlopeAdd: number 219 -/
def law11_SlopeAdd : AFunc := { params := [.any], results := [.tmp 2], body :=
 (.seq (.region [.one ⟨some 1, .box (.t 0)⟩,
 .one ⟨some 2, .move (.c (.bool false))⟩])
 (.seq (.region [.one ⟨some 3, .load 5 true .any (.t 1)⟩,
 .one ⟨some 4, .call false .any 218 [.t 3, .c (.int .i64 4)]⟩,
 .one ⟨some 2, .move (.t 4)⟩])
 .ret)) }
/-- gradus/graduslaw11.SlopeSub: number 220 -/
def law11_SlopeSub : AFunc := { params := [.any], results := [.tmp 2], body :=
 (.seq (.region [.one ⟨some 1, .box (.t 0)⟩,
 .one ⟨some 2, .move (.c (.bool false))⟩])
 (.seq (.region [.one ⟨some 3, .load 5 true .any (.t 1)⟩,
 .one ⟨some 4, .call false .any 218 [.t 3, .c (.int .i64 5)]⟩,
 .one ⟨some 2, .move (.t 4)⟩])
 .ret)) }
/-- gradus/graduslaw11.SlopeMul: number 221 -/
def law11_SlopeMul : AFunc := { params := [.any], results := [.tmp 2], body :=
 (.seq (.region [.one ⟨some 1, .box (.t 0)⟩,
 .one ⟨some 2, .move (.c (.bool false))⟩])
 (.seq (.region [.one ⟨some 3, .load 5 true .any (.t 1)⟩,
 .one ⟨some 4, .call false .any 218 [.t 3, .c (.int .i64 6)]⟩,
 .one ⟨some 2, .move (.t 4)⟩])
 .ret)) }
/-- gradus/graduslaw11.SlopeNeg: number 222 -/
def law11_SlopeNeg : AFunc := { params := [.any], results := [.tmp 2], body :=
 (.seq (.region [.one ⟨some 1, .box (.t 0)⟩,
 .one ⟨some 2, .move (.c (.bool false))⟩])
 (.seq (.region [.one ⟨some 3, .load 5 true .any (.t 1)⟩,
 .one ⟨some 4, .call false .any 218 [.t 3, .c (.int .i64 7)]⟩,
 .one ⟨some 2, .move (.t 4)⟩])
 .ret)) }
/-- gradus/graduslaw11.SlopeScale: number 223 -/
def law11_SlopeScale : AFunc := { params := [.any], results := [.tmp 2], body :=
 (.seq (.region [.one ⟨some 1, .box (.t 0)⟩,
 .one ⟨some 2, .move (.c (.bool false))⟩])
 (.seq (.region [.one ⟨some 3, .load 5 true .any (.t 1)⟩,
 .one ⟨some 4, .call false .any 218 [.t 3, .c (.int .i64 8)]⟩,
 .one ⟨some 2, .move (.t 4)⟩])
 .ret)) }
/-- gradus/graduslaw11.SlopeMat: number 224 -/
def law11_SlopeMat : AFunc := { params := [.any], results := [.tmp 2], body :=
 (.seq (.region [.one ⟨some 1, .box (.t 0)⟩,
 .one ⟨some 2, .move (.c (.bool false))⟩])
 (.seq (.region [.one ⟨some 3, .load 5 true .any (.t 1)⟩,
 .one ⟨some 4, .call false .any 218 [.t 3, .c (.int .i64 9)]⟩,
 .one ⟨some 2, .move (.t 4)⟩])
 .ret)) }
/-- gradus/graduslaw11.SlopeTurn: number 225 -/
def law11_SlopeTurn : AFunc := { params := [.any], results := [.tmp 2], body :=
 (.seq (.region [.one ⟨some 1, .box (.t 0)⟩,
 .one ⟨some 2, .move (.c (.bool false))⟩])
 (.seq (.region [.one ⟨some 3, .load 5 true .any (.t 1)⟩,
 .one ⟨some 4, .call false .any 218 [.t 3, .c (.int .i64 10)]⟩,
 .one ⟨some 2, .move (.t 4)⟩])
 .ret)) }
/-- gradus/graduslaw11.SlopeShape: number 226 -/
def law11_SlopeShape : AFunc := { params := [.any], results := [.tmp 2], body :=
 (.seq (.region [.one ⟨some 1, .box (.t 0)⟩,
 .one ⟨some 2, .move (.c (.bool false))⟩])
 (.seq (.region [.one ⟨some 3, .load 5 true .any (.t 1)⟩,
 .one ⟨some 4, .call false .any 218 [.t 3, .c (.int .i64 11)]⟩,
 .one ⟨some 2, .move (.t 4)⟩])
 .ret)) }
/-- gradus/graduslaw11.SlopeWide: number 227 -/
def law11_SlopeWide : AFunc := { params := [.any], results := [.tmp 2], body :=
 (.seq (.region [.one ⟨some 1, .box (.t 0)⟩,
 .one ⟨some 2, .move (.c (.bool false))⟩])
 (.seq (.region [.one ⟨some 3, .load 5 true .any (.t 1)⟩,
 .one ⟨some 4, .call false .any 218 [.t 3, .c (.int .i64 12)]⟩,
 .one ⟨some 2, .move (.t 4)⟩])
 .ret)) }
/-- gradus/graduslaw11.SlopeSum: number 228 -/
def law11_SlopeSum : AFunc := { params := [.any], results := [.tmp 2], body :=
 (.seq (.region [.one ⟨some 1, .box (.t 0)⟩,
 .one ⟨some 2, .move (.c (.bool false))⟩])
 (.seq (.region [.one ⟨some 3, .load 5 true .any (.t 1)⟩,
 .one ⟨some 4, .call false .any 218 [.t 3, .c (.int .i64 13)]⟩,
 .one ⟨some 2, .move (.t 4)⟩])
 .ret)) }
/-- gradus/graduslaw11.SlopeRelu: number 229 -/
def law11_SlopeRelu : AFunc := { params := [.any], results := [.tmp 2], body :=
 (.seq (.region [.one ⟨some 1, .box (.t 0)⟩,
 .one ⟨some 2, .move (.c (.bool false))⟩])
 (.seq (.region [.one ⟨some 3, .load 5 true .any (.t 1)⟩,
 .one ⟨some 4, .call false .any 218 [.t 3, .c (.int .i64 14)]⟩,
 .one ⟨some 2, .move (.t 4)⟩])
 .ret)) }
/-- gradus/graduslaw11.SlopeMax: number 230 -/
def law11_SlopeMax : AFunc := { params := [.any], results := [.tmp 2], body :=
 (.seq (.region [.one ⟨some 1, .box (.t 0)⟩,
 .one ⟨some 2, .move (.c (.bool false))⟩])
 (.seq (.region [.one ⟨some 3, .load 5 true .any (.t 1)⟩,
 .one ⟨some 4, .call false .any 218 [.t 3, .c (.int .i64 15)]⟩,
 .one ⟨some 2, .move (.t 4)⟩])
 .ret)) }
/-- gradus/graduslaw10.Made: number 231 -/
def law10_Made_b0 : ACode :=
 (.seq (.seq (.region [.one ⟨some 118, .move (.t 13)⟩,
 .one ⟨some 119, .move (.t 12)⟩,
 .one ⟨some 120, .len (.t 119)⟩,
 .one ⟨some 121, .bin .lss 0 (.t 118) (.t 120)⟩])
 (.cond (.t 121) .skip
 (.exit 1)))
 (.seq (.block 2 (.region [.one ⟨some 124, .move (.t 12)⟩,
 .one ⟨some 125, .move (.t 13)⟩,
 .one ⟨some 126, .indexAddr 1 (.t 124) (.t 125)⟩,
 .one ⟨none, .store 1 (.t 126) (.c (.int .i64 1))⟩]))
 (.region [.one ⟨some 122, .move (.t 13)⟩,
 .one ⟨some 123, .bin .add 0 (.t 122) (.c (.int .i64 1))⟩,
 .one ⟨some 13, .move (.t 123)⟩])))
def law10_Made_l0 : ACode :=
 (.loop [(2, .any), (8, .any), (9, .any), (10, .any), (12, .any), (13, .any)] [(1, [(2, .any), (8, .any), (9, .any), (10, .any), (12, .any)])] [] law10_Made_b0)
def law10_Made_b1 : ACode :=
 (.seq (.seq (.region [.one ⟨some 148, .move (.t 18)⟩,
 .one ⟨some 149, .fieldAddr 1 (.t 17)⟩,
 .one ⟨some 150, .load 1 false .any (.t 149)⟩,
 .one ⟨some 151, .len (.t 150)⟩,
 .one ⟨some 152, .bin .lss 0 (.t 148) (.t 151)⟩])
 (.cond (.t 152) .skip
 (.exit 5)))
 (.seq (.block 6 (.seq (.region [.one ⟨some 155, .fieldAddr 1 (.t 17)⟩,
 .one ⟨some 156, .load 1 false .any (.t 155)⟩,
 .one ⟨some 157, .move (.t 18)⟩,
 .one ⟨some 158, .move (.t 18)⟩,
 .one ⟨some 159, .move (.t 16)⟩,
 .one ⟨some 160, .bin .add 0 (.c (.int .i64 3)) (.t 159)⟩,
 .one ⟨some 161, .bin .mul 0 (.t 158) (.t 160)⟩,
 .one ⟨some 162, .bin .sub 0 (.t 161) (.c (.int .i64 4))⟩,
 .one ⟨some 163, .fieldAddr 3 (.t 2)⟩,
 .one ⟨some 164, .load 1 false .any (.t 163)⟩,
 .one ⟨some 165, .len (.t 164)⟩,
 .one ⟨some 166, .bin .add 0 (.t 162) (.t 165)⟩,
 .one ⟨some 167, .indexAddr 1 (.t 156) (.t 157)⟩,
 .one ⟨none, .store 1 (.t 167) (.t 166)⟩])
 (.seq (.region [.one ⟨some 168, .fieldAddr 3 (.t 2)⟩,
 .one ⟨some 169, .load 1 false .any (.t 168)⟩,
 .one ⟨some 170, .len (.t 169)⟩,
 .one ⟨some 171, .bin .gtr 0 (.t 170) (.c (.int .i64 0))⟩,
 .one ⟨some 172, .move (.t 171)⟩,
 .grd 172 true [⟨some 173, .fieldAddr 3 (.t 2)⟩, ⟨some 174, .load 1 false .any (.t 173)⟩, ⟨some 175, .indexAddr 1 (.t 174) (.c (.int .i64 0))⟩, ⟨some 176, .load 1 false .any (.t 175)⟩, ⟨some 177, .len (.t 176)⟩, ⟨some 178, .bin .gtr 0 (.t 177) (.c (.int .i64 0))⟩],
 .one ⟨some 179, .pick (.t 172) (.t 178) (.c (.bool false))⟩,
 .one ⟨some 180, .move (.t 179)⟩,
 .grd 180 true [⟨some 181, .fieldAddr 3 (.t 2)⟩, ⟨some 182, .load 1 false .any (.t 181)⟩, ⟨some 183, .indexAddr 1 (.t 182) (.c (.int .i64 0))⟩, ⟨some 184, .load 1 false .any (.t 183)⟩, ⟨some 185, .indexAddr 2 (.t 184) (.c (.int .i64 0))⟩, ⟨some 186, .fieldAddr 1 (.t 185)⟩, ⟨some 187, .load 1 false .any (.t 186)⟩, ⟨some 188, .len (.t 187)⟩, ⟨some 189, .bin .gtr 0 (.t 188) (.c (.int .i64 0))⟩],
 .one ⟨some 190, .pick (.t 180) (.t 189) (.c (.bool false))⟩])
 (.cond (.t 190) (.region [.one ⟨some 191, .fieldAddr 1 (.t 17)⟩,
 .one ⟨some 192, .load 1 false .any (.t 191)⟩,
 .one ⟨some 193, .move (.t 18)⟩,
 .one ⟨some 194, .fieldAddr 1 (.t 17)⟩,
 .one ⟨some 195, .load 1 false .any (.t 194)⟩,
 .one ⟨some 196, .move (.t 18)⟩,
 .one ⟨some 197, .indexAddr 1 (.t 195) (.t 196)⟩,
 .one ⟨some 198, .load 1 false .any (.t 197)⟩,
 .one ⟨some 199, .fieldAddr 3 (.t 2)⟩,
 .one ⟨some 200, .load 1 false .any (.t 199)⟩,
 .one ⟨some 201, .indexAddr 1 (.t 200) (.c (.int .i64 0))⟩,
 .one ⟨some 202, .load 1 false .any (.t 201)⟩,
 .one ⟨some 203, .indexAddr 2 (.t 202) (.c (.int .i64 0))⟩,
 .one ⟨some 204, .fieldAddr 1 (.t 203)⟩,
 .one ⟨some 205, .load 1 false .any (.t 204)⟩,
 .one ⟨some 206, .move (.t 18)⟩,
 .one ⟨some 207, .fieldAddr 3 (.t 2)⟩,
 .one ⟨some 208, .load 1 false .any (.t 207)⟩,
 .one ⟨some 209, .indexAddr 1 (.t 208) (.c (.int .i64 0))⟩,
 .one ⟨some 210, .load 1 false .any (.t 209)⟩,
 .one ⟨some 211, .indexAddr 2 (.t 210) (.c (.int .i64 0))⟩,
 .one ⟨some 212, .fieldAddr 1 (.t 211)⟩,
 .one ⟨some 213, .load 1 false .any (.t 212)⟩,
 .one ⟨some 214, .len (.t 213)⟩,
 .one ⟨some 215, .bin .rem 0 (.t 206) (.t 214)⟩,
 .one ⟨some 216, .indexAddr 1 (.t 205) (.t 215)⟩,
 .one ⟨some 217, .load 1 false .any (.t 216)⟩,
 .one ⟨some 218, .bin .add 0 (.t 198) (.t 217)⟩,
 .one ⟨some 219, .indexAddr 1 (.t 192) (.t 193)⟩,
 .one ⟨none, .store 1 (.t 219) (.t 218)⟩])
 .skip))))
 (.region [.one ⟨some 153, .move (.t 18)⟩,
 .one ⟨some 154, .bin .add 0 (.t 153) (.c (.int .i64 1))⟩,
 .one ⟨some 18, .move (.t 154)⟩])))
def law10_Made_l1 : ACode :=
 (.loop [(2, .any), (8, .any), (9, .any), (14, .any), (15, .any), (16, .any), (17, .any), (18, .any)] [(5, [(2, .any), (8, .any), (9, .any), (14, .any), (15, .any), (16, .any), (17, .any)])] [] law10_Made_b1)
def law10_Made_b2 : ACode :=
 (.seq (.seq (.region [.one ⟨some 140, .move (.t 16)⟩,
 .one ⟨some 141, .move (.t 14)⟩,
 .one ⟨some 142, .len (.t 141)⟩,
 .one ⟨some 143, .bin .lss 0 (.t 140) (.t 142)⟩])
 (.cond (.t 143) .skip
 (.exit 3)))
 (.seq (.block 4 (.seq (.region [.one ⟨some 146, .move (.t 8)⟩,
 .one ⟨some 147, .call false .any 240 [.t 146, .c (.int .i64 0)]⟩,
 .one ⟨some 17, .alloc [.nil, .nil]⟩,
 .one ⟨none, .store 2 (.t 17) (.t 147)⟩])
 (.seq (.seq (.region [.one ⟨some 18, .move (.c (.int .i64 0))⟩])
 (.block 5 law10_Made_l1))
 (.region [.one ⟨some 220, .move (.t 15)⟩,
 .one ⟨some 221, .load 2 true .any (.t 17)⟩,
 .one ⟨some 222, .buildSlice 2 1 [.nil, .nil] [(0, .t 221)]⟩,
 .one ⟨some 223, .append 2 48 (.t 220) (.t 222)⟩,
 .one ⟨some 15, .move (.t 223)⟩]))))
 (.region [.one ⟨some 144, .move (.t 16)⟩,
 .one ⟨some 145, .bin .add 0 (.t 144) (.c (.int .i64 1))⟩,
 .one ⟨some 16, .move (.t 145)⟩])))
def law10_Made_l2 : ACode :=
 (.loop [(2, .any), (8, .any), (9, .any), (14, .any), (15, .any), (16, .any)] [(3, [(9, .any), (15, .any)])] [] law10_Made_b2)
def law10_Made : AFunc := { params := [.any, .any], results := [.tmp 4, .tmp 5], body :=
 (.seq (.region [.one ⟨some 2, .box (.t 0)⟩,
 .one ⟨some 4, .move (.c (.nil))⟩,
 .one ⟨some 5, .move (.c (.nil))⟩])
 (.seq (.region [.one ⟨some 19, .fieldAddr 0 (.t 2)⟩,
 .one ⟨some 20, .fieldAddr 0 (.t 19)⟩,
 .one ⟨some 21, .load 1 false .any (.t 20)⟩,
 .one ⟨some 22, .len (.t 21)⟩,
 .one ⟨some 23, .bin .rem 0 (.t 22) (.c (.int .i64 3))⟩,
 .one ⟨some 24, .bin .add 0 (.c (.int .i64 1)) (.t 23)⟩,
 .one ⟨some 25, .fieldAddr 3 (.t 2)⟩,
 .one ⟨some 26, .load 1 false .any (.t 25)⟩,
 .one ⟨some 27, .len (.t 26)⟩,
 .one ⟨some 28, .fieldAddr 4 (.t 2)⟩,
 .one ⟨some 29, .load 1 false .any (.t 28)⟩,
 .one ⟨some 30, .len (.t 29)⟩,
 .one ⟨some 31, .bin .add 0 (.t 27) (.t 30)⟩,
 .one ⟨some 32, .bin .rem 0 (.t 31) (.c (.int .i64 3))⟩,
 .one ⟨some 33, .bin .add 0 (.c (.int .i64 1)) (.t 32)⟩,
 .one ⟨some 6, .move (.t 24)⟩,
 .one ⟨some 7, .move (.t 33)⟩])
 (.seq (.seq (.region [.one ⟨some 34, .move (.t 1)⟩,
 .one ⟨some 35, .bin .eql 0 (.t 34) (.c (.int .i64 9))⟩])
 (.cond (.t 35) (.region [.one ⟨some 36, .move (.t 6)⟩,
 .one ⟨some 7, .move (.t 36)⟩])
 .skip))
 (.seq (.seq (.region [.one ⟨some 37, .move (.t 1)⟩,
 .one ⟨some 38, .bin .eql 0 (.t 37) (.c (.int .i64 15))⟩,
 .one ⟨some 39, .move (.t 38)⟩,
 .grd 39 false [⟨some 40, .move (.t 1)⟩, ⟨some 41, .bin .eql 0 (.t 40) (.c (.int .i64 11))⟩],
 .one ⟨some 42, .pick (.t 39) (.c (.bool true)) (.t 41)⟩])
 (.cond (.t 42) (.region [.one ⟨some 7, .move (.c (.int .i64 2))⟩])
 .skip))
 (.seq (.region [.one ⟨some 43, .move (.t 6)⟩,
 .one ⟨some 44, .move (.t 7)⟩,
 .one ⟨some 45, .buildSlice 1 2 [.int .i64 0] [(0, .t 43), (1, .t 44)]⟩,
 .one ⟨some 8, .move (.t 45)⟩])
 (.seq (.region [.one ⟨some 46, .move (.t 8)⟩,
 .one ⟨some 47, .build [.str (bs []), .int .i64 0, .nil, .nil, .int .i64 0] [(0, 1, .c (.str (bs [120]))), (1, 1, .c (.int .i64 1)), (3, 1, .t 46)]⟩,
 .one ⟨some 48, .move (.t 8)⟩,
 .one ⟨some 49, .build [.str (bs []), .int .i64 0, .nil, .nil, .int .i64 0] [(0, 1, .c (.str (bs [119]))), (1, 1, .c (.int .i64 2)), (3, 1, .t 48)]⟩,
 .one ⟨some 50, .buildSlice 1 2 [.int .i64 0] [(0, .c (.int .i64 0)), (1, .c (.int .i64 1))]⟩,
 .one ⟨some 51, .move (.t 8)⟩,
 .one ⟨some 52, .build [.str (bs []), .int .i64 0, .nil, .nil, .int .i64 0] [(0, 1, .c (.str (bs [118]))), (1, 1, .c (.int .i64 6)), (2, 1, .t 50), (3, 1, .t 51)]⟩,
 .one ⟨some 53, .buildSlice 5 3 [.str (bs []), .int .i64 0, .nil, .nil, .int .i64 0] [(0, .t 47), (1, .t 49), (2, .t 52)]⟩,
 .one ⟨some 9, .move (.t 53)⟩])
 (.seq (.region [.one ⟨some 54, .move (.t 1)⟩,
 .one ⟨some 55, .buildSlice 1 1 [.int .i64 0] [(0, .c (.int .i64 2))]⟩,
 .one ⟨some 56, .build [.str (bs []), .int .i64 0, .nil, .nil, .int .i64 0] [(0, 1, .c (.str (bs [107]))), (1, 1, .t 54), (2, 1, .t 55)]⟩,
 .one ⟨some 10, .alloc [.str (bs []), .int .i64 0, .nil, .nil, .int .i64 0]⟩,
 .one ⟨none, .store 5 (.t 10) (.t 56)⟩])
 (.seq (.seq (.region [.one ⟨some 57, .move (.t 1)⟩,
 .one ⟨some 58, .call false .any 100 [.t 57]⟩,
 .one ⟨some 59, .bin .eql 0 (.t 58) (.c (.int .i64 2))⟩])
 (.cond (.t 59) (.region [.one ⟨some 60, .buildSlice 1 2 [.int .i64 0] [(0, .c (.int .i64 2)), (1, .c (.int .i64 1))]⟩,
 .one ⟨some 61, .fieldAddr 2 (.t 10)⟩,
 .one ⟨none, .store 1 (.t 61) (.t 60)⟩])
 .skip))
 (.seq (.seq (.region [.one ⟨some 62, .move (.t 1)⟩])
 (.block 0 (.seq (.region [.one ⟨some 64, .bin .eql 0 (.t 62) (.c (.int .i64 8))⟩,
 .one ⟨some 63, .move (.t 64)⟩])
 (.cond (.t 63) (.region [.one ⟨some 65, .fieldAddr 4 (.t 10)⟩,
 .one ⟨none, .store 1 (.t 65) (.c (.int .i64 (-3)))⟩])
 (.seq (.region [.one ⟨some 67, .bin .eql 0 (.t 62) (.c (.int .i64 15))⟩,
 .one ⟨some 66, .move (.t 67)⟩])
 (.cond (.t 66) (.region [.one ⟨some 68, .fieldAddr 4 (.t 10)⟩,
 .one ⟨none, .store 1 (.t 68) (.c (.int .i64 2))⟩])
 (.seq (.region [.one ⟨some 70, .bin .eql 0 (.t 62) (.c (.int .i64 11))⟩,
 .one ⟨some 69, .move (.t 70)⟩])
 (.cond (.t 69) (.region [.one ⟨some 71, .move (.t 6)⟩,
 .one ⟨some 72, .move (.t 7)⟩,
 .one ⟨some 73, .bin .mul 0 (.t 71) (.t 72)⟩,
 .one ⟨some 74, .buildSlice 1 1 [.int .i64 0] [(0, .t 73)]⟩,
 .one ⟨some 75, .fieldAddr 3 (.t 10)⟩,
 .one ⟨none, .store 1 (.t 75) (.t 74)⟩])
 (.seq (.region [.one ⟨some 77, .bin .eql 0 (.t 62) (.c (.int .i64 12))⟩,
 .one ⟨some 76, .move (.t 77)⟩])
 (.cond (.t 76) (.seq (.region [.one ⟨some 78, .move (.t 9)⟩,
 .one ⟨some 79, .buildSlice 1 1 [.int .i64 0] [(0, .c (.int .i64 1))]⟩,
 .one ⟨some 80, .move (.t 7)⟩,
 .one ⟨some 81, .buildSlice 1 2 [.int .i64 0] [(0, .c (.int .i64 1)), (1, .t 80)]⟩,
 .one ⟨some 82, .build [.str (bs []), .int .i64 0, .nil, .nil, .int .i64 0] [(0, 1, .c (.str (bs [118]))), (1, 1, .c (.int .i64 13)), (2, 1, .t 79), (3, 1, .t 81)]⟩,
 .one ⟨some 83, .indexAddr 5 (.t 78) (.c (.int .i64 2))⟩,
 .one ⟨none, .store 5 (.t 83) (.t 82)⟩])
 (.region [.one ⟨some 84, .move (.t 6)⟩,
 .one ⟨some 85, .bin .add 0 (.t 84) (.c (.int .i64 1))⟩,
 .one ⟨some 86, .move (.t 7)⟩,
 .one ⟨some 87, .buildSlice 1 2 [.int .i64 0] [(0, .t 85), (1, .t 86)]⟩,
 .one ⟨some 88, .fieldAddr 3 (.t 10)⟩,
 .one ⟨none, .store 1 (.t 88) (.t 87)⟩]))
 (.seq (.region [.one ⟨some 90, .bin .eql 0 (.t 62) (.c (.int .i64 13))⟩,
 .one ⟨some 89, .move (.t 90)⟩])
 (.cond (.t 89) (.region [.one ⟨some 91, .move (.t 6)⟩,
 .one ⟨some 92, .buildSlice 1 2 [.int .i64 0] [(0, .t 91), (1, .c (.int .i64 1))]⟩,
 .one ⟨some 93, .fieldAddr 3 (.t 10)⟩,
 .one ⟨none, .store 1 (.t 93) (.t 92)⟩])
 .skip))))))))))))
 (.seq (.region [.one ⟨some 11, .move (.c (.nil))⟩])
 (.seq (.seq (.region [.one ⟨some 94, .move (.t 1)⟩,
 .one ⟨some 95, .call false .any 96 [.t 94]⟩])
 (.cond (.t 95) (.region [.one ⟨some 96, .fieldAddr 3 (.t 10)⟩,
 .one ⟨some 97, .load 1 false .any (.t 96)⟩,
 .one ⟨some 11, .move (.t 97)⟩])
 .skip))
 (.seq (.region [.one ⟨some 99, .move (.t 1)⟩,
 .one ⟨some 100, .fieldAddr 4 (.t 10)⟩,
 .one ⟨some 101, .load 1 false .any (.t 100)⟩,
 .one ⟨some 102, .move (.t 11)⟩,
 .one ⟨some 103, .move (.t 9)⟩,
 .one ⟨some 104, .fieldAddr 2 (.t 10)⟩,
 .one ⟨some 105, .load 1 false .any (.t 104)⟩,
 .one ⟨some 106, .call true .any 63 [.t 103, .t 105]⟩,
 .one ⟨some 107, .call true .any 65 [.t 99, .t 101, .t 102, .t 106]⟩,
 .one ⟨some 98, .move (.t 107)⟩,
 .one ⟨some 108, .extract (.t 98) 0⟩,
 .one ⟨some 109, .extract (.t 98) 1⟩,
 .one ⟨some 110, .fieldAddr 3 (.t 10)⟩,
 .one ⟨none, .store 1 (.t 110) (.t 108)⟩])
 (.seq (.region [.one ⟨some 111, .move (.t 9)⟩,
 .one ⟨some 112, .load 5 true .any (.t 10)⟩,
 .one ⟨some 113, .buildSlice 5 1 [.str (bs []), .int .i64 0, .nil, .nil, .int .i64 0] [(0, .t 112)]⟩,
 .one ⟨some 114, .append 5 80 (.t 111) (.t 113)⟩,
 .one ⟨some 9, .move (.t 114)⟩])
 (.seq (.region [.one ⟨some 115, .fieldAddr 3 (.t 10)⟩,
 .one ⟨some 116, .load 1 false .any (.t 115)⟩,
 .one ⟨some 117, .call false .any 25 [.t 116]⟩,
 .one ⟨some 12, .move (.t 117)⟩])
 (.seq (.seq (.region [.one ⟨some 13, .move (.c (.int .i64 0))⟩])
 (.block 1 law10_Made_l0))
 (.seq (.region [.one ⟨some 127, .move (.t 9)⟩,
 .one ⟨some 128, .buildSlice 1 2 [.int .i64 0] [(0, .c (.int .i64 3)), (1, .c (.int .i64 3))]⟩,
 .one ⟨some 129, .fieldAddr 3 (.t 10)⟩,
 .one ⟨some 130, .load 1 false .any (.t 129)⟩,
 .one ⟨some 131, .call false .any 25 [.t 130]⟩,
 .one ⟨some 132, .build [.str (bs []), .int .i64 0, .nil, .nil, .int .i64 0] [(0, 1, .c (.str (bs [113]))), (1, 1, .c (.int .i64 6)), (2, 1, .t 128), (3, 1, .t 131)]⟩,
 .one ⟨some 133, .buildSlice 1 1 [.int .i64 0] [(0, .c (.int .i64 4))]⟩,
 .one ⟨some 134, .move (.t 12)⟩,
 .one ⟨some 135, .build [.str (bs []), .int .i64 0, .nil, .nil, .int .i64 0] [(0, 1, .c (.str (bs [115]))), (1, 1, .c (.int .i64 13)), (2, 1, .t 133), (3, 1, .t 134)]⟩,
 .one ⟨some 136, .buildSlice 5 2 [.str (bs []), .int .i64 0, .nil, .nil, .int .i64 0] [(0, .t 132), (1, .t 135)]⟩,
 .one ⟨some 137, .append 5 80 (.t 127) (.t 136)⟩,
 .one ⟨some 9, .move (.t 137)⟩])
 (.seq (.region [.one ⟨some 138, .move (.t 9)⟩,
 .one ⟨some 139, .call false .any 40 [.t 138]⟩,
 .one ⟨some 14, .move (.t 139)⟩])
 (.seq (.region [.one ⟨some 15, .move (.c (.nil))⟩])
 (.seq (.seq (.region [.one ⟨some 16, .move (.c (.int .i64 0))⟩])
 (.block 3 law10_Made_l2))
 (.seq (.region [.one ⟨some 224, .move (.t 9)⟩,
 .one ⟨some 225, .move (.t 15)⟩,
 .one ⟨some 4, .move (.t 224)⟩,
 .one ⟨some 5, .move (.t 225)⟩])
 .ret)))))))))))))))))))) }
/-- gradus/gradusref10.All: number 232 -/
def ref10_All_b0 : ACode :=
 (.seq (.seq (.region [.one ⟨some 7, .move (.t 6)⟩,
 .one ⟨some 8, .move (.t 0)⟩,
 .one ⟨some 9, .len (.t 8)⟩,
 .one ⟨some 10, .bin .lss 0 (.t 7) (.t 9)⟩])
 (.cond (.t 10) .skip
 (.exit 0)))
 (.seq (.block 1 (.seq (.region [.one ⟨some 13, .move (.t 0)⟩,
 .one ⟨some 14, .move (.t 6)⟩,
 .one ⟨some 15, .indexAddr 5 (.t 13) (.t 14)⟩,
 .one ⟨some 16, .fieldAddr 1 (.t 15)⟩,
 .one ⟨some 17, .load 1 false .any (.t 16)⟩,
 .one ⟨some 18, .bin .eql 0 (.t 17) (.c (.int .i64 1))⟩,
 .one ⟨some 19, .move (.t 18)⟩,
 .grd 19 false [⟨some 20, .move (.t 0)⟩, ⟨some 21, .move (.t 6)⟩, ⟨some 22, .indexAddr 5 (.t 20) (.t 21)⟩, ⟨some 23, .fieldAddr 1 (.t 22)⟩, ⟨some 24, .load 1 false .any (.t 23)⟩, ⟨some 25, .bin .eql 0 (.t 24) (.c (.int .i64 2))⟩],
 .one ⟨some 26, .pick (.t 19) (.c (.bool true)) (.t 25)⟩])
 (.cond (.t 26) (.region [.one ⟨some 27, .move (.t 5)⟩,
 .one ⟨some 28, .move (.t 0)⟩,
 .one ⟨some 29, .move (.t 1)⟩,
 .one ⟨some 30, .move (.t 6)⟩,
 .one ⟨some 31, .call false .any 241 [.t 28, .t 29, .t 30]⟩,
 .one ⟨some 32, .buildSlice 2 1 [.nil, .nil] [(0, .t 31)]⟩,
 .one ⟨some 33, .append 2 48 (.t 27) (.t 32)⟩,
 .one ⟨some 5, .move (.t 33)⟩])
 (.region [.one ⟨some 34, .move (.t 5)⟩,
 .one ⟨some 35, .move (.t 0)⟩,
 .one ⟨some 36, .move (.t 6)⟩,
 .one ⟨some 37, .indexAddr 5 (.t 35) (.t 36)⟩,
 .one ⟨some 38, .load 5 true .any (.t 37)⟩,
 .one ⟨some 39, .move (.t 5)⟩,
 .one ⟨some 40, .move (.t 0)⟩,
 .one ⟨some 41, .move (.t 6)⟩,
 .one ⟨some 42, .indexAddr 5 (.t 40) (.t 41)⟩,
 .one ⟨some 43, .fieldAddr 2 (.t 42)⟩,
 .one ⟨some 44, .load 1 false .any (.t 43)⟩,
 .one ⟨some 45, .call true .any 242 [.t 39, .t 44]⟩,
 .one ⟨some 46, .call true .any 243 [.t 38, .t 45]⟩,
 .one ⟨some 47, .buildSlice 2 1 [.nil, .nil] [(0, .t 46)]⟩,
 .one ⟨some 48, .append 2 48 (.t 34) (.t 47)⟩,
 .one ⟨some 5, .move (.t 48)⟩]))))
 (.region [.one ⟨some 11, .move (.t 6)⟩,
 .one ⟨some 12, .bin .add 0 (.t 11) (.c (.int .i64 1))⟩,
 .one ⟨some 6, .move (.t 12)⟩])))
def ref10_All_l0 : ACode :=
 (.loop [(0, .any), (1, .any), (5, .any), (6, .any)] [(0, [(5, .any)])] [] ref10_All_b0)
def ref10_All : AFunc := { params := [.any, .any], results := [.tmp 4], body :=
 (.seq (.region [.one ⟨some 4, .move (.c (.nil))⟩])
 (.seq (.region [.one ⟨some 5, .move (.c (.nil))⟩])
 (.seq (.seq (.region [.one ⟨some 6, .move (.c (.int .i64 0))⟩])
 (.block 0 ref10_All_l0))
 (.seq (.region [.one ⟨some 49, .move (.t 5)⟩,
 .one ⟨some 4, .move (.t 49)⟩])
 .ret)))) }
/-- gradus/gradusref0.EqTensors: number 233 -/
def ref0_EqTensors_b0 : ACode :=
 (.seq (.seq (.region [.one ⟨some 11, .move (.t 5)⟩,
 .one ⟨some 12, .move (.t 0)⟩,
 .one ⟨some 13, .len (.t 12)⟩,
 .one ⟨some 14, .bin .lss 0 (.t 11) (.t 13)⟩])
 (.cond (.t 14) .skip
 (.exit 0)))
 (.seq (.block 1 (.seq (.region [.one ⟨some 17, .move (.t 0)⟩,
 .one ⟨some 18, .move (.t 5)⟩,
 .one ⟨some 19, .indexAddr 2 (.t 17) (.t 18)⟩,
 .one ⟨some 20, .load 2 true .any (.t 19)⟩,
 .one ⟨some 21, .move (.t 1)⟩,
 .one ⟨some 22, .move (.t 5)⟩,
 .one ⟨some 23, .indexAddr 2 (.t 21) (.t 22)⟩,
 .one ⟨some 24, .load 2 true .any (.t 23)⟩,
 .one ⟨some 25, .call true .any 41 [.t 20, .t 24]⟩,
 .one ⟨some 26, .un .not (.t 25)⟩])
 (.cond (.t 26) (.seq (.region [.one ⟨some 4, .move (.c (.bool false))⟩])
 .ret)
 .skip)))
 (.region [.one ⟨some 15, .move (.t 5)⟩,
 .one ⟨some 16, .bin .add 0 (.t 15) (.c (.int .i64 1))⟩,
 .one ⟨some 5, .move (.t 16)⟩])))
def ref0_EqTensors_l0 : ACode :=
 (.loop [(0, .any), (1, .any), (5, .any)] [(0, [])] [(4, .any)] ref0_EqTensors_b0)
def ref0_EqTensors : AFunc := { params := [.any, .any], results := [.tmp 4], body :=
 (.seq (.region [.one ⟨some 4, .move (.c (.bool false))⟩])
 (.seq (.seq (.region [.one ⟨some 6, .move (.t 0)⟩,
 .one ⟨some 7, .len (.t 6)⟩,
 .one ⟨some 8, .move (.t 1)⟩,
 .one ⟨some 9, .len (.t 8)⟩,
 .one ⟨some 10, .bin .neq 0 (.t 7) (.t 9)⟩])
 (.cond (.t 10) (.seq (.region [.one ⟨some 4, .move (.c (.bool false))⟩])
 .ret)
 .skip))
 (.seq (.seq (.region [.one ⟨some 5, .move (.c (.int .i64 0))⟩])
 (.block 0 ref0_EqTensors_l0))
 (.seq (.region [.one ⟨some 4, .move (.c (.bool true))⟩])
 .ret)))) }
/-- gradus/gradusref0.CopyTensor: number 235 -/
def ref0_CopyTensor : AFunc := { params := [.any], results := [.cell 2 2 true], body :=
 (.seq (.region [.one ⟨some 1, .box (.t 0)⟩,
 .one ⟨some 2, .alloc [.nil, .nil]⟩])
 (.seq (.region [.one ⟨some 4, .load 2 true .any (.t 1)⟩,
 .one ⟨some 3, .alloc [.nil, .nil]⟩,
 .one ⟨none, .store 2 (.t 3) (.t 4)⟩])
 (.seq (.region [.one ⟨some 5, .fieldAddr 0 (.t 1)⟩,
 .one ⟨some 6, .load 1 false .any (.t 5)⟩,
 .one ⟨some 7, .call false .any 25 [.t 6]⟩,
 .one ⟨some 8, .fieldAddr 0 (.t 3)⟩,
 .one ⟨none, .store 1 (.t 8) (.t 7)⟩])
 (.seq (.region [.one ⟨some 9, .fieldAddr 1 (.t 1)⟩,
 .one ⟨some 10, .load 1 false .any (.t 9)⟩,
 .one ⟨some 11, .call false .any 25 [.t 10]⟩,
 .one ⟨some 12, .fieldAddr 1 (.t 3)⟩,
 .one ⟨none, .store 1 (.t 12) (.t 11)⟩])
 (.seq (.region [.one ⟨some 13, .load 2 true .any (.t 3)⟩,
 .one ⟨none, .store 2 (.t 2) (.t 13)⟩])
 .ret))))) }
/-- gradus/slope.asked: number 236 -/
def slope_asked : AFunc := { params := [.any, .any, .any], results := [.tmp 6], body :=
 (.seq (.region [.one ⟨some 6, .move (.c (.int .i64 0))⟩])
 (.seq (.region [.one ⟨some 9, .move (.t 0)⟩,
 .one ⟨some 10, .move (.t 1)⟩,
 .one ⟨some 11, .call false .any 89 [.t 9, .t 10]⟩,
 .one ⟨some 12, .move (.t 0)⟩,
 .one ⟨some 13, .move (.t 2)⟩,
 .one ⟨some 14, .call false .any 89 [.t 12, .t 13]⟩,
 .one ⟨some 7, .move (.t 11)⟩,
 .one ⟨some 8, .move (.t 14)⟩])
 (.seq (.seq (.region [.one ⟨some 15, .move (.t 7)⟩,
 .one ⟨some 16, .bin .eql 0 (.t 15) (.c (.int .i64 1))⟩,
 .one ⟨some 17, .move (.t 16)⟩,
 .grd 17 false [⟨some 18, .move (.t 8)⟩, ⟨some 19, .bin .eql 0 (.t 18) (.c (.int .i64 0))⟩],
 .one ⟨some 20, .pick (.t 17) (.c (.bool true)) (.t 19)⟩])
 (.cond (.t 20) (.seq (.region [.one ⟨some 21, .move (.t 7)⟩,
 .one ⟨some 6, .move (.t 21)⟩])
 .ret)
 .skip))
 (.seq (.region [.one ⟨some 22, .move (.t 8)⟩,
 .one ⟨some 6, .move (.t 22)⟩])
 .ret)))) }
/-- gradus/slope.slopes: number 237 -/
def slope_slopes_b0 : ACode :=
 (.seq (.region [.one ⟨some 20, .bin .lss 0 (.t 19) (.t 18)⟩])
 (.seq (.cond (.t 20) .skip
 (.exit 0))
 (.seq (.block 1 (.seq (.region [.one ⟨some 21, .move (.t 19)⟩,
 .one ⟨some 22, .indexAddr 5 (.t 17) (.t 19)⟩,
 .one ⟨some 23, .load 5 true .any (.t 22)⟩,
 .one ⟨some 10, .alloc [.str (bs []), .int .i64 0, .nil, .nil, .int .i64 0]⟩,
 .one ⟨some 9, .move (.t 21)⟩,
 .one ⟨none, .store 5 (.t 10) (.t 23)⟩])
 (.seq (.region [.one ⟨some 24, .fieldAddr 1 (.t 10)⟩,
 .one ⟨some 25, .load 1 false .any (.t 24)⟩,
 .one ⟨some 26, .call false .any 121 [.t 25]⟩,
 .one ⟨some 27, .un .not (.t 26)⟩])
 (.cond (.t 27) (.region [.one ⟨some 28, .move (.t 8)⟩,
 .one ⟨some 29, .move (.t 9)⟩,
 .one ⟨some 30, .load 5 true .any (.t 10)⟩,
 .one ⟨some 31, .move (.t 7)⟩,
 .one ⟨some 32, .load 5 true .any (.t 10)⟩,
 .one ⟨some 33, .call true .any 122 [.t 31, .t 32]⟩,
 .one ⟨some 34, .move (.t 8)⟩,
 .one ⟨some 35, .load 5 true .any (.t 10)⟩,
 .one ⟨some 36, .call true .any 122 [.t 34, .t 35]⟩,
 .one ⟨some 37, .call true .any 245 [.t 30, .t 33, .t 36]⟩,
 .one ⟨some 38, .indexAddr 2 (.t 28) (.t 29)⟩,
 .one ⟨none, .store 2 (.t 38) (.t 37)⟩])
 .skip))))
 (.region [.one ⟨some 39, .bin .add 0 (.t 19) (.c (.int .i64 1))⟩,
 .one ⟨some 19, .move (.t 39)⟩]))))
def slope_slopes_l0 : ACode :=
 (.loop [(7, .any), (8, .any), (17, .any), (18, .any), (19, .any)] [(0, [(8, .any)])] [] slope_slopes_b0)
def slope_slopes : AFunc := { params := [.any, .any, .any], results := [.tmp 6], body :=
 (.seq (.region [.one ⟨some 6, .move (.c (.nil))⟩])
 (.seq (.region [.one ⟨some 11, .move (.t 0)⟩,
 .one ⟨some 12, .move (.t 1)⟩,
 .one ⟨some 13, .call false .any 90 [.t 11, .t 12]⟩,
 .one ⟨some 14, .move (.t 0)⟩,
 .one ⟨some 15, .move (.t 2)⟩,
 .one ⟨some 16, .call false .any 120 [.t 14, .t 15]⟩,
 .one ⟨some 7, .move (.t 13)⟩,
 .one ⟨some 8, .move (.t 16)⟩])
 (.seq (.seq (.region [.one ⟨some 17, .move (.t 0)⟩,
 .one ⟨some 18, .len (.t 17)⟩,
 .one ⟨some 19, .move (.c (.int .i64 0))⟩])
 (.block 0 slope_slopes_l0))
 (.seq (.region [.one ⟨some 40, .move (.t 8)⟩,
 .one ⟨some 6, .move (.t 40)⟩])
 .ret)))) }
/-- gradus/slope.Loss: number 238 -/
def slope_Loss : AFunc := { params := [.any, .any, .any], results := [.tmp 6, .tmp 7], body :=
 (.seq (.region [.one ⟨some 6, .move (.c (.int .i64 0))⟩,
 .one ⟨some 7, .move (.c (.int .i64 0))⟩])
 (.seq (.seq (.region [.one ⟨some 9, .move (.t 0)⟩,
 .one ⟨some 10, .call false .any 68 [.t 9]⟩,
 .one ⟨some 11, .un .not (.t 10)⟩])
 (.cond (.t 11) (.seq (.region [.one ⟨some 6, .move (.c (.int .i64 0))⟩,
 .one ⟨some 7, .move (.c (.int .i64 1))⟩])
 .ret)
 .skip))
 (.seq (.seq (.region [.one ⟨some 12, .move (.t 0)⟩,
 .one ⟨some 13, .move (.t 1)⟩,
 .one ⟨some 14, .move (.t 2)⟩,
 .one ⟨some 15, .call false .any 236 [.t 12, .t 13, .t 14]⟩,
 .one ⟨some 8, .move (.t 15)⟩])
 (.seq (.region [.one ⟨some 16, .move (.t 8)⟩,
 .one ⟨some 17, .bin .neq 0 (.t 16) (.c (.int .i64 0))⟩])
 (.cond (.t 17) (.seq (.region [.one ⟨some 18, .move (.t 8)⟩,
 .one ⟨some 6, .move (.c (.int .i64 0))⟩,
 .one ⟨some 7, .move (.t 18)⟩])
 .ret)
 .skip)))
 (.seq (.region [.one ⟨some 19, .move (.t 0)⟩,
 .one ⟨some 20, .move (.t 1)⟩,
 .one ⟨some 21, .move (.t 2)⟩,
 .one ⟨some 22, .call false .any 237 [.t 19, .t 20, .t 21]⟩,
 .one ⟨some 23, .move (.t 0)⟩,
 .one ⟨some 24, .len (.t 23)⟩,
 .one ⟨some 25, .bin .sub 0 (.t 24) (.c (.int .i64 1))⟩,
 .one ⟨some 26, .indexAddr 2 (.t 22) (.t 25)⟩,
 .one ⟨some 27, .fieldAddr 1 (.t 26)⟩,
 .one ⟨some 28, .load 1 false .any (.t 27)⟩,
 .one ⟨some 29, .indexAddr 1 (.t 28) (.c (.int .i64 0))⟩,
 .one ⟨some 30, .load 1 false .any (.t 29)⟩,
 .one ⟨some 6, .move (.t 30)⟩,
 .one ⟨some 7, .move (.c (.int .i64 0))⟩])
 .ret)))) }
/-- gradus/gradusref10.Slopes: number 239 -/
def ref10_Slopes_b0 : ACode :=
 (.seq (.seq (.region [.one ⟨some 16, .move (.t 9)⟩,
 .one ⟨some 17, .move (.t 0)⟩,
 .one ⟨some 18, .len (.t 17)⟩,
 .one ⟨some 19, .bin .lss 0 (.t 16) (.t 18)⟩])
 (.cond (.t 19) .skip
 (.exit 0)))
 (.seq (.block 1 (.seq (.region [.one ⟨some 22, .move (.t 0)⟩,
 .one ⟨some 23, .move (.t 9)⟩,
 .one ⟨some 24, .indexAddr 5 (.t 22) (.t 23)⟩,
 .one ⟨some 25, .load 5 true .any (.t 24)⟩,
 .one ⟨some 10, .alloc [.str (bs []), .int .i64 0, .nil, .nil, .int .i64 0]⟩,
 .one ⟨none, .store 5 (.t 10) (.t 25)⟩])
 (.seq (.region [.one ⟨some 26, .move (.t 7)⟩,
 .one ⟨some 27, .fieldAddr 2 (.t 10)⟩,
 .one ⟨some 28, .load 1 false .any (.t 27)⟩,
 .one ⟨some 29, .call false .any 242 [.t 26, .t 28]⟩,
 .one ⟨some 11, .move (.t 29)⟩])
 (.seq (.region [.one ⟨some 30, .move (.t 8)⟩,
 .one ⟨some 31, .fieldAddr 2 (.t 10)⟩,
 .one ⟨some 32, .load 1 false .any (.t 31)⟩,
 .one ⟨some 33, .call false .any 242 [.t 30, .t 32]⟩,
 .one ⟨some 12, .move (.t 33)⟩])
 (.seq (.region [.one ⟨some 34, .fieldAddr 1 (.t 10)⟩,
 .one ⟨some 35, .load 1 false .any (.t 34)⟩])
 (.block 2 (.seq (.seq (.region [.one ⟨some 43, .bin .eql 0 (.t 35) (.c (.int .i64 1))⟩,
 .one ⟨some 42, .move (.t 43)⟩])
 (.cond (.t 42) .skip
 (.region [.one ⟨some 44, .bin .eql 0 (.t 35) (.c (.int .i64 2))⟩,
 .one ⟨some 42, .move (.t 44)⟩])))
 (.cond (.t 42) (.region [.one ⟨some 45, .move (.t 8)⟩,
 .one ⟨some 46, .move (.t 0)⟩,
 .one ⟨some 47, .move (.t 2)⟩,
 .one ⟨some 48, .move (.t 9)⟩,
 .one ⟨some 49, .call false .any 241 [.t 46, .t 47, .t 48]⟩,
 .one ⟨some 50, .buildSlice 2 1 [.nil, .nil] [(0, .t 49)]⟩,
 .one ⟨some 51, .append 2 48 (.t 45) (.t 50)⟩,
 .one ⟨some 8, .move (.t 51)⟩])
 (.seq (.region [.one ⟨some 53, .bin .eql 0 (.t 35) (.c (.int .i64 3))⟩,
 .one ⟨some 52, .move (.t 53)⟩])
 (.cond (.t 52) (.region [.one ⟨some 54, .move (.t 8)⟩,
 .one ⟨some 55, .fieldAddr 3 (.t 10)⟩,
 .one ⟨some 56, .load 1 false .any (.t 55)⟩,
 .one ⟨some 57, .call false .any 240 [.t 56, .c (.int .i64 0)]⟩,
 .one ⟨some 58, .buildSlice 2 1 [.nil, .nil] [(0, .t 57)]⟩,
 .one ⟨some 59, .append 2 48 (.t 54) (.t 58)⟩,
 .one ⟨some 8, .move (.t 59)⟩])
 (.seq (.seq (.region [.one ⟨some 61, .bin .eql 0 (.t 35) (.c (.int .i64 6))⟩,
 .one ⟨some 60, .move (.t 61)⟩])
 (.cond (.t 60) .skip
 (.region [.one ⟨some 62, .bin .eql 0 (.t 35) (.c (.int .i64 9))⟩,
 .one ⟨some 60, .move (.t 62)⟩])))
 (.cond (.t 60) (.region [.one ⟨some 63, .move (.t 8)⟩,
 .one ⟨some 64, .load 5 true .any (.t 10)⟩,
 .one ⟨some 65, .move (.t 12)⟩,
 .one ⟨some 66, .indexAddr 2 (.t 65) (.c (.int .i64 0))⟩,
 .one ⟨some 67, .load 2 true .any (.t 66)⟩,
 .one ⟨some 68, .move (.t 11)⟩,
 .one ⟨some 69, .indexAddr 2 (.t 68) (.c (.int .i64 1))⟩,
 .one ⟨some 70, .load 2 true .any (.t 69)⟩,
 .one ⟨some 71, .buildSlice 2 2 [.nil, .nil] [(0, .t 67), (1, .t 70)]⟩,
 .one ⟨some 72, .call true .any 243 [.t 64, .t 71]⟩,
 .one ⟨some 73, .load 5 true .any (.t 10)⟩,
 .one ⟨some 74, .move (.t 11)⟩,
 .one ⟨some 75, .indexAddr 2 (.t 74) (.c (.int .i64 0))⟩,
 .one ⟨some 76, .load 2 true .any (.t 75)⟩,
 .one ⟨some 77, .move (.t 12)⟩,
 .one ⟨some 78, .indexAddr 2 (.t 77) (.c (.int .i64 1))⟩,
 .one ⟨some 79, .load 2 true .any (.t 78)⟩,
 .one ⟨some 80, .buildSlice 2 2 [.nil, .nil] [(0, .t 76), (1, .t 79)]⟩,
 .one ⟨some 81, .call true .any 243 [.t 73, .t 80]⟩,
 .one ⟨some 82, .call true .any 246 [.t 72, .t 81, .c (.int .i64 0)]⟩,
 .one ⟨some 83, .buildSlice 2 1 [.nil, .nil] [(0, .t 82)]⟩,
 .one ⟨some 84, .append 2 48 (.t 63) (.t 83)⟩,
 .one ⟨some 8, .move (.t 84)⟩])
 (.seq (.seq (.region [.one ⟨some 86, .bin .eql 0 (.t 35) (.c (.int .i64 14))⟩,
 .one ⟨some 85, .move (.t 86)⟩])
 (.cond (.t 85) .skip
 (.region [.one ⟨some 87, .bin .eql 0 (.t 35) (.c (.int .i64 16))⟩,
 .one ⟨some 85, .move (.t 87)⟩])))
 (.cond (.t 85) (.region [.one ⟨some 88, .move (.t 8)⟩,
 .one ⟨some 89, .move (.t 11)⟩,
 .one ⟨some 90, .indexAddr 2 (.t 89) (.c (.int .i64 0))⟩,
 .one ⟨some 91, .load 2 true .any (.t 90)⟩,
 .one ⟨some 92, .move (.t 12)⟩,
 .one ⟨some 93, .move (.t 12)⟩,
 .one ⟨some 94, .len (.t 93)⟩,
 .one ⟨some 95, .bin .sub 0 (.t 94) (.c (.int .i64 1))⟩,
 .one ⟨some 96, .indexAddr 2 (.t 92) (.t 95)⟩,
 .one ⟨some 97, .load 2 true .any (.t 96)⟩,
 .one ⟨some 98, .call true .any 247 [.t 91, .t 97]⟩,
 .one ⟨some 99, .buildSlice 2 1 [.nil, .nil] [(0, .t 98)]⟩,
 .one ⟨some 100, .append 2 48 (.t 88) (.t 99)⟩,
 .one ⟨some 8, .move (.t 100)⟩])
 (.seq (.region [.one ⟨some 102, .bin .eql 0 (.t 35) (.c (.int .i64 15))⟩,
 .one ⟨some 101, .move (.t 102)⟩])
 (.cond (.t 101) (.region [.one ⟨some 103, .move (.t 8)⟩,
 .one ⟨some 104, .move (.t 11)⟩,
 .one ⟨some 105, .indexAddr 2 (.t 104) (.c (.int .i64 0))⟩,
 .one ⟨some 106, .load 2 true .any (.t 105)⟩,
 .one ⟨some 107, .move (.t 12)⟩,
 .one ⟨some 108, .indexAddr 2 (.t 107) (.c (.int .i64 0))⟩,
 .one ⟨some 109, .load 2 true .any (.t 108)⟩,
 .one ⟨some 110, .fieldAddr 4 (.t 10)⟩,
 .one ⟨some 111, .load 1 false .any (.t 110)⟩,
 .one ⟨some 112, .call true .any 248 [.t 106, .t 109, .t 111]⟩,
 .one ⟨some 113, .buildSlice 2 1 [.nil, .nil] [(0, .t 112)]⟩,
 .one ⟨some 114, .append 2 48 (.t 103) (.t 113)⟩,
 .one ⟨some 8, .move (.t 114)⟩])
 (.seq (.region [.one ⟨some 116, .bin .eql 0 (.t 35) (.c (.int .i64 17))⟩,
 .one ⟨some 115, .move (.t 116)⟩])
 (.cond (.t 115) (.region [.one ⟨some 117, .move (.t 8)⟩,
 .one ⟨some 118, .move (.t 11)⟩,
 .one ⟨some 119, .indexAddr 2 (.t 118) (.c (.int .i64 0))⟩,
 .one ⟨some 120, .load 2 true .any (.t 119)⟩,
 .one ⟨some 121, .move (.t 12)⟩,
 .one ⟨some 122, .indexAddr 2 (.t 121) (.c (.int .i64 1))⟩,
 .one ⟨some 123, .load 2 true .any (.t 122)⟩,
 .one ⟨some 124, .fieldAddr 4 (.t 10)⟩,
 .one ⟨some 125, .load 1 false .any (.t 124)⟩,
 .one ⟨some 126, .call true .any 249 [.t 120, .t 123, .t 125]⟩,
 .one ⟨some 127, .buildSlice 2 1 [.nil, .nil] [(0, .t 126)]⟩,
 .one ⟨some 128, .append 2 48 (.t 117) (.t 127)⟩,
 .one ⟨some 8, .move (.t 128)⟩])
 (.region [.one ⟨some 36, .move (.t 8)⟩,
 .one ⟨some 37, .load 5 true .any (.t 10)⟩,
 .one ⟨some 38, .move (.t 12)⟩,
 .one ⟨some 39, .call false .any 243 [.t 37, .t 38]⟩,
 .one ⟨some 40, .buildSlice 2 1 [.nil, .nil] [(0, .t 39)]⟩,
 .one ⟨some 41, .append 2 48 (.t 36) (.t 40)⟩,
 .one ⟨some 8, .move (.t 41)⟩])))))))))))))))))))
 (.region [.one ⟨some 20, .move (.t 9)⟩,
 .one ⟨some 21, .bin .add 0 (.t 20) (.c (.int .i64 1))⟩,
 .one ⟨some 9, .move (.t 21)⟩])))
def ref10_Slopes_l0 : ACode :=
 (.loop [(0, .any), (2, .any), (7, .any), (8, .any), (9, .any)] [(0, [(8, .any)])] [] ref10_Slopes_b0)
def ref10_Slopes : AFunc := { params := [.any, .any, .any], results := [.tmp 6], body :=
 (.seq (.region [.one ⟨some 6, .move (.c (.nil))⟩])
 (.seq (.region [.one ⟨some 13, .move (.t 0)⟩,
 .one ⟨some 14, .move (.t 1)⟩,
 .one ⟨some 15, .call false .any 232 [.t 13, .t 14]⟩,
 .one ⟨some 7, .move (.t 15)⟩])
 (.seq (.region [.one ⟨some 8, .move (.c (.nil))⟩])
 (.seq (.seq (.region [.one ⟨some 9, .move (.c (.int .i64 0))⟩])
 (.block 0 ref10_Slopes_l0))
 (.seq (.region [.one ⟨some 129, .move (.t 8)⟩,
 .one ⟨some 6, .move (.t 129)⟩])
 .ret))))) }
/-- gradus/gradusref1.Fill: number 240 -/
def ref1_Fill_b0 : ACode :=
 (.seq (.seq (.region [.one ⟨some 10, .move (.t 6)⟩,
 .one ⟨some 11, .move (.t 0)⟩,
 .one ⟨some 12, .call false .any 78 [.t 11]⟩,
 .one ⟨some 13, .bin .lss 0 (.t 10) (.t 12)⟩])
 (.cond (.t 13) .skip
 (.exit 0)))
 (.seq (.block 1 (.region [.one ⟨some 16, .fieldAddr 1 (.t 5)⟩,
 .one ⟨some 17, .load 1 false .any (.t 16)⟩,
 .one ⟨some 18, .move (.t 1)⟩,
 .one ⟨some 19, .buildSlice 1 1 [.int .i64 0] [(0, .t 18)]⟩,
 .one ⟨some 20, .append 1 8 (.t 17) (.t 19)⟩,
 .one ⟨some 21, .fieldAddr 1 (.t 5)⟩,
 .one ⟨none, .store 1 (.t 21) (.t 20)⟩]))
 (.region [.one ⟨some 14, .move (.t 6)⟩,
 .one ⟨some 15, .bin .add 0 (.t 14) (.c (.int .i64 1))⟩,
 .one ⟨some 6, .move (.t 15)⟩])))
def ref1_Fill_l0 : ACode :=
 (.loop [(0, .any), (1, .any), (4, .any), (5, .any), (6, .any)] [(0, [(4, .any), (5, .any)])] [] ref1_Fill_b0)
def ref1_Fill : AFunc := { params := [.any, .any], results := [.cell 4 2 true], body :=
 (.seq (.region [.one ⟨some 4, .alloc [.nil, .nil]⟩])
 (.seq (.region [.one ⟨some 7, .move (.t 0)⟩,
 .one ⟨some 8, .call false .any 25 [.t 7]⟩,
 .one ⟨some 9, .build [.nil, .nil] [(0, 1, .t 8)]⟩,
 .one ⟨some 5, .alloc [.nil, .nil]⟩,
 .one ⟨none, .store 2 (.t 5) (.t 9)⟩])
 (.seq (.seq (.region [.one ⟨some 6, .move (.c (.int .i64 0))⟩])
 (.block 0 ref1_Fill_l0))
 (.seq (.region [.one ⟨some 22, .load 2 true .any (.t 5)⟩,
 .one ⟨none, .store 2 (.t 4) (.t 22)⟩])
 .ret)))) }
/-- gradus/gradusref10.Leaf: number 241 -/
def ref10_Leaf : AFunc := { params := [.any, .any, .any], results := [.cell 6 2 true], body :=
 (.seq (.region [.one ⟨some 6, .alloc [.nil, .nil]⟩])
 (.seq (.region [.one ⟨some 7, .move (.t 1)⟩,
 .one ⟨some 8, .move (.t 0)⟩,
 .one ⟨some 9, .call false .any 40 [.t 8]⟩,
 .one ⟨some 10, .move (.t 2)⟩,
 .one ⟨some 11, .call false .any 80 [.t 9, .t 10]⟩,
 .one ⟨some 12, .indexAddr 2 (.t 7) (.t 11)⟩,
 .one ⟨some 13, .load 2 true .any (.t 12)⟩,
 .one ⟨some 14, .call false .any 235 [.t 13]⟩,
 .one ⟨none, .store 2 (.t 6) (.t 14)⟩])
 .ret)) }
/-- gradus/gradusref10.of: number 242 -/
def ref10_of_b0 : ACode :=
 (.seq (.seq (.region [.one ⟨some 7, .move (.t 6)⟩,
 .one ⟨some 8, .move (.t 1)⟩,
 .one ⟨some 9, .len (.t 8)⟩,
 .one ⟨some 10, .bin .lss 0 (.t 7) (.t 9)⟩])
 (.cond (.t 10) .skip
 (.exit 0)))
 (.seq (.block 1 (.region [.one ⟨some 13, .move (.t 5)⟩,
 .one ⟨some 14, .move (.t 0)⟩,
 .one ⟨some 15, .move (.t 1)⟩,
 .one ⟨some 16, .move (.t 6)⟩,
 .one ⟨some 17, .indexAddr 1 (.t 15) (.t 16)⟩,
 .one ⟨some 18, .load 1 false .any (.t 17)⟩,
 .one ⟨some 19, .indexAddr 2 (.t 14) (.t 18)⟩,
 .one ⟨some 20, .load 2 true .any (.t 19)⟩,
 .one ⟨some 21, .buildSlice 2 1 [.nil, .nil] [(0, .t 20)]⟩,
 .one ⟨some 22, .append 2 48 (.t 13) (.t 21)⟩,
 .one ⟨some 5, .move (.t 22)⟩]))
 (.region [.one ⟨some 11, .move (.t 6)⟩,
 .one ⟨some 12, .bin .add 0 (.t 11) (.c (.int .i64 1))⟩,
 .one ⟨some 6, .move (.t 12)⟩])))
def ref10_of_l0 : ACode :=
 (.loop [(0, .any), (1, .any), (5, .any), (6, .any)] [(0, [(5, .any)])] [] ref10_of_b0)
def ref10_of : AFunc := { params := [.any, .any], results := [.tmp 4], body :=
 (.seq (.region [.one ⟨some 4, .move (.c (.nil))⟩])
 (.seq (.region [.one ⟨some 5, .move (.c (.nil))⟩])
 (.seq (.seq (.region [.one ⟨some 6, .move (.c (.int .i64 0))⟩])
 (.block 0 ref10_of_l0))
 (.seq (.region [.one ⟨some 23, .move (.t 5)⟩,
 .one ⟨some 4, .move (.t 23)⟩])
 .ret)))) }
/-- gradus/gradusref10.Made: number 243 -/
def ref10_Made : AFunc := { params := [.any, .any], results := [.cell 4 2 true], body :=
 (.seq (.region [.one ⟨some 2, .box (.t 0)⟩,
 .one ⟨some 4, .alloc [.nil, .nil]⟩])
 (.seq (.region [.one ⟨some 5, .move (.c (.nil))⟩])
 (.seq (.seq (.region [.one ⟨some 6, .fieldAddr 1 (.t 2)⟩,
 .one ⟨some 7, .load 1 false .any (.t 6)⟩,
 .one ⟨some 8, .call false .any 96 [.t 7]⟩])
 (.cond (.t 8) (.region [.one ⟨some 9, .fieldAddr 3 (.t 2)⟩,
 .one ⟨some 10, .load 1 false .any (.t 9)⟩,
 .one ⟨some 5, .move (.t 10)⟩])
 .skip))
 (.seq (.region [.one ⟨some 11, .fieldAddr 1 (.t 2)⟩,
 .one ⟨some 12, .load 1 false .any (.t 11)⟩,
 .one ⟨some 13, .fieldAddr 4 (.t 2)⟩,
 .one ⟨some 14, .load 1 false .any (.t 13)⟩,
 .one ⟨some 15, .move (.t 5)⟩,
 .one ⟨some 16, .move (.t 1)⟩,
 .one ⟨some 17, .call false .any 250 [.t 12, .t 14, .t 15, .t 16]⟩,
 .one ⟨none, .store 2 (.t 4) (.t 17)⟩])
 .ret)))) }
/-- gradus/slope.one: number 245 -/
def slope_one : AFunc := { params := [.any, .any, .any], results := [.cell 6 2 true], body :=
 (.seq (.region [.one ⟨some 3, .box (.t 0)⟩,
 .one ⟨some 6, .alloc [.nil, .nil]⟩])
 (.seq (.seq (.region [.one ⟨some 11, .fieldAddr 1 (.t 3)⟩,
 .one ⟨some 12, .load 1 false .any (.t 11)⟩])
 (.block 0 (.seq (.region [.one ⟨some 25, .bin .eql 0 (.t 12) (.c (.int .i64 3))⟩,
 .one ⟨some 24, .move (.t 25)⟩])
 (.cond (.t 24) (.region [.one ⟨some 26, .fieldAddr 3 (.t 3)⟩,
 .one ⟨some 27, .load 1 false .any (.t 26)⟩,
 .one ⟨some 28, .call false .any 152 [.t 27]⟩,
 .one ⟨none, .store 2 (.t 6) (.t 28)⟩])
 (.seq (.seq (.region [.one ⟨some 30, .bin .eql 0 (.t 12) (.c (.int .i64 6))⟩,
 .one ⟨some 29, .move (.t 30)⟩])
 (.cond (.t 29) .skip
 (.region [.one ⟨some 31, .bin .eql 0 (.t 12) (.c (.int .i64 9))⟩,
 .one ⟨some 29, .move (.t 31)⟩])))
 (.cond (.t 29) (.seq (.region [.one ⟨some 33, .fieldAddr 1 (.t 3)⟩,
 .one ⟨some 34, .load 1 false .any (.t 33)⟩,
 .one ⟨some 35, .move (.t 2)⟩,
 .one ⟨some 36, .indexAddr 2 (.t 35) (.c (.int .i64 0))⟩,
 .one ⟨some 37, .load 2 true .any (.t 36)⟩,
 .one ⟨some 38, .move (.t 1)⟩,
 .one ⟨some 39, .indexAddr 2 (.t 38) (.c (.int .i64 1))⟩,
 .one ⟨some 40, .load 2 true .any (.t 39)⟩,
 .one ⟨some 41, .buildSlice 2 2 [.nil, .nil] [(0, .t 37), (1, .t 40)]⟩,
 .one ⟨some 42, .call true .any 123 [.t 34, .c (.int .i64 0), .c (.nil), .t 41]⟩,
 .one ⟨some 32, .move (.t 42)⟩,
 .one ⟨some 43, .extract (.t 32) 0⟩,
 .one ⟨some 44, .extract (.t 32) 1⟩,
 .one ⟨some 7, .alloc [.nil, .nil]⟩,
 .one ⟨none, .store 2 (.t 7) (.t 43)⟩,
 .one ⟨some 8, .move (.t 44)⟩])
 (.seq (.region [.one ⟨some 46, .fieldAddr 1 (.t 3)⟩,
 .one ⟨some 47, .load 1 false .any (.t 46)⟩,
 .one ⟨some 48, .move (.t 1)⟩,
 .one ⟨some 49, .indexAddr 2 (.t 48) (.c (.int .i64 0))⟩,
 .one ⟨some 50, .load 2 true .any (.t 49)⟩,
 .one ⟨some 51, .move (.t 2)⟩,
 .one ⟨some 52, .indexAddr 2 (.t 51) (.c (.int .i64 1))⟩,
 .one ⟨some 53, .load 2 true .any (.t 52)⟩,
 .one ⟨some 54, .buildSlice 2 2 [.nil, .nil] [(0, .t 50), (1, .t 53)]⟩,
 .one ⟨some 55, .call true .any 123 [.t 47, .c (.int .i64 0), .c (.nil), .t 54]⟩,
 .one ⟨some 45, .move (.t 55)⟩,
 .one ⟨some 56, .extract (.t 45) 0⟩,
 .one ⟨some 57, .extract (.t 45) 1⟩,
 .one ⟨some 9, .alloc [.nil, .nil]⟩,
 .one ⟨none, .store 2 (.t 9) (.t 56)⟩,
 .one ⟨some 10, .move (.t 57)⟩])
 (.region [.one ⟨some 59, .load 2 true .any (.t 7)⟩,
 .one ⟨some 60, .load 2 true .any (.t 9)⟩,
 .one ⟨some 61, .call false .any 153 [.t 59, .t 60]⟩,
 .one ⟨some 58, .move (.t 61)⟩,
 .one ⟨some 62, .extract (.t 58) 0⟩,
 .one ⟨some 63, .extract (.t 58) 1⟩,
 .one ⟨none, .store 2 (.t 6) (.t 62)⟩])))
 (.seq (.region [.one ⟨some 65, .bin .eql 0 (.t 12) (.c (.int .i64 14))⟩,
 .one ⟨some 64, .move (.t 65)⟩])
 (.cond (.t 64) (.region [.one ⟨some 67, .move (.t 1)⟩,
 .one ⟨some 68, .indexAddr 2 (.t 67) (.c (.int .i64 0))⟩,
 .one ⟨some 69, .load 2 true .any (.t 68)⟩,
 .one ⟨some 70, .move (.t 2)⟩,
 .one ⟨some 71, .indexAddr 2 (.t 70) (.c (.int .i64 0))⟩,
 .one ⟨some 72, .load 2 true .any (.t 71)⟩,
 .one ⟨some 73, .call true .any 157 [.t 69, .t 72]⟩,
 .one ⟨some 66, .move (.t 73)⟩,
 .one ⟨some 74, .extract (.t 66) 0⟩,
 .one ⟨some 75, .extract (.t 66) 1⟩,
 .one ⟨none, .store 2 (.t 6) (.t 74)⟩])
 (.seq (.region [.one ⟨some 77, .bin .eql 0 (.t 12) (.c (.int .i64 15))⟩,
 .one ⟨some 76, .move (.t 77)⟩])
 (.cond (.t 76) (.region [.one ⟨some 78, .move (.t 1)⟩,
 .one ⟨some 79, .indexAddr 2 (.t 78) (.c (.int .i64 0))⟩,
 .one ⟨some 80, .load 2 true .any (.t 79)⟩,
 .one ⟨some 81, .move (.t 2)⟩,
 .one ⟨some 82, .indexAddr 2 (.t 81) (.c (.int .i64 0))⟩,
 .one ⟨some 83, .load 2 true .any (.t 82)⟩,
 .one ⟨some 84, .fieldAddr 4 (.t 3)⟩,
 .one ⟨some 85, .load 1 false .any (.t 84)⟩,
 .one ⟨some 86, .call true .any 251 [.t 80, .t 83, .t 85]⟩,
 .one ⟨none, .store 2 (.t 6) (.t 86)⟩])
 (.seq (.region [.one ⟨some 88, .bin .eql 0 (.t 12) (.c (.int .i64 16))⟩,
 .one ⟨some 87, .move (.t 88)⟩])
 (.cond (.t 87) (.region [.one ⟨some 90, .move (.t 1)⟩,
 .one ⟨some 91, .indexAddr 2 (.t 90) (.c (.int .i64 0))⟩,
 .one ⟨some 92, .load 2 true .any (.t 91)⟩,
 .one ⟨some 93, .move (.t 2)⟩,
 .one ⟨some 94, .indexAddr 2 (.t 93) (.c (.int .i64 1))⟩,
 .one ⟨some 95, .load 2 true .any (.t 94)⟩,
 .one ⟨some 96, .call true .any 157 [.t 92, .t 95]⟩,
 .one ⟨some 89, .move (.t 96)⟩,
 .one ⟨some 97, .extract (.t 89) 0⟩,
 .one ⟨some 98, .extract (.t 89) 1⟩,
 .one ⟨none, .store 2 (.t 6) (.t 97)⟩])
 (.seq (.region [.one ⟨some 100, .bin .eql 0 (.t 12) (.c (.int .i64 17))⟩,
 .one ⟨some 99, .move (.t 100)⟩])
 (.cond (.t 99) (.region [.one ⟨some 102, .move (.t 1)⟩,
 .one ⟨some 103, .indexAddr 2 (.t 102) (.c (.int .i64 0))⟩,
 .one ⟨some 104, .load 2 true .any (.t 103)⟩,
 .one ⟨some 105, .move (.t 2)⟩,
 .one ⟨some 106, .indexAddr 2 (.t 105) (.c (.int .i64 1))⟩,
 .one ⟨some 107, .load 2 true .any (.t 106)⟩,
 .one ⟨some 108, .fieldAddr 4 (.t 3)⟩,
 .one ⟨some 109, .load 1 false .any (.t 108)⟩,
 .one ⟨some 110, .call true .any 158 [.t 104, .t 107, .t 109]⟩,
 .one ⟨some 101, .move (.t 110)⟩,
 .one ⟨some 111, .extract (.t 101) 0⟩,
 .one ⟨some 112, .extract (.t 101) 1⟩,
 .one ⟨none, .store 2 (.t 6) (.t 111)⟩])
 (.region [.one ⟨some 14, .fieldAddr 1 (.t 3)⟩,
 .one ⟨some 15, .load 1 false .any (.t 14)⟩,
 .one ⟨some 16, .fieldAddr 4 (.t 3)⟩,
 .one ⟨some 17, .load 1 false .any (.t 16)⟩,
 .one ⟨some 18, .load 5 true .any (.t 3)⟩,
 .one ⟨some 19, .call true .any 97 [.t 18]⟩,
 .one ⟨some 20, .move (.t 2)⟩,
 .one ⟨some 21, .call true .any 123 [.t 15, .t 17, .t 19, .t 20]⟩,
 .one ⟨some 13, .move (.t 21)⟩,
 .one ⟨some 22, .extract (.t 13) 0⟩,
 .one ⟨some 23, .extract (.t 13) 1⟩,
 .one ⟨none, .store 2 (.t 6) (.t 22)⟩])))))))))))))))
 (.seq (.region [.one ⟨some 113, .load 2 true .any (.t 6)⟩,
 .one ⟨none, .store 2 (.t 6) (.t 113)⟩])
 .ret))) }
/-- gradus/gradusref1.Each: number 246 -/
def ref1_Each_b0 : ACode :=
 (.seq (.seq (.region [.one ⟨some 11, .move (.t 8)⟩,
 .one ⟨some 12, .fieldAddr 1 (.t 7)⟩,
 .one ⟨some 13, .load 1 false .any (.t 12)⟩,
 .one ⟨some 14, .len (.t 13)⟩,
 .one ⟨some 15, .bin .lss 0 (.t 11) (.t 14)⟩])
 (.cond (.t 15) .skip
 (.exit 0)))
 (.seq (.block 1 (.seq (.region [.one ⟨some 18, .move (.t 2)⟩])
 (.block 2 (.seq (.region [.one ⟨some 35, .bin .eql 0 (.t 18) (.c (.int .i64 0))⟩,
 .one ⟨some 34, .move (.t 35)⟩])
 (.cond (.t 34) (.region [.one ⟨some 36, .fieldAddr 1 (.t 7)⟩,
 .one ⟨some 37, .load 1 false .any (.t 36)⟩,
 .one ⟨some 38, .move (.t 8)⟩,
 .one ⟨some 39, .fieldAddr 1 (.t 3)⟩,
 .one ⟨some 40, .load 1 false .any (.t 39)⟩,
 .one ⟨some 41, .move (.t 8)⟩,
 .one ⟨some 42, .indexAddr 1 (.t 40) (.t 41)⟩,
 .one ⟨some 43, .load 1 false .any (.t 42)⟩,
 .one ⟨some 44, .fieldAddr 1 (.t 4)⟩,
 .one ⟨some 45, .load 1 false .any (.t 44)⟩,
 .one ⟨some 46, .move (.t 8)⟩,
 .one ⟨some 47, .indexAddr 1 (.t 45) (.t 46)⟩,
 .one ⟨some 48, .load 1 false .any (.t 47)⟩,
 .one ⟨some 49, .bin .add 0 (.t 43) (.t 48)⟩,
 .one ⟨some 50, .indexAddr 1 (.t 37) (.t 38)⟩,
 .one ⟨none, .store 1 (.t 50) (.t 49)⟩])
 (.seq (.region [.one ⟨some 52, .bin .eql 0 (.t 18) (.c (.int .i64 1))⟩,
 .one ⟨some 51, .move (.t 52)⟩])
 (.cond (.t 51) (.region [.one ⟨some 53, .fieldAddr 1 (.t 7)⟩,
 .one ⟨some 54, .load 1 false .any (.t 53)⟩,
 .one ⟨some 55, .move (.t 8)⟩,
 .one ⟨some 56, .fieldAddr 1 (.t 3)⟩,
 .one ⟨some 57, .load 1 false .any (.t 56)⟩,
 .one ⟨some 58, .move (.t 8)⟩,
 .one ⟨some 59, .indexAddr 1 (.t 57) (.t 58)⟩,
 .one ⟨some 60, .load 1 false .any (.t 59)⟩,
 .one ⟨some 61, .fieldAddr 1 (.t 4)⟩,
 .one ⟨some 62, .load 1 false .any (.t 61)⟩,
 .one ⟨some 63, .move (.t 8)⟩,
 .one ⟨some 64, .indexAddr 1 (.t 62) (.t 63)⟩,
 .one ⟨some 65, .load 1 false .any (.t 64)⟩,
 .one ⟨some 66, .bin .sub 0 (.t 60) (.t 65)⟩,
 .one ⟨some 67, .indexAddr 1 (.t 54) (.t 55)⟩,
 .one ⟨none, .store 1 (.t 67) (.t 66)⟩])
 (.region [.one ⟨some 19, .fieldAddr 1 (.t 7)⟩,
 .one ⟨some 20, .load 1 false .any (.t 19)⟩,
 .one ⟨some 21, .move (.t 8)⟩,
 .one ⟨some 22, .fieldAddr 1 (.t 3)⟩,
 .one ⟨some 23, .load 1 false .any (.t 22)⟩,
 .one ⟨some 24, .move (.t 8)⟩,
 .one ⟨some 25, .indexAddr 1 (.t 23) (.t 24)⟩,
 .one ⟨some 26, .load 1 false .any (.t 25)⟩,
 .one ⟨some 27, .fieldAddr 1 (.t 4)⟩,
 .one ⟨some 28, .load 1 false .any (.t 27)⟩,
 .one ⟨some 29, .move (.t 8)⟩,
 .one ⟨some 30, .indexAddr 1 (.t 28) (.t 29)⟩,
 .one ⟨some 31, .load 1 false .any (.t 30)⟩,
 .one ⟨some 32, .bin .mul 0 (.t 26) (.t 31)⟩,
 .one ⟨some 33, .indexAddr 1 (.t 20) (.t 21)⟩,
 .one ⟨none, .store 1 (.t 33) (.t 32)⟩]))))))))
 (.region [.one ⟨some 16, .move (.t 8)⟩,
 .one ⟨some 17, .bin .add 0 (.t 16) (.c (.int .i64 1))⟩,
 .one ⟨some 8, .move (.t 17)⟩])))
def ref1_Each_l0 : ACode :=
 (.loop [(2, .any), (3, .any), (4, .any), (6, .any), (7, .any), (8, .any)] [(0, [(6, .any), (7, .any)])] [] ref1_Each_b0)
def ref1_Each : AFunc := { params := [.any, .any, .any], results := [.cell 6 2 true], body :=
 (.seq (.region [.one ⟨some 3, .box (.t 0)⟩,
 .one ⟨some 4, .box (.t 1)⟩,
 .one ⟨some 6, .alloc [.nil, .nil]⟩])
 (.seq (.region [.one ⟨some 9, .load 2 true .any (.t 3)⟩,
 .one ⟨some 10, .call false .any 235 [.t 9]⟩,
 .one ⟨some 7, .alloc [.nil, .nil]⟩,
 .one ⟨none, .store 2 (.t 7) (.t 10)⟩])
 (.seq (.seq (.region [.one ⟨some 8, .move (.c (.int .i64 0))⟩])
 (.block 0 ref1_Each_l0))
 (.seq (.region [.one ⟨some 68, .load 2 true .any (.t 7)⟩,
 .one ⟨none, .store 2 (.t 6) (.t 68)⟩])
 .ret)))) }
/-- gradus/gradusref1.Gate: number 247 -/
def ref1_Gate_b0 : ACode :=
 (.seq (.seq (.region [.one ⟨some 9, .move (.t 6)⟩,
 .one ⟨some 10, .fieldAddr 1 (.t 5)⟩,
 .one ⟨some 11, .load 1 false .any (.t 10)⟩,
 .one ⟨some 12, .len (.t 11)⟩,
 .one ⟨some 13, .bin .lss 0 (.t 9) (.t 12)⟩])
 (.cond (.t 13) .skip
 (.exit 0)))
 (.seq (.block 1 (.seq (.region [.one ⟨some 16, .fieldAddr 1 (.t 2)⟩,
 .one ⟨some 17, .load 1 false .any (.t 16)⟩,
 .one ⟨some 18, .move (.t 6)⟩,
 .one ⟨some 19, .indexAddr 1 (.t 17) (.t 18)⟩,
 .one ⟨some 20, .load 1 false .any (.t 19)⟩,
 .one ⟨some 21, .bin .leq 0 (.t 20) (.c (.int .i64 0))⟩])
 (.cond (.t 21) (.region [.one ⟨some 22, .fieldAddr 1 (.t 5)⟩,
 .one ⟨some 23, .load 1 false .any (.t 22)⟩,
 .one ⟨some 24, .move (.t 6)⟩,
 .one ⟨some 25, .indexAddr 1 (.t 23) (.t 24)⟩,
 .one ⟨none, .store 1 (.t 25) (.c (.int .i64 0))⟩])
 .skip)))
 (.region [.one ⟨some 14, .move (.t 6)⟩,
 .one ⟨some 15, .bin .add 0 (.t 14) (.c (.int .i64 1))⟩,
 .one ⟨some 6, .move (.t 15)⟩])))
def ref1_Gate_l0 : ACode :=
 (.loop [(2, .any), (4, .any), (5, .any), (6, .any)] [(0, [(4, .any), (5, .any)])] [] ref1_Gate_b0)
def ref1_Gate : AFunc := { params := [.any, .any], results := [.cell 4 2 true], body :=
 (.seq (.region [.one ⟨some 2, .box (.t 0)⟩,
 .one ⟨some 3, .box (.t 1)⟩,
 .one ⟨some 4, .alloc [.nil, .nil]⟩])
 (.seq (.region [.one ⟨some 7, .load 2 true .any (.t 3)⟩,
 .one ⟨some 8, .call false .any 235 [.t 7]⟩,
 .one ⟨some 5, .alloc [.nil, .nil]⟩,
 .one ⟨none, .store 2 (.t 5) (.t 8)⟩])
 (.seq (.seq (.region [.one ⟨some 6, .move (.c (.int .i64 0))⟩])
 (.block 0 ref1_Gate_l0))
 (.seq (.region [.one ⟨some 26, .load 2 true .any (.t 5)⟩,
 .one ⟨none, .store 2 (.t 4) (.t 26)⟩])
 .ret)))) }
/-- gradus/gradusref10.peaks: number 248 -/
def ref10_peaks_b0 : ACode :=
 (.seq (.seq (.region [.one ⟨some 21, .move (.t 10)⟩,
 .one ⟨some 22, .move (.t 2)⟩,
 .one ⟨some 23, .bin .lss 0 (.t 21) (.t 22)⟩])
 (.cond (.t 23) .skip
 (.exit 2)))
 (.seq (.block 3 (.seq (.region [.one ⟨some 26, .fieldAddr 1 (.t 3)⟩,
 .one ⟨some 27, .load 1 false .any (.t 26)⟩,
 .one ⟨some 28, .move (.t 8)⟩,
 .one ⟨some 29, .move (.t 2)⟩,
 .one ⟨some 30, .bin .mul 0 (.t 28) (.t 29)⟩,
 .one ⟨some 31, .move (.t 10)⟩,
 .one ⟨some 32, .bin .add 0 (.t 30) (.t 31)⟩,
 .one ⟨some 33, .indexAddr 1 (.t 27) (.t 32)⟩,
 .one ⟨some 34, .load 1 false .any (.t 33)⟩,
 .one ⟨some 35, .fieldAddr 1 (.t 3)⟩,
 .one ⟨some 36, .load 1 false .any (.t 35)⟩,
 .one ⟨some 37, .move (.t 8)⟩,
 .one ⟨some 38, .move (.t 2)⟩,
 .one ⟨some 39, .bin .mul 0 (.t 37) (.t 38)⟩,
 .one ⟨some 40, .move (.t 9)⟩,
 .one ⟨some 41, .bin .add 0 (.t 39) (.t 40)⟩,
 .one ⟨some 42, .indexAddr 1 (.t 36) (.t 41)⟩,
 .one ⟨some 43, .load 1 false .any (.t 42)⟩,
 .one ⟨some 44, .bin .gtr 0 (.t 34) (.t 43)⟩])
 (.cond (.t 44) (.region [.one ⟨some 45, .move (.t 10)⟩,
 .one ⟨some 9, .move (.t 45)⟩])
 .skip)))
 (.region [.one ⟨some 24, .move (.t 10)⟩,
 .one ⟨some 25, .bin .add 0 (.t 24) (.c (.int .i64 1))⟩,
 .one ⟨some 10, .move (.t 25)⟩])))
def ref10_peaks_l0 : ACode :=
 (.loop [(2, .any), (3, .any), (4, .any), (6, .any), (7, .any), (8, .any), (9, .any), (10, .any)] [(2, [(2, .any), (3, .any), (4, .any), (6, .any), (7, .any), (8, .any), (9, .any)])] [] ref10_peaks_b0)
def ref10_peaks_b1 : ACode :=
 (.seq (.seq (.region [.one ⟨some 14, .move (.t 8)⟩,
 .one ⟨some 15, .fieldAddr 1 (.t 7)⟩,
 .one ⟨some 16, .load 1 false .any (.t 15)⟩,
 .one ⟨some 17, .len (.t 16)⟩,
 .one ⟨some 18, .bin .lss 0 (.t 14) (.t 17)⟩])
 (.cond (.t 18) .skip
 (.exit 0)))
 (.seq (.block 1 (.seq (.region [.one ⟨some 9, .move (.c (.int .i64 0))⟩])
 (.seq (.seq (.region [.one ⟨some 10, .move (.c (.int .i64 0))⟩])
 (.block 2 ref10_peaks_l0))
 (.region [.one ⟨some 46, .fieldAddr 1 (.t 7)⟩,
 .one ⟨some 47, .load 1 false .any (.t 46)⟩,
 .one ⟨some 48, .move (.t 8)⟩,
 .one ⟨some 49, .fieldAddr 1 (.t 4)⟩,
 .one ⟨some 50, .load 1 false .any (.t 49)⟩,
 .one ⟨some 51, .move (.t 8)⟩,
 .one ⟨some 52, .move (.t 2)⟩,
 .one ⟨some 53, .bin .mul 0 (.t 51) (.t 52)⟩,
 .one ⟨some 54, .move (.t 9)⟩,
 .one ⟨some 55, .bin .add 0 (.t 53) (.t 54)⟩,
 .one ⟨some 56, .indexAddr 1 (.t 50) (.t 55)⟩,
 .one ⟨some 57, .load 1 false .any (.t 56)⟩,
 .one ⟨some 58, .indexAddr 1 (.t 47) (.t 48)⟩,
 .one ⟨none, .store 1 (.t 58) (.t 57)⟩]))))
 (.region [.one ⟨some 19, .move (.t 8)⟩,
 .one ⟨some 20, .bin .add 0 (.t 19) (.c (.int .i64 1))⟩,
 .one ⟨some 8, .move (.t 20)⟩])))
def ref10_peaks_l1 : ACode :=
 (.loop [(2, .any), (3, .any), (4, .any), (6, .any), (7, .any), (8, .any)] [(0, [(6, .any), (7, .any)])] [] ref10_peaks_b1)
def ref10_peaks : AFunc := { params := [.any, .any, .any], results := [.cell 6 2 true], body :=
 (.seq (.region [.one ⟨some 3, .box (.t 0)⟩,
 .one ⟨some 4, .box (.t 1)⟩,
 .one ⟨some 6, .alloc [.nil, .nil]⟩])
 (.seq (.region [.one ⟨some 11, .load 2 true .any (.t 3)⟩,
 .one ⟨some 12, .move (.t 2)⟩,
 .one ⟨some 13, .call false .any 252 [.t 11, .t 12]⟩,
 .one ⟨some 7, .alloc [.nil, .nil]⟩,
 .one ⟨none, .store 2 (.t 7) (.t 13)⟩])
 (.seq (.seq (.region [.one ⟨some 8, .move (.c (.int .i64 0))⟩])
 (.block 0 ref10_peaks_l1))
 (.seq (.region [.one ⟨some 59, .load 2 true .any (.t 7)⟩,
 .one ⟨none, .store 2 (.t 6) (.t 59)⟩])
 .ret)))) }
/-- gradus/gradusref1.Pick: number 249 -/
def ref1_Pick_b0 : ACode :=
 (.seq (.seq (.region [.one ⟨some 12, .move (.t 8)⟩,
 .one ⟨some 13, .fieldAddr 1 (.t 4)⟩,
 .one ⟨some 14, .load 1 false .any (.t 13)⟩,
 .one ⟨some 15, .len (.t 14)⟩,
 .one ⟨some 16, .bin .lss 0 (.t 12) (.t 15)⟩])
 (.cond (.t 16) .skip
 (.exit 0)))
 (.seq (.block 1 (.region [.one ⟨some 19, .fieldAddr 1 (.t 7)⟩,
 .one ⟨some 20, .load 1 false .any (.t 19)⟩,
 .one ⟨some 21, .move (.t 8)⟩,
 .one ⟨some 22, .move (.t 2)⟩,
 .one ⟨some 23, .bin .mul 0 (.t 21) (.t 22)⟩,
 .one ⟨some 24, .fieldAddr 1 (.t 3)⟩,
 .one ⟨some 25, .load 1 false .any (.t 24)⟩,
 .one ⟨some 26, .move (.t 8)⟩,
 .one ⟨some 27, .move (.t 2)⟩,
 .one ⟨some 28, .bin .mul 0 (.t 26) (.t 27)⟩,
 .one ⟨some 29, .move (.t 8)⟩,
 .one ⟨some 30, .move (.t 2)⟩,
 .one ⟨some 31, .bin .mul 0 (.t 29) (.t 30)⟩,
 .one ⟨some 32, .move (.t 2)⟩,
 .one ⟨some 33, .bin .add 0 (.t 31) (.t 32)⟩,
 .one ⟨some 34, .cut 1 (.t 25) (some (.t 28)) (some (.t 33))⟩,
 .one ⟨some 35, .call true .any 253 [.t 34]⟩,
 .one ⟨some 36, .bin .add 0 (.t 23) (.t 35)⟩,
 .one ⟨some 37, .fieldAddr 1 (.t 4)⟩,
 .one ⟨some 38, .load 1 false .any (.t 37)⟩,
 .one ⟨some 39, .move (.t 8)⟩,
 .one ⟨some 40, .indexAddr 1 (.t 38) (.t 39)⟩,
 .one ⟨some 41, .load 1 false .any (.t 40)⟩,
 .one ⟨some 42, .indexAddr 1 (.t 20) (.t 36)⟩,
 .one ⟨none, .store 1 (.t 42) (.t 41)⟩]))
 (.region [.one ⟨some 17, .move (.t 8)⟩,
 .one ⟨some 18, .bin .add 0 (.t 17) (.c (.int .i64 1))⟩,
 .one ⟨some 8, .move (.t 18)⟩])))
def ref1_Pick_l0 : ACode :=
 (.loop [(2, .any), (3, .any), (4, .any), (6, .any), (7, .any), (8, .any)] [(0, [(6, .any), (7, .any)])] [] ref1_Pick_b0)
def ref1_Pick : AFunc := { params := [.any, .any, .any], results := [.cell 6 2 true], body :=
 (.seq (.region [.one ⟨some 3, .box (.t 0)⟩,
 .one ⟨some 4, .box (.t 1)⟩,
 .one ⟨some 6, .alloc [.nil, .nil]⟩])
 (.seq (.region [.one ⟨some 9, .fieldAddr 0 (.t 3)⟩,
 .one ⟨some 10, .load 1 false .any (.t 9)⟩,
 .one ⟨some 11, .call false .any 240 [.t 10, .c (.int .i64 0)]⟩,
 .one ⟨some 7, .alloc [.nil, .nil]⟩,
 .one ⟨none, .store 2 (.t 7) (.t 11)⟩])
 (.seq (.seq (.region [.one ⟨some 8, .move (.c (.int .i64 0))⟩])
 (.block 0 ref1_Pick_l0))
 (.seq (.region [.one ⟨some 43, .load 2 true .any (.t 7)⟩,
 .one ⟨none, .store 2 (.t 6) (.t 43)⟩])
 .ret)))) }
/-- gradus/gradusref1.Do: number 250 -/
def ref1_Do : AFunc := { params := [.any, .any, .any, .any], results := [.cell 8 2 true], body :=
 (.seq (.region [.one ⟨some 8, .alloc [.nil, .nil]⟩])
 (.seq (.seq (.region [.one ⟨some 9, .move (.t 0)⟩])
 (.block 0 (.seq (.region [.one ⟨some 11, .bin .eql 0 (.t 9) (.c (.int .i64 3))⟩,
 .one ⟨some 10, .move (.t 11)⟩])
 (.cond (.t 10) (.seq (.region [.one ⟨some 12, .move (.t 2)⟩,
 .one ⟨some 13, .move (.t 1)⟩,
 .one ⟨some 14, .call false .any 240 [.t 12, .t 13]⟩,
 .one ⟨none, .store 2 (.t 8) (.t 14)⟩])
 .ret)
 (.seq (.region [.one ⟨some 16, .bin .eql 0 (.t 9) (.c (.int .i64 4))⟩,
 .one ⟨some 15, .move (.t 16)⟩])
 (.cond (.t 15) (.seq (.region [.one ⟨some 17, .move (.t 3)⟩,
 .one ⟨some 18, .indexAddr 2 (.t 17) (.c (.int .i64 0))⟩,
 .one ⟨some 19, .load 2 true .any (.t 18)⟩,
 .one ⟨some 20, .move (.t 3)⟩,
 .one ⟨some 21, .indexAddr 2 (.t 20) (.c (.int .i64 1))⟩,
 .one ⟨some 22, .load 2 true .any (.t 21)⟩,
 .one ⟨some 23, .call true .any 246 [.t 19, .t 22, .c (.int .i64 0)]⟩,
 .one ⟨none, .store 2 (.t 8) (.t 23)⟩])
 .ret)
 (.seq (.region [.one ⟨some 25, .bin .eql 0 (.t 9) (.c (.int .i64 5))⟩,
 .one ⟨some 24, .move (.t 25)⟩])
 (.cond (.t 24) (.seq (.region [.one ⟨some 26, .move (.t 3)⟩,
 .one ⟨some 27, .indexAddr 2 (.t 26) (.c (.int .i64 0))⟩,
 .one ⟨some 28, .load 2 true .any (.t 27)⟩,
 .one ⟨some 29, .move (.t 3)⟩,
 .one ⟨some 30, .indexAddr 2 (.t 29) (.c (.int .i64 1))⟩,
 .one ⟨some 31, .load 2 true .any (.t 30)⟩,
 .one ⟨some 32, .call true .any 246 [.t 28, .t 31, .c (.int .i64 1)]⟩,
 .one ⟨none, .store 2 (.t 8) (.t 32)⟩])
 .ret)
 (.seq (.region [.one ⟨some 34, .bin .eql 0 (.t 9) (.c (.int .i64 6))⟩,
 .one ⟨some 33, .move (.t 34)⟩])
 (.cond (.t 33) (.seq (.region [.one ⟨some 35, .move (.t 3)⟩,
 .one ⟨some 36, .indexAddr 2 (.t 35) (.c (.int .i64 0))⟩,
 .one ⟨some 37, .load 2 true .any (.t 36)⟩,
 .one ⟨some 38, .move (.t 3)⟩,
 .one ⟨some 39, .indexAddr 2 (.t 38) (.c (.int .i64 1))⟩,
 .one ⟨some 40, .load 2 true .any (.t 39)⟩,
 .one ⟨some 41, .call true .any 246 [.t 37, .t 40, .c (.int .i64 2)]⟩,
 .one ⟨none, .store 2 (.t 8) (.t 41)⟩])
 .ret)
 (.seq (.region [.one ⟨some 43, .bin .eql 0 (.t 9) (.c (.int .i64 7))⟩,
 .one ⟨some 42, .move (.t 43)⟩])
 (.cond (.t 42) (.seq (.region [.one ⟨some 44, .move (.t 3)⟩,
 .one ⟨some 45, .indexAddr 2 (.t 44) (.c (.int .i64 0))⟩,
 .one ⟨some 46, .load 2 true .any (.t 45)⟩,
 .one ⟨some 47, .call false .any 254 [.t 46, .c (.int .i64 (-1))]⟩,
 .one ⟨none, .store 2 (.t 8) (.t 47)⟩])
 .ret)
 (.seq (.region [.one ⟨some 49, .bin .eql 0 (.t 9) (.c (.int .i64 8))⟩,
 .one ⟨some 48, .move (.t 49)⟩])
 (.cond (.t 48) (.seq (.region [.one ⟨some 50, .move (.t 3)⟩,
 .one ⟨some 51, .indexAddr 2 (.t 50) (.c (.int .i64 0))⟩,
 .one ⟨some 52, .load 2 true .any (.t 51)⟩,
 .one ⟨some 53, .move (.t 1)⟩,
 .one ⟨some 54, .call false .any 254 [.t 52, .t 53]⟩,
 .one ⟨none, .store 2 (.t 8) (.t 54)⟩])
 .ret)
 (.seq (.region [.one ⟨some 56, .bin .eql 0 (.t 9) (.c (.int .i64 9))⟩,
 .one ⟨some 55, .move (.t 56)⟩])
 (.cond (.t 55) (.seq (.region [.one ⟨some 57, .move (.t 3)⟩,
 .one ⟨some 58, .indexAddr 2 (.t 57) (.c (.int .i64 0))⟩,
 .one ⟨some 59, .load 2 true .any (.t 58)⟩,
 .one ⟨some 60, .move (.t 3)⟩,
 .one ⟨some 61, .indexAddr 2 (.t 60) (.c (.int .i64 1))⟩,
 .one ⟨some 62, .load 2 true .any (.t 61)⟩,
 .one ⟨some 63, .call true .any 255 [.t 59, .t 62]⟩,
 .one ⟨none, .store 2 (.t 8) (.t 63)⟩])
 .ret)
 (.seq (.region [.one ⟨some 65, .bin .eql 0 (.t 9) (.c (.int .i64 10))⟩,
 .one ⟨some 64, .move (.t 65)⟩])
 (.cond (.t 64) (.seq (.region [.one ⟨some 66, .move (.t 3)⟩,
 .one ⟨some 67, .indexAddr 2 (.t 66) (.c (.int .i64 0))⟩,
 .one ⟨some 68, .load 2 true .any (.t 67)⟩,
 .one ⟨some 69, .call false .any 256 [.t 68]⟩,
 .one ⟨none, .store 2 (.t 8) (.t 69)⟩])
 .ret)
 (.seq (.region [.one ⟨some 71, .bin .eql 0 (.t 9) (.c (.int .i64 11))⟩,
 .one ⟨some 70, .move (.t 71)⟩])
 (.cond (.t 70) (.seq (.region [.one ⟨some 72, .move (.t 2)⟩,
 .one ⟨some 73, .call true .any 25 [.t 72]⟩,
 .one ⟨some 74, .move (.t 3)⟩,
 .one ⟨some 75, .indexAddr 2 (.t 74) (.c (.int .i64 0))⟩,
 .one ⟨some 76, .fieldAddr 1 (.t 75)⟩,
 .one ⟨some 77, .load 1 false .any (.t 76)⟩,
 .one ⟨some 78, .call true .any 25 [.t 77]⟩,
 .one ⟨some 79, .build [.nil, .nil] [(0, 1, .t 73), (1, 1, .t 78)]⟩,
 .one ⟨none, .store 2 (.t 8) (.t 79)⟩])
 .ret)
 (.seq (.region [.one ⟨some 81, .bin .eql 0 (.t 9) (.c (.int .i64 12))⟩,
 .one ⟨some 80, .move (.t 81)⟩])
 (.cond (.t 80) (.seq (.region [.one ⟨some 82, .move (.t 3)⟩,
 .one ⟨some 83, .indexAddr 2 (.t 82) (.c (.int .i64 0))⟩,
 .one ⟨some 84, .load 2 true .any (.t 83)⟩,
 .one ⟨some 85, .move (.t 2)⟩,
 .one ⟨some 86, .call false .any 257 [.t 84, .t 85]⟩,
 .one ⟨none, .store 2 (.t 8) (.t 86)⟩])
 .ret)
 (.seq (.region [.one ⟨some 88, .bin .eql 0 (.t 9) (.c (.int .i64 13))⟩,
 .one ⟨some 87, .move (.t 88)⟩])
 (.cond (.t 87) (.seq (.region [.one ⟨some 89, .move (.t 3)⟩,
 .one ⟨some 90, .indexAddr 2 (.t 89) (.c (.int .i64 0))⟩,
 .one ⟨some 91, .load 2 true .any (.t 90)⟩,
 .one ⟨some 92, .move (.t 2)⟩,
 .one ⟨some 93, .call false .any 258 [.t 91, .t 92]⟩,
 .one ⟨none, .store 2 (.t 8) (.t 93)⟩])
 .ret)
 (.seq (.region [.one ⟨some 95, .bin .eql 0 (.t 9) (.c (.int .i64 14))⟩,
 .one ⟨some 94, .move (.t 95)⟩])
 (.cond (.t 94) (.seq (.region [.one ⟨some 96, .move (.t 3)⟩,
 .one ⟨some 97, .indexAddr 2 (.t 96) (.c (.int .i64 0))⟩,
 .one ⟨some 98, .load 2 true .any (.t 97)⟩,
 .one ⟨some 99, .move (.t 3)⟩,
 .one ⟨some 100, .indexAddr 2 (.t 99) (.c (.int .i64 0))⟩,
 .one ⟨some 101, .load 2 true .any (.t 100)⟩,
 .one ⟨some 102, .call true .any 247 [.t 98, .t 101]⟩,
 .one ⟨none, .store 2 (.t 8) (.t 102)⟩])
 .ret)
 (.seq (.region [.one ⟨some 104, .bin .eql 0 (.t 9) (.c (.int .i64 16))⟩,
 .one ⟨some 103, .move (.t 104)⟩])
 (.cond (.t 103) (.seq (.region [.one ⟨some 105, .move (.t 3)⟩,
 .one ⟨some 106, .indexAddr 2 (.t 105) (.c (.int .i64 0))⟩,
 .one ⟨some 107, .load 2 true .any (.t 106)⟩,
 .one ⟨some 108, .move (.t 3)⟩,
 .one ⟨some 109, .indexAddr 2 (.t 108) (.c (.int .i64 1))⟩,
 .one ⟨some 110, .load 2 true .any (.t 109)⟩,
 .one ⟨some 111, .call true .any 247 [.t 107, .t 110]⟩,
 .one ⟨none, .store 2 (.t 8) (.t 111)⟩])
 .ret)
 (.seq (.region [.one ⟨some 113, .bin .eql 0 (.t 9) (.c (.int .i64 15))⟩,
 .one ⟨some 112, .move (.t 113)⟩])
 (.cond (.t 112) (.seq (.region [.one ⟨some 114, .move (.t 3)⟩,
 .one ⟨some 115, .indexAddr 2 (.t 114) (.c (.int .i64 0))⟩,
 .one ⟨some 116, .load 2 true .any (.t 115)⟩,
 .one ⟨some 117, .move (.t 1)⟩,
 .one ⟨some 118, .call false .any 252 [.t 116, .t 117]⟩,
 .one ⟨none, .store 2 (.t 8) (.t 118)⟩])
 .ret)
 .skip))))))))))))))))))))))))))))))
 (.seq (.region [.one ⟨some 119, .move (.t 3)⟩,
 .one ⟨some 120, .indexAddr 2 (.t 119) (.c (.int .i64 0))⟩,
 .one ⟨some 121, .load 2 true .any (.t 120)⟩,
 .one ⟨some 122, .move (.t 3)⟩,
 .one ⟨some 123, .indexAddr 2 (.t 122) (.c (.int .i64 1))⟩,
 .one ⟨some 124, .load 2 true .any (.t 123)⟩,
 .one ⟨some 125, .move (.t 1)⟩,
 .one ⟨some 126, .call true .any 249 [.t 121, .t 124, .t 125]⟩,
 .one ⟨none, .store 2 (.t 8) (.t 126)⟩])
 .ret))) }
/-- gradus/slope.peaks: number 251 -/
def slope_peaks_b0 : ACode :=
 (.seq (.region [.one ⟨some 27, .bin .lss 0 (.t 26) (.t 25)⟩])
 (.seq (.cond (.t 27) .skip
 (.exit 0))
 (.seq (.block 1 (.seq (.region [.one ⟨some 28, .move (.t 26)⟩,
 .one ⟨some 9, .move (.t 28)⟩])
 (.region [.one ⟨some 29, .fieldAddr 1 (.t 7)⟩,
 .one ⟨some 30, .load 1 false .any (.t 29)⟩,
 .one ⟨some 31, .move (.t 9)⟩,
 .one ⟨some 32, .indexAddr 1 (.t 30) (.t 31)⟩,
 .one ⟨none, .store 1 (.t 32) (.c (.int .i64 1))⟩])))
 (.region [.one ⟨some 33, .bin .add 0 (.t 26) (.c (.int .i64 1))⟩,
 .one ⟨some 26, .move (.t 33)⟩]))))
def slope_peaks_l0 : ACode :=
 (.loop [(2, .any), (3, .any), (4, .any), (6, .any), (7, .any), (25, .any), (26, .any)] [(0, [(2, .any), (3, .any), (4, .any), (6, .any), (7, .any)])] [] slope_peaks_b0)
def slope_peaks_b1 : ACode :=
 (.seq (.region [.one ⟨some 54, .bin .lss 0 (.t 53) (.t 52)⟩])
 (.seq (.cond (.t 54) .skip
 (.exit 2))
 (.seq (.block 3 (.seq (.region [.one ⟨some 55, .move (.t 53)⟩,
 .one ⟨some 56, .indexAddr 1 (.t 51) (.t 53)⟩,
 .one ⟨some 57, .load 1 false .any (.t 56)⟩,
 .one ⟨some 15, .move (.t 55)⟩,
 .one ⟨some 16, .move (.t 57)⟩])
 (.region [.one ⟨some 58, .fieldAddr 1 (.t 14)⟩,
 .one ⟨some 59, .load 1 false .any (.t 58)⟩,
 .one ⟨some 60, .move (.t 15)⟩,
 .one ⟨some 61, .move (.t 2)⟩,
 .one ⟨some 62, .bin .quo 0 (.t 60) (.t 61)⟩,
 .one ⟨some 63, .indexAddr 1 (.t 59) (.t 62)⟩,
 .one ⟨some 64, .load 1 false .any (.t 63)⟩,
 .one ⟨some 65, .move (.t 16)⟩,
 .one ⟨some 66, .bin .add 0 (.t 64) (.t 65)⟩,
 .one ⟨some 67, .indexAddr 1 (.t 59) (.t 62)⟩,
 .one ⟨none, .store 1 (.t 67) (.t 66)⟩])))
 (.region [.one ⟨some 68, .bin .add 0 (.t 53) (.c (.int .i64 1))⟩,
 .one ⟨some 53, .move (.t 68)⟩]))))
def slope_peaks_l1 : ACode :=
 (.loop [(2, .any), (6, .any), (14, .any), (51, .any), (52, .any), (53, .any)] [(2, [(6, .any), (14, .any)])] [] slope_peaks_b1)
def slope_peaks : AFunc := { params := [.any, .any, .any], results := [.cell 6 2 true], body :=
 (.seq (.region [.one ⟨some 3, .box (.t 0)⟩,
 .one ⟨some 4, .box (.t 1)⟩,
 .one ⟨some 6, .alloc [.nil, .nil]⟩])
 (.seq (.region [.one ⟨some 18, .load 2 true .any (.t 3)⟩,
 .one ⟨some 19, .move (.t 2)⟩,
 .one ⟨some 20, .call false .any 166 [.t 18, .t 19]⟩,
 .one ⟨some 17, .move (.t 20)⟩,
 .one ⟨some 21, .extract (.t 17) 0⟩,
 .one ⟨some 22, .extract (.t 17) 1⟩,
 .one ⟨some 7, .alloc [.nil, .nil]⟩,
 .one ⟨none, .store 2 (.t 7) (.t 21)⟩,
 .one ⟨some 8, .move (.t 22)⟩])
 (.seq (.seq (.region [.one ⟨some 23, .fieldAddr 1 (.t 7)⟩,
 .one ⟨some 24, .load 1 false .any (.t 23)⟩,
 .one ⟨some 25, .len (.t 24)⟩,
 .one ⟨some 26, .move (.c (.int .i64 0))⟩])
 (.block 0 slope_peaks_l0))
 (.seq (.region [.one ⟨some 35, .load 2 true .any (.t 3)⟩,
 .one ⟨some 36, .load 2 true .any (.t 7)⟩,
 .one ⟨some 37, .move (.t 2)⟩,
 .one ⟨some 38, .call false .any 158 [.t 35, .t 36, .t 37]⟩,
 .one ⟨some 34, .move (.t 38)⟩,
 .one ⟨some 39, .extract (.t 34) 0⟩,
 .one ⟨some 40, .extract (.t 34) 1⟩,
 .one ⟨some 10, .alloc [.nil, .nil]⟩,
 .one ⟨none, .store 2 (.t 10) (.t 39)⟩,
 .one ⟨some 11, .move (.t 40)⟩])
 (.seq (.region [.one ⟨some 42, .load 2 true .any (.t 10)⟩,
 .one ⟨some 43, .load 2 true .any (.t 4)⟩,
 .one ⟨some 44, .call false .any 155 [.t 42, .t 43]⟩,
 .one ⟨some 41, .move (.t 44)⟩,
 .one ⟨some 45, .extract (.t 41) 0⟩,
 .one ⟨some 46, .extract (.t 41) 1⟩,
 .one ⟨some 12, .alloc [.nil, .nil]⟩,
 .one ⟨none, .store 2 (.t 12) (.t 45)⟩,
 .one ⟨some 13, .move (.t 46)⟩])
 (.seq (.region [.one ⟨some 47, .fieldAddr 0 (.t 7)⟩,
 .one ⟨some 48, .load 1 false .any (.t 47)⟩,
 .one ⟨some 49, .call false .any 152 [.t 48]⟩,
 .one ⟨some 14, .alloc [.nil, .nil]⟩,
 .one ⟨none, .store 2 (.t 14) (.t 49)⟩])
 (.seq (.seq (.region [.one ⟨some 50, .fieldAddr 1 (.t 12)⟩,
 .one ⟨some 51, .load 1 false .any (.t 50)⟩,
 .one ⟨some 52, .len (.t 51)⟩,
 .one ⟨some 53, .move (.c (.int .i64 0))⟩])
 (.block 2 slope_peaks_l1))
 (.seq (.region [.one ⟨some 69, .load 2 true .any (.t 14)⟩,
 .one ⟨none, .store 2 (.t 6) (.t 69)⟩])
 .ret)))))))) }
/-- gradus/gradusref1.Max: number 252 -/
def ref1_Max_b0 : ACode :=
 (.seq (.seq (.region [.one ⟨some 13, .move (.t 6)⟩,
 .one ⟨some 14, .fieldAddr 1 (.t 5)⟩,
 .one ⟨some 15, .load 1 false .any (.t 14)⟩,
 .one ⟨some 16, .len (.t 15)⟩,
 .one ⟨some 17, .bin .lss 0 (.t 13) (.t 16)⟩])
 (.cond (.t 17) .skip
 (.exit 0)))
 (.seq (.block 1 (.seq (.region [.one ⟨some 20, .fieldAddr 1 (.t 2)⟩,
 .one ⟨some 21, .load 1 false .any (.t 20)⟩,
 .one ⟨some 22, .move (.t 6)⟩,
 .one ⟨some 23, .move (.t 1)⟩,
 .one ⟨some 24, .bin .mul 0 (.t 22) (.t 23)⟩,
 .one ⟨some 25, .move (.t 6)⟩,
 .one ⟨some 26, .move (.t 1)⟩,
 .one ⟨some 27, .bin .mul 0 (.t 25) (.t 26)⟩,
 .one ⟨some 28, .move (.t 1)⟩,
 .one ⟨some 29, .bin .add 0 (.t 27) (.t 28)⟩,
 .one ⟨some 30, .cut 1 (.t 21) (some (.t 24)) (some (.t 29))⟩,
 .one ⟨some 7, .move (.t 30)⟩])
 (.region [.one ⟨some 31, .fieldAddr 1 (.t 5)⟩,
 .one ⟨some 32, .load 1 false .any (.t 31)⟩,
 .one ⟨some 33, .move (.t 6)⟩,
 .one ⟨some 34, .move (.t 7)⟩,
 .one ⟨some 35, .move (.t 7)⟩,
 .one ⟨some 36, .call true .any 253 [.t 35]⟩,
 .one ⟨some 37, .indexAddr 1 (.t 34) (.t 36)⟩,
 .one ⟨some 38, .load 1 false .any (.t 37)⟩,
 .one ⟨some 39, .indexAddr 1 (.t 32) (.t 33)⟩,
 .one ⟨none, .store 1 (.t 39) (.t 38)⟩])))
 (.region [.one ⟨some 18, .move (.t 6)⟩,
 .one ⟨some 19, .bin .add 0 (.t 18) (.c (.int .i64 1))⟩,
 .one ⟨some 6, .move (.t 19)⟩])))
def ref1_Max_l0 : ACode :=
 (.loop [(1, .any), (2, .any), (4, .any), (5, .any), (6, .any)] [(0, [(4, .any), (5, .any)])] [] ref1_Max_b0)
def ref1_Max : AFunc := { params := [.any, .any], results := [.cell 4 2 true], body :=
 (.seq (.region [.one ⟨some 2, .box (.t 0)⟩,
 .one ⟨some 4, .alloc [.nil, .nil]⟩])
 (.seq (.region [.one ⟨some 8, .fieldAddr 0 (.t 2)⟩,
 .one ⟨some 9, .load 1 false .any (.t 8)⟩,
 .one ⟨some 10, .move (.t 1)⟩,
 .one ⟨some 11, .call false .any 102 [.t 9, .t 10]⟩,
 .one ⟨some 12, .call false .any 240 [.t 11, .c (.int .i64 0)]⟩,
 .one ⟨some 5, .alloc [.nil, .nil]⟩,
 .one ⟨none, .store 2 (.t 5) (.t 12)⟩])
 (.seq (.seq (.region [.one ⟨some 6, .move (.c (.int .i64 0))⟩])
 (.block 0 ref1_Max_l0))
 (.seq (.region [.one ⟨some 40, .load 2 true .any (.t 5)⟩,
 .one ⟨none, .store 2 (.t 4) (.t 40)⟩])
 .ret)))) }
/-- gradus/gradusref1.first: number 253 -/
def ref1_first_b0 : ACode :=
 (.seq (.seq (.region [.one ⟨some 5, .move (.t 4)⟩,
 .one ⟨some 6, .move (.t 0)⟩,
 .one ⟨some 7, .len (.t 6)⟩,
 .one ⟨some 8, .bin .lss 0 (.t 5) (.t 7)⟩])
 (.cond (.t 8) .skip
 (.exit 0)))
 (.seq (.block 1 (.seq (.region [.one ⟨some 11, .move (.t 0)⟩,
 .one ⟨some 12, .move (.t 4)⟩,
 .one ⟨some 13, .indexAddr 1 (.t 11) (.t 12)⟩,
 .one ⟨some 14, .load 1 false .any (.t 13)⟩,
 .one ⟨some 15, .move (.t 0)⟩,
 .one ⟨some 16, .move (.t 3)⟩,
 .one ⟨some 17, .indexAddr 1 (.t 15) (.t 16)⟩,
 .one ⟨some 18, .load 1 false .any (.t 17)⟩,
 .one ⟨some 19, .bin .gtr 0 (.t 14) (.t 18)⟩])
 (.cond (.t 19) (.region [.one ⟨some 20, .move (.t 4)⟩,
 .one ⟨some 3, .move (.t 20)⟩])
 .skip)))
 (.region [.one ⟨some 9, .move (.t 4)⟩,
 .one ⟨some 10, .bin .add 0 (.t 9) (.c (.int .i64 1))⟩,
 .one ⟨some 4, .move (.t 10)⟩])))
def ref1_first_l0 : ACode :=
 (.loop [(0, .any), (3, .any), (4, .any)] [(0, [(3, .any)])] [] ref1_first_b0)
def ref1_first : AFunc := { params := [.any], results := [.tmp 2], body :=
 (.seq (.region [.one ⟨some 2, .move (.c (.int .i64 0))⟩])
 (.seq (.region [.one ⟨some 3, .move (.c (.int .i64 0))⟩])
 (.seq (.seq (.region [.one ⟨some 4, .move (.c (.int .i64 0))⟩])
 (.block 0 ref1_first_l0))
 (.seq (.region [.one ⟨some 21, .move (.t 3)⟩,
 .one ⟨some 2, .move (.t 21)⟩])
 .ret)))) }
/-- gradus/gradusref1.Scale: number 254 -/
def ref1_Scale_b0 : ACode :=
 (.seq (.seq (.region [.one ⟨some 9, .move (.t 6)⟩,
 .one ⟨some 10, .fieldAddr 1 (.t 5)⟩,
 .one ⟨some 11, .load 1 false .any (.t 10)⟩,
 .one ⟨some 12, .len (.t 11)⟩,
 .one ⟨some 13, .bin .lss 0 (.t 9) (.t 12)⟩])
 (.cond (.t 13) .skip
 (.exit 0)))
 (.seq (.block 1 (.region [.one ⟨some 16, .fieldAddr 1 (.t 5)⟩,
 .one ⟨some 17, .load 1 false .any (.t 16)⟩,
 .one ⟨some 18, .move (.t 6)⟩,
 .one ⟨some 19, .fieldAddr 1 (.t 5)⟩,
 .one ⟨some 20, .load 1 false .any (.t 19)⟩,
 .one ⟨some 21, .move (.t 6)⟩,
 .one ⟨some 22, .indexAddr 1 (.t 20) (.t 21)⟩,
 .one ⟨some 23, .load 1 false .any (.t 22)⟩,
 .one ⟨some 24, .move (.t 1)⟩,
 .one ⟨some 25, .bin .mul 0 (.t 23) (.t 24)⟩,
 .one ⟨some 26, .indexAddr 1 (.t 17) (.t 18)⟩,
 .one ⟨none, .store 1 (.t 26) (.t 25)⟩]))
 (.region [.one ⟨some 14, .move (.t 6)⟩,
 .one ⟨some 15, .bin .add 0 (.t 14) (.c (.int .i64 1))⟩,
 .one ⟨some 6, .move (.t 15)⟩])))
def ref1_Scale_l0 : ACode :=
 (.loop [(1, .any), (4, .any), (5, .any), (6, .any)] [(0, [(4, .any), (5, .any)])] [] ref1_Scale_b0)
def ref1_Scale : AFunc := { params := [.any, .any], results := [.cell 4 2 true], body :=
 (.seq (.region [.one ⟨some 2, .box (.t 0)⟩,
 .one ⟨some 4, .alloc [.nil, .nil]⟩])
 (.seq (.region [.one ⟨some 7, .load 2 true .any (.t 2)⟩,
 .one ⟨some 8, .call false .any 235 [.t 7]⟩,
 .one ⟨some 5, .alloc [.nil, .nil]⟩,
 .one ⟨none, .store 2 (.t 5) (.t 8)⟩])
 (.seq (.seq (.region [.one ⟨some 6, .move (.c (.int .i64 0))⟩])
 (.block 0 ref1_Scale_l0))
 (.seq (.region [.one ⟨some 27, .load 2 true .any (.t 5)⟩,
 .one ⟨none, .store 2 (.t 4) (.t 27)⟩])
 .ret)))) }
end C
end Go.AM
