/-
  YtjbpmfglccfkaaaDoorP6: lemmas of this proof (part 6). No conditions.
-/
import Derived.Test.YtjbpmfglccfkaaaDoorP5
import Derived.Test.YtjbpmfglccfkaaaDoorP3
import Derived.KernelRfl

/-
  F23Code: the code of some functions as abstract code (printed by program).
-/

namespace Go.GB.C11
open Go.GB
/- 79 supergraph supergraphref10.inputs -/
def c79_0 : ACode :=
  (.seq (.region false [⟨some 79, none, .mv (.s 9)⟩,
    ⟨some 8, none, .mv (.s 79)⟩] [] [8]) .ret)
def c79_1 : ACode :=
  (.region false [⟨some 18, none, .mv (.s 10)⟩,
    ⟨some 19, none, .bin .add (.s 18) (.c (.t (.int .i64 1)))⟩,
    ⟨some 10, none, .mv (.s 19)⟩] [] [1, 2, 3, 4, 9, 10])
def c79_2 : ACode :=
  (.region false [⟨some 60, none, .mv (.s 9)⟩,
    ⟨some 61, none, .mv (.s 11)⟩,
    ⟨some 62, none, .build [.t (.int .i64 0), .t (.str [])] [(0, 1, (.c (.t (.int .i64 8)))), (1, 1, (.s 61))]⟩,
    ⟨some 63, none, .bsl false 2 [[.int .i64 0, .str []]] [(0, (.s 62))]⟩,
    ⟨some 64, none, .app 2 24 (.s 60) (.s 63)⟩,
    ⟨some 9, none, .mv (.s 64)⟩] [] [1, 2, 3, 4, 9, 10])
def c79_3 : ACode :=
  (.region false [⟨some 74, none, .mv (.s 9)⟩,
    ⟨some 75, none, .mv (.s 11)⟩,
    ⟨some 76, none, .build [.t (.int .i64 0), .t (.str [])] [(0, 1, (.c (.t (.int .i64 10)))), (1, 1, (.s 75))]⟩,
    ⟨some 77, none, .bsl false 2 [[.int .i64 0, .str []]] [(0, (.s 76))]⟩,
    ⟨some 78, none, .app 2 24 (.s 74) (.s 77)⟩,
    ⟨some 9, none, .mv (.s 78)⟩] [] [1, 2, 3, 4, 9, 10])
def c79_4 : ACode :=
  (.cond (.s 73) c79_3 .skip)
def c79_5 : ACode :=
  (.seq (.region true [⟨some 65, none, .ld true 1 (.s 4)⟩,
    ⟨some 66, none, .mv (.s 1)⟩,
    ⟨some 67, none, .mv (.s 10)⟩,
    ⟨some 68, none, .ia 10 (.s 66) (.s 67)⟩,
    ⟨some 69, none, .fa 1 (.s 68)⟩,
    ⟨some 70, none, .fa 0 (.s 69)⟩,
    ⟨some 71, none, .ld false 1 (.s 70)⟩,
    ⟨some 72, none, .call 104 [(.s 65), (.s 71)]⟩,
    ⟨some 73, none, .un .not (.s 72)⟩] [[], [], [], [1, 2], [3], [4], [5], [0, 6], [7]] [1, 2, 3, 4, 9, 10, 11, 73]) c79_4)
def c79_6 : ACode :=
  (.cond (.s 59) c79_2 c79_5)
def c79_7 : ACode :=
  (.seq (.region true [⟨some 51, none, .ld true 1 (.s 4)⟩,
    ⟨some 52, none, .mv (.s 1)⟩,
    ⟨some 53, none, .mv (.s 10)⟩,
    ⟨some 54, none, .ia 10 (.s 52) (.s 53)⟩,
    ⟨some 55, none, .fa 1 (.s 54)⟩,
    ⟨some 56, none, .fa 0 (.s 55)⟩,
    ⟨some 57, none, .ld false 1 (.s 56)⟩,
    ⟨some 58, none, .call 102 [(.s 51), (.s 57)]⟩,
    ⟨some 59, none, .un .not (.s 58)⟩] [[], [], [], [1, 2], [3], [4], [5], [0, 6], [7]] [1, 2, 3, 4, 9, 10, 11, 59]) c79_6)
def c79_8 : ACode :=
  (.seq (.region false [⟨some 41, none, .mv (.s 9)⟩,
    ⟨some 42, none, .mv (.s 1)⟩,
    ⟨some 43, none, .mv (.s 10)⟩,
    ⟨some 44, none, .ia 10 (.s 42) (.s 43)⟩,
    ⟨some 45, none, .fa 0 (.s 44)⟩,
    ⟨some 46, none, .ld false 1 (.s 45)⟩,
    ⟨some 47, none, .mv (.s 13)⟩,
    ⟨some 48, none, .mv (.s 11)⟩,
    ⟨some 49, none, .call 98 [(.s 46), (.c (.t (.bool false))), (.s 47), (.s 48)]⟩,
    ⟨some 50, none, .app 2 24 (.s 41) (.s 49)⟩,
    ⟨some 9, none, .mv (.s 50)⟩] [] [1, 2, 3, 4, 9, 10, 11]) c79_7)
def c79_9 : ACode :=
  (.seq (.region true [⟨some 30, none, .mv (.s 1)⟩,
    ⟨some 31, none, .mv (.s 10)⟩,
    ⟨some 32, none, .sll 10 (.s 30) none (some (.s 31))⟩,
    ⟨some 33, none, .mv (.s 1)⟩,
    ⟨some 34, none, .mv (.s 10)⟩,
    ⟨some 35, none, .ia 10 (.s 33) (.s 34)⟩,
    ⟨some 36, none, .fa 0 (.s 35)⟩,
    ⟨some 37, none, .ld false 1 (.s 36)⟩,
    ⟨some 38, none, .call 103 [(.s 32), (.s 37)]⟩,
    ⟨some 29, none, .mv (.s 38)⟩,
    ⟨some 39, none, .ext (.s 29) 0⟩,
    ⟨some 40, none, .ext (.s 29) 1⟩,
    ⟨some 12, none, .alloc [.t (.str []), .t (.str []), .nils, .t (.bool false), .t (.int .i64 0), .t (.int .i64 0), .t (.str []), .nils, .nils, .nils]⟩,
    ⟨none, none, .st 10 (.s 12) (.s 39)⟩,
    ⟨some 13, none, .mv (.s 40)⟩] [[], [], [0, 1], [], [], [3, 4], [5], [6], [2, 7], [8], [9], [9], [], [12, 10, 8, 0, 1, 2, 3, 4, 5, 6, 7, 8, 9, 10, 12], [11, 13, 0, 1, 2, 3, 4, 5, 6, 7, 8, 9, 10, 11, 12, 13]] [1, 2, 3, 4, 9, 10, 11, 13]) c79_8)
def c79_10 : ACode :=
  (.seq (.region false [⟨some 20, none, .mv (.s 2)⟩,
    ⟨some 21, none, .mv (.s 1)⟩,
    ⟨some 22, none, .mv (.s 10)⟩,
    ⟨some 23, none, .ia 10 (.s 21) (.s 22)⟩,
    ⟨some 24, none, .fa 0 (.s 23)⟩,
    ⟨some 25, none, .ld false 1 (.s 24)⟩,
    ⟨some 26, none, .bin .add (.s 20) (.s 25)⟩,
    ⟨some 27, none, .mv (.s 3)⟩,
    ⟨some 28, none, .bin .add (.s 26) (.s 27)⟩,
    ⟨some 11, none, .mv (.s 28)⟩] [] [1, 2, 3, 4, 9, 10, 11]) c79_9)
def c79_11 : ACode :=
  (.seq (.block 1 c79_10) c79_1)
def c79_12 : ACode :=
  (.cond (.s 17) .skip (.exit 0))
def c79_13 : ACode :=
  (.seq (.seq (.region false [⟨some 14, none, .mv (.s 10)⟩,
    ⟨some 15, none, .mv (.s 1)⟩,
    ⟨some 16, none, .len (.s 15)⟩,
    ⟨some 17, none, .bin .lss (.s 14) (.s 16)⟩] [] [1, 2, 3, 4, 9, 10, 17]) c79_12) c79_11)
def c79_14 : ACode :=
  (.loop c79_13)
def c79_15 : ACode :=
  (.block 0 c79_14)
def c79_16 : ACode :=
  (.seq (.seq (.region false [⟨some 10, none, .cst (.t (.int .i64 0))⟩] [] [1, 2, 3, 4, 9, 10]) c79_15) c79_0)
def c79_17 : ACode :=
  (.seq (.region false [⟨some 9, none, .cst (.nils)⟩] [] [1, 2, 3, 4, 9]) c79_16)
def c79 : ACode :=
  (.seq (.region false [⟨some 4, none, .box 1 (.s 0)⟩,
    ⟨some 8, none, .cst (.nils)⟩] [] [1, 2, 3, 4]) c79_17)
def r79 : List ARes := [.tmp 8]
def n79 : Nat := 80
/- 80 supergraph supergraphref10.Find -/
def c80_0 : ACode :=
  (.seq (.region false [⟨some 27, none, .build [.t (.int .i64 0), .t (.str []), .nils, .nils, .nils, .nils, .nils] []⟩,
    ⟨none, none, .st 7 (.s 4) (.s 27)⟩,
    ⟨some 5, none, .cst (.t (.bool false))⟩] [] [4, 5]) .ret)
def c80_1 : ACode :=
  (.region false [⟨some 12, none, .mv (.s 6)⟩,
    ⟨some 13, none, .bin .add (.s 12) (.c (.t (.int .i64 1)))⟩,
    ⟨some 6, none, .mv (.s 13)⟩] [] [1, 2, 4, 6])
def c80_2 : ACode :=
  (.seq (.region false [⟨some 22, none, .fa 0 (.s 2)⟩,
    ⟨some 23, none, .ld false 1 (.s 22)⟩,
    ⟨some 24, none, .mv (.s 6)⟩,
    ⟨some 25, none, .ia 7 (.s 23) (.s 24)⟩,
    ⟨some 26, none, .ld true 7 (.s 25)⟩,
    ⟨none, none, .st 7 (.s 4) (.s 26)⟩,
    ⟨some 5, none, .cst (.t (.bool true))⟩] [] [4, 5]) .ret)
def c80_3 : ACode :=
  (.cond (.s 21) c80_2 .skip)
def c80_4 : ACode :=
  (.seq (.region false [⟨some 14, none, .fa 0 (.s 2)⟩,
    ⟨some 15, none, .ld false 1 (.s 14)⟩,
    ⟨some 16, none, .mv (.s 6)⟩,
    ⟨some 17, none, .ia 7 (.s 15) (.s 16)⟩,
    ⟨some 18, none, .fa 1 (.s 17)⟩,
    ⟨some 19, none, .ld false 1 (.s 18)⟩,
    ⟨some 20, none, .mv (.s 1)⟩,
    ⟨some 21, none, .bin .eql (.s 19) (.s 20)⟩] [] [1, 2, 4, 6, 21]) c80_3)
def c80_5 : ACode :=
  (.seq (.block 1 c80_4) c80_1)
def c80_6 : ACode :=
  (.cond (.s 11) .skip (.exit 0))
def c80_7 : ACode :=
  (.seq (.seq (.region false [⟨some 7, none, .mv (.s 6)⟩,
    ⟨some 8, none, .fa 0 (.s 2)⟩,
    ⟨some 9, none, .ld false 1 (.s 8)⟩,
    ⟨some 10, none, .len (.s 9)⟩,
    ⟨some 11, none, .bin .lss (.s 7) (.s 10)⟩] [] [1, 2, 4, 6, 11]) c80_6) c80_5)
def c80_8 : ACode :=
  (.loop c80_7)
def c80_9 : ACode :=
  (.block 0 c80_8)
def c80_10 : ACode :=
  (.seq (.seq (.region false [⟨some 6, none, .cst (.t (.int .i64 0))⟩] [] [1, 2, 4, 6]) c80_9) c80_0)
def c80 : ACode :=
  (.seq (.region false [⟨some 2, none, .box 1 (.s 0)⟩,
    ⟨some 4, none, .alloc [.t (.int .i64 0), .t (.str []), .nils, .nils, .nils, .nils, .nils]⟩,
    ⟨some 5, none, .cst (.t (.bool false))⟩] [] [1, 2, 4]) c80_10)
def r80 : List ARes := [.cell 4 true 7, .tmp 5]
def n80 : Nat := 28
/- 81 supergraph schema.Leaf -/
def c81_0 : ACode :=
  (.seq (.region false [⟨some 5, none, .mv (.s 1)⟩,
    ⟨some 6, none, .call 105 [(.s 5)]⟩,
    ⟨some 7, none, .mv (.s 6)⟩,
    ⟨some 8, some (7, false), .ld true 1 (.s 2)⟩,
    ⟨some 9, some (7, false), .mv (.s 1)⟩,
    ⟨some 10, some (7, false), .call 106 [(.s 8), (.s 9)]⟩,
    ⟨some 11, some (7, false), .bin .eql (.s 10) (.c (.t (.int .i64 4)))⟩,
    ⟨some 12, none, .pick (.s 7) (.c (.t (.bool true))) (.s 11)⟩,
    ⟨some 4, none, .mv (.s 12)⟩] [] [4]) .ret)
def c81 : ACode :=
  (.seq (.region false [⟨some 2, none, .box 1 (.s 0)⟩,
    ⟨some 4, none, .cst (.t (.bool false))⟩] [] [1, 2]) c81_0)
def r81 : List ARes := [.tmp 4]
def n81 : Nat := 13
/- 82 (*supergraph moves.judge).add -/
def c82_0 : ACode :=
  (.region true [⟨some 11, none, .mv (.s 0)⟩,
    ⟨some 12, none, .mv (.s 0)⟩,
    ⟨some 13, none, .nilck (.s 12)⟩,
    ⟨some 14, none, .fa 1 (.s 13)⟩,
    ⟨some 15, none, .ld false 1 (.s 14)⟩,
    ⟨some 16, none, .mv (.s 2)⟩,
    ⟨some 17, none, .fa 0 (.s 8)⟩,
    ⟨some 18, none, .ld false 1 (.s 17)⟩,
    ⟨some 19, none, .bin .add (.s 18) (.c (.t (.str [58])))⟩,
    ⟨some 20, none, .mv (.s 4)⟩,
    ⟨some 21, none, .bin .add (.s 19) (.s 20)⟩,
    ⟨some 22, none, .build [.t (.int .i64 0), .t (.str [])] [(0, 1, (.s 16)), (1, 1, (.s 21))]⟩,
    ⟨some 23, none, .bsl false 2 [[.int .i64 0, .str []]] [(0, (.s 22))]⟩,
    ⟨some 24, none, .app 2 24 (.s 15) (.s 23)⟩,
    ⟨some 25, none, .nilck (.s 11)⟩,
    ⟨some 26, none, .fa 1 (.s 25)⟩,
    ⟨none, none, .st 1 (.s 26) (.s 24)⟩] [[], [], [1], [2], [3], [], [], [6], [7], [], [8, 9], [5, 10], [11], [4, 12], [0, 0, 1, 2, 3, 4, 5, 6, 7, 8, 9, 10, 11, 12, 13], [14, 0, 1, 2, 3, 4, 5, 6, 7, 8, 9, 10, 11, 12, 13], [15, 13, 13, 0, 1, 2, 3, 4, 5, 6, 7, 8, 9, 10, 11, 12, 13]] [])
def c82_1 : ACode :=
  (.cond (.s 10) c82_0 .skip)
def c82_2 : ACode :=
  (.seq (.region false [⟨some 10, none, .mv (.s 1)⟩] [] [0, 2, 4, 8, 10]) c82_1)
def c82 : ACode :=
  (.seq (.region false [⟨some 8, none, .box 2 (.s 3)⟩] [] [0, 1, 2, 4, 8]) c82_2)
def r82 : List ARes := []
def n82 : Nat := 27
/- 83 supergraph moves.mentioned -/
def c83_0 : ACode :=
  (.seq (.region false [⟨some 6, none, .cst (.t (.bool false))⟩] [] [6]) .ret)
def c83_1 : ACode :=
  (.region false [⟨some 63, none, .bin .add (.s 33) (.c (.t (.int .i64 1)))⟩,
    ⟨some 33, none, .mv (.s 63)⟩] [] [2, 4, 31, 32, 33])
def c83_2 : ACode :=
  (.region false [⟨some 62, none, .bin .add (.s 40) (.c (.t (.int .i64 1)))⟩,
    ⟨some 40, none, .mv (.s 62)⟩] [] [2, 4, 10, 31, 32, 33, 38, 39, 40])
def c83_3 : ACode :=
  (.seq (.region false [⟨some 6, none, .cst (.t (.bool true))⟩] [] [6]) .ret)
def c83_4 : ACode :=
  (.cond (.s 61) c83_3 .skip)
def c83_5 : ACode :=
  (.seq (.region false [⟨some 44, none, .fa 0 (.s 10)⟩,
    ⟨some 45, none, .ld false 1 (.s 44)⟩,
    ⟨some 46, none, .bin .eql (.s 45) (.c (.t (.int .i64 1)))⟩,
    ⟨some 47, none, .mv (.s 46)⟩,
    ⟨some 48, some (47, true), .fa 2 (.s 12)⟩,
    ⟨some 49, some (47, true), .fa 0 (.s 48)⟩,
    ⟨some 50, some (47, true), .ld false 1 (.s 49)⟩,
    ⟨some 51, some (47, true), .fa 1 (.s 4)⟩,
    ⟨some 52, some (47, true), .ld false 1 (.s 51)⟩,
    ⟨some 53, some (47, true), .bin .eql (.s 50) (.s 52)⟩,
    ⟨some 54, none, .pick (.s 47) (.s 53) (.c (.t (.bool false)))⟩,
    ⟨some 55, none, .mv (.s 54)⟩,
    ⟨some 56, some (55, true), .fa 4 (.s 12)⟩,
    ⟨some 57, some (55, true), .ld false 1 (.s 56)⟩,
    ⟨some 58, some (55, true), .call 64 [(.s 57), (.c (.t (.str [112, 114, 111, 118, 105, 100, 101, 115])))]⟩,
    ⟨some 59, some (55, true), .mv (.s 2)⟩,
    ⟨some 60, some (55, true), .call 107 [(.s 58), (.s 59)]⟩,
    ⟨some 61, none, .pick (.s 55) (.s 60) (.c (.t (.bool false)))⟩] [] [2, 4, 10, 31, 32, 33, 38, 39, 40, 61]) c83_4)
def c83_6 : ACode :=
  (.seq (.region false [⟨some 42, none, .ia 5 (.s 38) (.s 40)⟩,
    ⟨some 43, none, .ld true 5 (.s 42)⟩,
    ⟨some 12, none, .alloc [.t (.str []), .nils, .t (.str []), .nils, .nils]⟩,
    ⟨none, none, .st 5 (.s 12) (.s 43)⟩] [] [2, 4, 10, 12, 31, 32, 33, 38, 39, 40]) c83_5)
def c83_7 : ACode :=
  (.seq (.block 5 c83_6) c83_2)
def c83_8 : ACode :=
  (.seq (.cond (.s 41) .skip (.exit 4)) c83_7)
def c83_9 : ACode :=
  (.seq (.region false [⟨some 41, none, .bin .lss (.s 40) (.s 39)⟩] [] [2, 4, 10, 31, 32, 33, 38, 39, 40, 41]) c83_8)
def c83_10 : ACode :=
  (.loop c83_9)
def c83_11 : ACode :=
  (.block 4 c83_10)
def c83_12 : ACode :=
  (.seq (.region false [⟨some 37, none, .fa 4 (.s 10)⟩,
    ⟨some 38, none, .ld false 1 (.s 37)⟩,
    ⟨some 39, none, .len (.s 38)⟩,
    ⟨some 40, none, .cst (.t (.int .i64 0))⟩] [] [2, 4, 10, 31, 32, 33, 38, 39, 40]) c83_11)
def c83_13 : ACode :=
  (.seq (.region false [⟨some 35, none, .ia 7 (.s 31) (.s 33)⟩,
    ⟨some 36, none, .ld true 7 (.s 35)⟩,
    ⟨some 10, none, .alloc [.t (.int .i64 0), .t (.str []), .nils, .nils, .nils, .nils, .nils]⟩,
    ⟨none, none, .st 7 (.s 10) (.s 36)⟩] [] [2, 4, 10, 31, 32, 33]) c83_12)
def c83_14 : ACode :=
  (.seq (.block 3 c83_13) c83_1)
def c83_15 : ACode :=
  (.seq (.cond (.s 34) .skip (.exit 2)) c83_14)
def c83_16 : ACode :=
  (.seq (.region false [⟨some 34, none, .bin .lss (.s 33) (.s 32)⟩] [] [2, 4, 31, 32, 33, 34]) c83_15)
def c83_17 : ACode :=
  (.loop c83_16)
def c83_18 : ACode :=
  (.block 2 c83_17)
def c83_19 : ACode :=
  (.seq (.seq (.region false [⟨some 29, none, .fa 1 (.s 3)⟩,
    ⟨some 30, none, .fa 0 (.s 29)⟩,
    ⟨some 31, none, .ld false 1 (.s 30)⟩,
    ⟨some 32, none, .len (.s 31)⟩,
    ⟨some 33, none, .cst (.t (.int .i64 0))⟩] [] [2, 4, 31, 32, 33]) c83_18) c83_0)
def c83_20 : ACode :=
  (.region false [⟨some 28, none, .bin .add (.s 19) (.c (.t (.int .i64 1)))⟩,
    ⟨some 19, none, .mv (.s 28)⟩] [] [2, 3, 4, 17, 18, 19])
def c83_21 : ACode :=
  (.seq (.region false [⟨some 6, none, .cst (.t (.bool true))⟩] [] [6]) .ret)
def c83_22 : ACode :=
  (.cond (.s 27) c83_21 .skip)
def c83_23 : ACode :=
  (.seq (.region false [⟨some 23, none, .fa 4 (.s 8)⟩,
    ⟨some 24, none, .ld false 1 (.s 23)⟩,
    ⟨some 25, none, .call 64 [(.s 24), (.c (.t (.str [114, 101, 113, 117, 105, 114, 101, 115])))]⟩,
    ⟨some 26, none, .mv (.s 2)⟩,
    ⟨some 27, none, .call 107 [(.s 25), (.s 26)]⟩] [] [2, 3, 4, 17, 18, 19, 27]) c83_22)
def c83_24 : ACode :=
  (.seq (.region false [⟨some 21, none, .ia 5 (.s 17) (.s 19)⟩,
    ⟨some 22, none, .ld true 5 (.s 21)⟩,
    ⟨some 8, none, .alloc [.t (.str []), .nils, .t (.str []), .nils, .nils]⟩,
    ⟨none, none, .st 5 (.s 8) (.s 22)⟩] [] [2, 3, 4, 8, 17, 18, 19]) c83_23)
def c83_25 : ACode :=
  (.seq (.block 1 c83_24) c83_20)
def c83_26 : ACode :=
  (.seq (.cond (.s 20) .skip (.exit 0)) c83_25)
def c83_27 : ACode :=
  (.seq (.region false [⟨some 20, none, .bin .lss (.s 19) (.s 18)⟩] [] [2, 3, 4, 17, 18, 19, 20]) c83_26)
def c83_28 : ACode :=
  (.loop c83_27)
def c83_29 : ACode :=
  (.block 0 c83_28)
def c83_30 : ACode :=
  (.seq (.seq (.region false [⟨some 16, none, .fa 4 (.s 4)⟩,
    ⟨some 17, none, .ld false 1 (.s 16)⟩,
    ⟨some 18, none, .len (.s 17)⟩,
    ⟨some 19, none, .cst (.t (.int .i64 0))⟩] [] [2, 3, 4, 17, 18, 19]) c83_29) c83_19)
def c83_31 : ACode :=
  (.seq (.region false [⟨some 6, none, .cst (.t (.bool true))⟩] [] [6]) .ret)
def c83_32 : ACode :=
  (.cond (.s 15) c83_31 .skip)
def c83_33 : ACode :=
  (.seq (.seq (.region false [⟨some 13, none, .ld true 7 (.s 4)⟩,
    ⟨some 14, none, .mv (.s 2)⟩,
    ⟨some 15, none, .call 87 [(.s 13), (.s 14)]⟩] [] [2, 3, 4, 15]) c83_32) c83_30)
def c83 : ACode :=
  (.seq (.region false [⟨some 3, none, .box 2 (.s 0)⟩,
    ⟨some 4, none, .box 7 (.s 1)⟩,
    ⟨some 6, none, .cst (.t (.bool false))⟩] [] [2, 3, 4]) c83_33)
def r83 : List ARes := [.tmp 6]
def n83 : Nat := 64
/- 84 (*supergraph moves.judge).others -/
def c84_0 : ACode :=
  (.seq (.region false [⟨some 8, none, .cst (.t (.bool false))⟩] [] [8]) .ret)
def c84_1 : ACode :=
  (.region false [⟨some 30, none, .bin .add (.s 16) (.c (.t (.int .i64 1)))⟩,
    ⟨some 16, none, .mv (.s 30)⟩] [] [1, 2, 3, 14, 15, 16])
def c84_2 : ACode :=
  (.seq (.region false [⟨some 8, none, .cst (.t (.bool true))⟩] [] [8]) .ret)
def c84_3 : ACode :=
  (.cond (.s 29) c84_2 .skip)
def c84_4 : ACode :=
  (.seq (.region false [⟨some 21, none, .mv (.s 9)⟩,
    ⟨some 22, none, .mv (.s 1)⟩,
    ⟨some 23, none, .bin .neq (.s 21) (.s 22)⟩,
    ⟨some 24, none, .mv (.s 23)⟩,
    ⟨some 25, some (24, true), .ld true 2 (.s 10)⟩,
    ⟨some 26, some (24, true), .mv (.s 2)⟩,
    ⟨some 27, some (24, true), .mv (.s 3)⟩,
    ⟨some 28, some (24, true), .call 108 [(.s 25), (.s 26), (.s 27)]⟩,
    ⟨some 29, none, .pick (.s 24) (.s 28) (.c (.t (.bool false)))⟩] [] [1, 2, 3, 14, 15, 16, 29]) c84_3)
def c84_5 : ACode :=
  (.seq (.region false [⟨some 18, none, .mv (.s 16)⟩,
    ⟨some 19, none, .ia 2 (.s 14) (.s 16)⟩,
    ⟨some 20, none, .ld true 2 (.s 19)⟩,
    ⟨some 10, none, .alloc [.t (.str []), .nils]⟩,
    ⟨some 9, none, .mv (.s 18)⟩,
    ⟨none, none, .st 2 (.s 10) (.s 20)⟩] [] [1, 2, 3, 9, 10, 14, 15, 16]) c84_4)
def c84_6 : ACode :=
  (.seq (.block 1 c84_5) c84_1)
def c84_7 : ACode :=
  (.seq (.cond (.s 17) .skip (.exit 0)) c84_6)
def c84_8 : ACode :=
  (.seq (.region false [⟨some 17, none, .bin .lss (.s 16) (.s 15)⟩] [] [1, 2, 3, 14, 15, 16, 17]) c84_7)
def c84_9 : ACode :=
  (.loop c84_8)
def c84_10 : ACode :=
  (.block 0 c84_9)
def c84_11 : ACode :=
  (.seq (.seq (.region false [⟨some 11, none, .mv (.s 0)⟩,
    ⟨some 12, none, .nilck (.s 11)⟩,
    ⟨some 13, none, .fa 0 (.s 12)⟩,
    ⟨some 14, none, .ld false 1 (.s 13)⟩,
    ⟨some 15, none, .len (.s 14)⟩,
    ⟨some 16, none, .cst (.t (.int .i64 0))⟩] [] [1, 2, 3, 14, 15, 16]) c84_10) c84_0)
def c84 : ACode :=
  (.seq (.region false [⟨some 8, none, .cst (.t (.bool false))⟩] [] [0, 1, 2, 3]) c84_11)
def r84 : List ARes := [.tmp 8]
def n84 : Nat := 31
/- 85 (*supergraph moves.judge).leant -/
def c85_0 : ACode :=
  (.seq (.region false [⟨some 6, none, .cst (.t (.bool false))⟩] [] [6]) .ret)
def c85_1 : ACode :=
  (.region false [⟨some 39, none, .bin .add (.s 16) (.c (.t (.int .i64 1)))⟩,
    ⟨some 16, none, .mv (.s 39)⟩] [] [1, 5, 14, 15, 16])
def c85_2 : ACode :=
  (.seq (.region false [⟨some 6, none, .cst (.t (.bool true))⟩] [] [6]) .ret)
def c85_3 : ACode :=
  (.cond (.s 38) c85_2 .skip)
def c85_4 : ACode :=
  (.seq (.region false [⟨some 30, none, .ld true 7 (.s 9)⟩,
    ⟨some 31, none, .ld false 1 (.s 5)⟩,
    ⟨some 32, none, .call 87 [(.s 30), (.s 31)]⟩,
    ⟨some 33, none, .mv (.s 32)⟩,
    ⟨some 34, some (33, false), .fa 4 (.s 9)⟩,
    ⟨some 35, some (33, false), .ld false 1 (.s 34)⟩,
    ⟨some 36, some (33, false), .mkfn 110 [(.s 5)]⟩,
    ⟨some 37, some (33, false), .call 109 [(.s 35), (.s 36)]⟩,
    ⟨some 38, none, .pick (.s 33) (.c (.t (.bool true))) (.s 37)⟩] [] [1, 5, 14, 15, 16, 38]) c85_3)
def c85_5 : ACode :=
  (.cond (.s 29) (.exit 1) .skip)
def c85_6 : ACode :=
  (.seq (.seq (.region false [⟨some 27, none, .fa 0 (.s 9)⟩,
    ⟨some 28, none, .ld false 1 (.s 27)⟩,
    ⟨some 29, none, .bin .neq (.s 28) (.c (.t (.int .i64 1)))⟩] [] [1, 5, 9, 14, 15, 16, 29]) c85_5) c85_4)
def c85_7 : ACode :=
  (.seq (.region false [⟨some 21, none, .fa 1 (.s 8)⟩,
    ⟨some 22, none, .ld true 1 (.s 21)⟩,
    ⟨some 23, none, .mv (.s 1)⟩,
    ⟨some 24, none, .call 65 [(.s 22), (.s 23)]⟩,
    ⟨some 20, none, .mv (.s 24)⟩,
    ⟨some 25, none, .ext (.s 20) 0⟩,
    ⟨some 26, none, .ext (.s 20) 1⟩,
    ⟨some 9, none, .alloc [.t (.int .i64 0), .t (.str []), .nils, .nils, .nils, .nils, .nils]⟩,
    ⟨none, none, .st 7 (.s 9) (.s 25)⟩,
    ⟨some 10, none, .mv (.s 26)⟩] [] [1, 5, 9, 14, 15, 16]) c85_6)
def c85_8 : ACode :=
  (.seq (.region false [⟨some 18, none, .ia 2 (.s 14) (.s 16)⟩,
    ⟨some 19, none, .ld true 2 (.s 18)⟩,
    ⟨some 8, none, .alloc [.t (.str []), .nils]⟩,
    ⟨none, none, .st 2 (.s 8) (.s 19)⟩] [] [1, 5, 8, 14, 15, 16]) c85_7)
def c85_9 : ACode :=
  (.seq (.block 1 c85_8) c85_1)
def c85_10 : ACode :=
  (.seq (.cond (.s 17) .skip (.exit 0)) c85_9)
def c85_11 : ACode :=
  (.seq (.region false [⟨some 17, none, .bin .lss (.s 16) (.s 15)⟩] [] [1, 5, 14, 15, 16, 17]) c85_10)
def c85_12 : ACode :=
  (.loop c85_11)
def c85_13 : ACode :=
  (.block 0 c85_12)
def c85_14 : ACode :=
  (.seq (.seq (.region false [⟨some 11, none, .mv (.s 0)⟩,
    ⟨some 12, none, .nilck (.s 11)⟩,
    ⟨some 13, none, .fa 0 (.s 12)⟩,
    ⟨some 14, none, .ld false 1 (.s 13)⟩,
    ⟨some 15, none, .len (.s 14)⟩,
    ⟨some 16, none, .cst (.t (.int .i64 0))⟩] [] [1, 5, 14, 15, 16]) c85_13) c85_0)
def c85 : ACode :=
  (.seq (.region false [⟨some 5, none, .box 1 (.s 2)⟩,
    ⟨some 6, none, .cst (.t (.bool false))⟩] [] [0, 1, 5]) c85_14)
def r85 : List ARes := [.tmp 6]
def n85 : Nat := 40
/- 86 supergraph moves.outside -/
def c86_0 : ACode :=
  (.seq (.region false [⟨some 47, none, .mv (.s 2)⟩,
    ⟨some 48, none, .len (.s 47)⟩,
    ⟨some 49, none, .bin .gtr (.s 48) (.c (.t (.int .i64 0)))⟩,
    ⟨some 6, none, .mv (.s 49)⟩] [] [6]) .ret)
def c86_1 : ACode :=
  (.region false [⟨some 46, none, .bin .add (.s 13) (.c (.t (.int .i64 1)))⟩,
    ⟨some 13, none, .mv (.s 46)⟩] [] [2, 3, 4, 11, 12, 13])
def c86_2 : ACode :=
  (.seq (.region false [⟨some 6, none, .cst (.t (.bool false))⟩] [] [6]) .ret)
def c86_3 : ACode :=
  (.cond (.s 45) c86_2 .skip)
def c86_4 : ACode :=
  (.seq (.region false [⟨some 23, none, .mv (.s 10)⟩,
    ⟨some 24, none, .un .not (.s 23)⟩,
    ⟨some 25, none, .mv (.s 24)⟩,
    ⟨some 26, some (25, false), .fa 4 (.s 9)⟩,
    ⟨some 27, some (25, false), .ld false 1 (.s 26)⟩,
    ⟨some 28, some (25, false), .call 25 [(.s 27), (.c (.t (.str [101, 120, 116, 101, 114, 110, 97, 108])))]⟩,
    ⟨some 29, some (25, false), .un .not (.s 28)⟩,
    ⟨some 30, none, .pick (.s 25) (.c (.t (.bool true))) (.s 29)⟩,
    ⟨some 31, none, .mv (.s 30)⟩,
    ⟨some 32, some (31, false), .fa 1 (.s 9)⟩,
    ⟨some 33, some (31, false), .ld false 1 (.s 32)⟩,
    ⟨some 34, some (31, false), .len (.s 33)⟩,
    ⟨some 35, some (31, false), .bin .gtr (.s 34) (.c (.t (.int .i64 0)))⟩,
    ⟨some 36, none, .pick (.s 31) (.c (.t (.bool true))) (.s 35)⟩,
    ⟨some 37, none, .mv (.s 36)⟩,
    ⟨some 38, some (37, false), .fa 1 (.s 3)⟩,
    ⟨some 39, some (37, false), .ld true 1 (.s 38)⟩,
    ⟨some 40, some (37, false), .fa 2 (.s 9)⟩,
    ⟨some 41, some (37, false), .fa 0 (.s 40)⟩,
    ⟨some 42, some (37, false), .ld false 1 (.s 41)⟩,
    ⟨some 43, some (37, false), .call 81 [(.s 39), (.s 42)]⟩,
    ⟨some 44, some (37, false), .un .not (.s 43)⟩,
    ⟨some 45, none, .pick (.s 37) (.c (.t (.bool true))) (.s 44)⟩] [] [2, 3, 4, 11, 12, 13, 45]) c86_3)
def c86_5 : ACode :=
  (.seq (.region false [⟨some 18, none, .ld true 7 (.s 4)⟩,
    ⟨some 19, none, .mv (.s 8)⟩,
    ⟨some 20, none, .call 66 [(.s 18), (.s 19)]⟩,
    ⟨some 17, none, .mv (.s 20)⟩,
    ⟨some 21, none, .ext (.s 17) 0⟩,
    ⟨some 22, none, .ext (.s 17) 1⟩,
    ⟨some 9, none, .alloc [.t (.str []), .nils, .t (.str []), .nils, .nils]⟩,
    ⟨none, none, .st 5 (.s 9) (.s 21)⟩,
    ⟨some 10, none, .mv (.s 22)⟩] [] [2, 3, 4, 9, 10, 11, 12, 13]) c86_4)
def c86_6 : ACode :=
  (.seq (.region false [⟨some 15, none, .ia 1 (.s 11) (.s 13)⟩,
    ⟨some 16, none, .ld false 1 (.s 15)⟩,
    ⟨some 8, none, .mv (.s 16)⟩] [] [2, 3, 4, 8, 11, 12, 13]) c86_5)
def c86_7 : ACode :=
  (.seq (.block 1 c86_6) c86_1)
def c86_8 : ACode :=
  (.seq (.cond (.s 14) .skip (.exit 0)) c86_7)
def c86_9 : ACode :=
  (.seq (.region false [⟨some 14, none, .bin .lss (.s 13) (.s 12)⟩] [] [2, 3, 4, 11, 12, 13, 14]) c86_8)
def c86_10 : ACode :=
  (.loop c86_9)
def c86_11 : ACode :=
  (.block 0 c86_10)
def c86_12 : ACode :=
  (.seq (.seq (.region false [⟨some 11, none, .mv (.s 2)⟩,
    ⟨some 12, none, .len (.s 11)⟩,
    ⟨some 13, none, .cst (.t (.int .i64 0))⟩] [] [2, 3, 4, 11, 12, 13]) c86_11) c86_0)
def c86 : ACode :=
  (.seq (.region false [⟨some 3, none, .box 2 (.s 0)⟩,
    ⟨some 4, none, .box 7 (.s 1)⟩,
    ⟨some 6, none, .cst (.t (.bool false))⟩] [] [2, 3, 4]) c86_12)
def r86 : List ARes := [.tmp 6]
def n86 : Nat := 50
/- 87 supergraph moves.isKey -/
def c87_0 : ACode :=
  (.seq (.region false [⟨some 5, none, .ld true 7 (.s 2)⟩,
    ⟨some 6, none, .call 62 [(.s 5)]⟩,
    ⟨some 7, none, .mkfn 112 [(.s 3)]⟩,
    ⟨some 8, none, .call 111 [(.s 6), (.s 7)]⟩,
    ⟨some 4, none, .mv (.s 8)⟩] [] [4]) .ret)
def c87 : ACode :=
  (.seq (.region false [⟨some 2, none, .box 7 (.s 0)⟩,
    ⟨some 3, none, .box 1 (.s 1)⟩,
    ⟨some 4, none, .cst (.t (.bool false))⟩] [] [2, 3]) c87_0)
def r87 : List ARes := [.tmp 4]
def n87 : Nat := 9
/- 88 strings.explode -/
/- 89 strings.Count -/
def c89_0 : ACode :=
  (.region false [⟨some 28, none, .mv (.s 0)⟩,
    ⟨some 29, none, .mv (.s 6)⟩,
    ⟨some 30, none, .mv (.s 1)⟩,
    ⟨some 31, none, .lens (.s 30)⟩,
    ⟨some 32, none, .bin .add (.s 29) (.s 31)⟩,
    ⟨some 33, none, .sls (.s 28) (some (.s 32)) none⟩,
    ⟨some 0, none, .mv (.s 33)⟩] [] [0, 1, 5])
def c89_1 : ACode :=
  (.seq (.region false [⟨some 26, none, .mv (.s 5)⟩,
    ⟨some 27, none, .bin .add (.s 26) (.c (.t (.int .i64 1)))⟩,
    ⟨some 5, none, .mv (.s 27)⟩] [] [0, 1, 5, 6]) c89_0)
def c89_2 : ACode :=
  (.seq (.region false [⟨some 25, none, .mv (.s 5)⟩,
    ⟨some 4, none, .mv (.s 25)⟩] [] [4]) .ret)
def c89_3 : ACode :=
  (.cond (.s 24) c89_2 .skip)
def c89_4 : ACode :=
  (.seq (.seq (.region false [⟨some 23, none, .mv (.s 6)⟩,
    ⟨some 24, none, .bin .eql (.s 23) (.c (.t (.int .i64 (-1))))⟩] [] [0, 1, 5, 6, 24]) c89_3) c89_1)
def c89_5 : ACode :=
  (.seq (.region false [⟨some 20, none, .mv (.s 0)⟩,
    ⟨some 21, none, .mv (.s 1)⟩,
    ⟨some 22, none, .call 90 [(.s 20), (.s 21)]⟩,
    ⟨some 6, none, .mv (.s 22)⟩] [] [0, 1, 5, 6]) c89_4)
def c89_6 : ACode :=
  (.block 1 c89_5)
def c89_7 : ACode :=
  (.loop c89_6)
def c89_8 : ACode :=
  (.block 0 c89_7)
def c89_9 : ACode :=
  (.seq (.region false [⟨some 5, none, .cst (.t (.int .i64 0))⟩] [] [0, 1, 5]) c89_8)
def c89_10 : ACode :=
  (.seq (.region false [⟨some 16, none, .mv (.s 0)⟩,
    ⟨some 17, none, .mv (.s 1)⟩,
    ⟨some 18, none, .ixs (.s 17) (.c (.t (.int .i64 0)))⟩,
    ⟨some 19, none, .nw (.xtr true (.s 16) (.s 18))⟩,
    ⟨some 4, none, .mv (.s 19)⟩] [] [4]) .ret)
def c89_11 : ACode :=
  (.cond (.s 15) c89_10 .skip)
def c89_12 : ACode :=
  (.seq (.seq (.region false [⟨some 13, none, .mv (.s 1)⟩,
    ⟨some 14, none, .lens (.s 13)⟩,
    ⟨some 15, none, .bin .eql (.s 14) (.c (.t (.int .i64 1)))⟩] [] [0, 1, 15]) c89_11) c89_9)
def c89_13 : ACode :=
  (.seq (.region false [⟨some 10, none, .mv (.s 0)⟩,
    ⟨some 11, none, .call 113 [(.s 10)]⟩,
    ⟨some 12, none, .bin .add (.s 11) (.c (.t (.int .i64 1)))⟩,
    ⟨some 4, none, .mv (.s 12)⟩] [] [4]) .ret)
def c89_14 : ACode :=
  (.cond (.s 9) c89_13 .skip)
def c89_15 : ACode :=
  (.seq (.seq (.region false [⟨some 7, none, .mv (.s 1)⟩,
    ⟨some 8, none, .lens (.s 7)⟩,
    ⟨some 9, none, .bin .eql (.s 8) (.c (.t (.int .i64 0)))⟩] [] [0, 1, 9]) c89_14) c89_12)
def c89 : ACode :=
  (.seq (.region false [⟨some 4, none, .cst (.t (.int .i64 0))⟩] [] [0, 1]) c89_15)
def r89 : List ARes := [.tmp 4]
def n89 : Nat := 34
/- 90 strings.Index -/
def c90_0 : ACode :=
  (.seq (.region false [⟨some 5, none, .mv (.s 0)⟩,
    ⟨some 6, none, .mv (.s 1)⟩,
    ⟨some 7, none, .call 116 [(.s 5), (.s 6)]⟩,
    ⟨some 4, none, .mv (.s 7)⟩] [] [4]) .ret)
def c90 : ACode :=
  (.seq (.region false [⟨some 4, none, .cst (.t (.int .i64 0))⟩] [] [0, 1]) c90_0)
def r90 : List ARes := [.tmp 4]
def n90 : Nat := 8
/- 91 internal stringslite.HasPrefix -/
def c91_0 : ACode :=
  (.seq (.region false [⟨some 5, none, .mv (.s 0)⟩,
    ⟨some 6, none, .lens (.s 5)⟩,
    ⟨some 7, none, .mv (.s 1)⟩,
    ⟨some 8, none, .lens (.s 7)⟩,
    ⟨some 9, none, .bin .geq (.s 6) (.s 8)⟩,
    ⟨some 10, none, .mv (.s 9)⟩,
    ⟨some 11, some (10, true), .mv (.s 0)⟩,
    ⟨some 12, some (10, true), .mv (.s 1)⟩,
    ⟨some 13, some (10, true), .lens (.s 12)⟩,
    ⟨some 14, some (10, true), .sls (.s 11) none (some (.s 13))⟩,
    ⟨some 15, some (10, true), .mv (.s 1)⟩,
    ⟨some 16, some (10, true), .bin .eql (.s 14) (.s 15)⟩,
    ⟨some 17, none, .pick (.s 10) (.s 16) (.c (.t (.bool false)))⟩,
    ⟨some 4, none, .mv (.s 17)⟩] [] [4]) .ret)
def c91 : ACode :=
  (.seq (.region false [⟨some 4, none, .cst (.t (.bool false))⟩] [] [0, 1]) c91_0)
def r91 : List ARes := [.tmp 4]
def n91 : Nat := 18
/- 92 supergraph directives.ruleOf -/
/- 93 (supergraph directives.rule).param -/
/- 94 supergraph supergraphref23.kind -/
def c94_0 : ACode :=
  (.seq (.region false [⟨some 4, none, .cst (.t (.str []))⟩,
    ⟨some 5, none, .cst (.t (.bool false))⟩] [] [4, 5]) .ret)
def c94_1 : ACode :=
  (.seq (.region false [⟨some 4, none, .cst (.t (.str [115, 101, 116]))⟩,
    ⟨some 5, none, .cst (.t (.bool false))⟩] [] [4, 5]) .ret)
def c94_2 : ACode :=
  (.seq (.region false [⟨some 4, none, .cst (.t (.str [116, 101, 120, 116]))⟩,
    ⟨some 5, none, .cst (.t (.bool false))⟩] [] [4, 5]) .ret)
def c94_3 : ACode :=
  (.seq (.region false [⟨some 4, none, .cst (.t (.str [116, 101, 120, 116, 115]))⟩,
    ⟨some 5, none, .cst (.t (.bool false))⟩] [] [4, 5]) .ret)
def c94_4 : ACode :=
  (.seq (.region false [⟨some 4, none, .cst (.t (.str [110, 117, 109, 98, 101, 114]))⟩,
    ⟨some 5, none, .cst (.t (.bool false))⟩] [] [4, 5]) .ret)
def c94_5 : ACode :=
  (.seq (.region false [⟨some 4, none, .cst (.t (.str [116, 114, 117, 116, 104]))⟩,
    ⟨some 5, none, .cst (.t (.bool true))⟩] [] [4, 5]) .ret)
def c94_6 : ACode :=
  (.seq (.region false [⟨some 4, none, .cst (.t (.str [116, 101, 120, 116]))⟩,
    ⟨some 5, none, .cst (.t (.bool true))⟩] [] [4, 5]) .ret)
def c94_7 : ACode :=
  (.cond (.s 24) c94_6 .skip)
def c94_8 : ACode :=
  (.seq (.region false [⟨some 25, none, .bin .eql (.s 9) (.c (.t (.str [100, 101, 112, 114, 101, 99, 97, 116, 101, 100, 46, 114, 101, 97, 115, 111, 110])))⟩,
    ⟨some 24, none, .mv (.s 25)⟩] [] [24]) c94_7)
def c94_9 : ACode :=
  (.cond (.s 22) c94_5 c94_8)
def c94_10 : ACode :=
  (.seq (.region false [⟨some 23, none, .bin .eql (.s 9) (.c (.t (.str [99, 97, 99, 104, 101, 67, 111, 110, 116, 114, 111, 108, 46, 112, 114, 105, 118, 97, 116, 101])))⟩,
    ⟨some 22, none, .mv (.s 23)⟩] [] [9, 22]) c94_9)
def c94_11 : ACode :=
  (.cond (.s 18) c94_4 c94_10)
def c94_12 : ACode :=
  (.region false [⟨some 21, none, .bin .eql (.s 9) (.c (.t (.str [99, 97, 99, 104, 101, 67, 111, 110, 116, 114, 111, 108, 46, 109, 97, 120, 65, 103, 101])))⟩,
    ⟨some 18, none, .mv (.s 21)⟩] [] [9, 18])
def c94_13 : ACode :=
  (.cond (.s 18) .skip c94_12)
def c94_14 : ACode :=
  (.seq (.region false [⟨some 20, none, .bin .eql (.s 9) (.c (.t (.str [108, 105, 115, 116, 83, 105, 122, 101, 46, 97, 115, 115, 117, 109, 101, 100])))⟩,
    ⟨some 18, none, .mv (.s 20)⟩] [] [9, 18]) c94_13)
def c94_15 : ACode :=
  (.cond (.s 18) .skip c94_14)
def c94_16 : ACode :=
  (.seq (.seq (.region false [⟨some 19, none, .bin .eql (.s 9) (.c (.t (.str [99, 111, 115, 116, 46, 119, 101, 105, 103, 104, 116])))⟩,
    ⟨some 18, none, .mv (.s 19)⟩] [] [9, 18]) c94_15) c94_11)
def c94_17 : ACode :=
  (.cond (.s 16) c94_3 c94_16)
def c94_18 : ACode :=
  (.seq (.region false [⟨some 17, none, .bin .eql (.s 9) (.c (.t (.str [115, 99, 111, 112, 101, 115, 46, 97, 108, 108])))⟩,
    ⟨some 16, none, .mv (.s 17)⟩] [] [9, 16]) c94_17)
def c94_19 : ACode :=
  (.cond (.s 14) c94_2 c94_18)
def c94_20 : ACode :=
  (.seq (.region false [⟨some 15, none, .bin .eql (.s 9) (.c (.t (.str [116, 97, 103, 46, 110, 97, 109, 101])))⟩,
    ⟨some 14, none, .mv (.s 15)⟩] [] [9, 14]) c94_19)
def c94_21 : ACode :=
  (.cond (.s 10) c94_1 c94_20)
def c94_22 : ACode :=
  (.region false [⟨some 13, none, .bin .eql (.s 9) (.c (.t (.str [112, 114, 111, 118, 105, 100, 101, 115, 46, 102, 105, 101, 108, 100, 115])))⟩,
    ⟨some 10, none, .mv (.s 13)⟩] [] [9, 10])
def c94_23 : ACode :=
  (.cond (.s 10) .skip c94_22)
def c94_24 : ACode :=
  (.seq (.region false [⟨some 12, none, .bin .eql (.s 9) (.c (.t (.str [114, 101, 113, 117, 105, 114, 101, 115, 46, 102, 105, 101, 108, 100, 115])))⟩,
    ⟨some 10, none, .mv (.s 12)⟩] [] [9, 10]) c94_23)
def c94_25 : ACode :=
  (.cond (.s 10) .skip c94_24)
def c94_26 : ACode :=
  (.seq (.seq (.region false [⟨some 11, none, .bin .eql (.s 9) (.c (.t (.str [107, 101, 121, 46, 102, 105, 101, 108, 100, 115])))⟩,
    ⟨some 10, none, .mv (.s 11)⟩] [] [9, 10]) c94_25) c94_21)
def c94_27 : ACode :=
  (.block 0 c94_26)
def c94_28 : ACode :=
  (.seq (.seq (.region false [⟨some 6, none, .mv (.s 0)⟩,
    ⟨some 7, none, .bin .add (.s 6) (.c (.t (.str [46])))⟩,
    ⟨some 8, none, .mv (.s 1)⟩,
    ⟨some 9, none, .bin .add (.s 7) (.s 8)⟩] [] [9]) c94_27) c94_0)
def c94 : ACode :=
  (.seq (.region false [⟨some 4, none, .cst (.t (.str []))⟩,
    ⟨some 5, none, .cst (.t (.bool false))⟩] [] [0, 1]) c94_28)
def r94 : List ARes := [.tmp 4, .tmp 5]
def n94 : Nat := 26
/- 95 supergraph supergraphref23.needed -/
def c95_0 : ACode :=
  (.seq (.region false [⟨some 2, none, .cst (.t (.str []))⟩] [] [2]) .ret)
def c95_1 : ACode :=
  (.seq (.region false [⟨some 2, none, .cst (.t (.str [102, 105, 101, 108, 100, 115]))⟩] [] [2]) .ret)
def c95_2 : ACode :=
  (.seq (.region false [⟨some 2, none, .cst (.t (.str [110, 97, 109, 101]))⟩] [] [2]) .ret)
def c95_3 : ACode :=
  (.seq (.region false [⟨some 2, none, .cst (.t (.str [97, 108, 108]))⟩] [] [2]) .ret)
def c95_4 : ACode :=
  (.seq (.region false [⟨some 2, none, .cst (.t (.str [119, 101, 105, 103, 104, 116]))⟩] [] [2]) .ret)
def c95_5 : ACode :=
  (.seq (.region false [⟨some 2, none, .cst (.t (.str [97, 115, 115, 117, 109, 101, 100]))⟩] [] [2]) .ret)
def c95_6 : ACode :=
  (.seq (.region false [⟨some 2, none, .cst (.t (.str [109, 97, 120, 65, 103, 101]))⟩] [] [2]) .ret)
def c95_7 : ACode :=
  (.cond (.s 16) c95_6 .skip)
def c95_8 : ACode :=
  (.seq (.region false [⟨some 17, none, .bin .eql (.s 3) (.c (.t (.str [99, 97, 99, 104, 101, 67, 111, 110, 116, 114, 111, 108])))⟩,
    ⟨some 16, none, .mv (.s 17)⟩] [] [16]) c95_7)
def c95_9 : ACode :=
  (.cond (.s 14) c95_5 c95_8)
def c95_10 : ACode :=
  (.seq (.region false [⟨some 15, none, .bin .eql (.s 3) (.c (.t (.str [108, 105, 115, 116, 83, 105, 122, 101])))⟩,
    ⟨some 14, none, .mv (.s 15)⟩] [] [3, 14]) c95_9)
def c95_11 : ACode :=
  (.cond (.s 12) c95_4 c95_10)
def c95_12 : ACode :=
  (.seq (.region false [⟨some 13, none, .bin .eql (.s 3) (.c (.t (.str [99, 111, 115, 116])))⟩,
    ⟨some 12, none, .mv (.s 13)⟩] [] [3, 12]) c95_11)
def c95_13 : ACode :=
  (.cond (.s 10) c95_3 c95_12)
def c95_14 : ACode :=
  (.seq (.region false [⟨some 11, none, .bin .eql (.s 3) (.c (.t (.str [115, 99, 111, 112, 101, 115])))⟩,
    ⟨some 10, none, .mv (.s 11)⟩] [] [3, 10]) c95_13)
def c95_15 : ACode :=
  (.cond (.s 8) c95_2 c95_14)
def c95_16 : ACode :=
  (.seq (.region false [⟨some 9, none, .bin .eql (.s 3) (.c (.t (.str [116, 97, 103])))⟩,
    ⟨some 8, none, .mv (.s 9)⟩] [] [3, 8]) c95_15)
def c95_17 : ACode :=
  (.cond (.s 4) c95_1 c95_16)
def c95_18 : ACode :=
  (.region false [⟨some 7, none, .bin .eql (.s 3) (.c (.t (.str [112, 114, 111, 118, 105, 100, 101, 115])))⟩,
    ⟨some 4, none, .mv (.s 7)⟩] [] [3, 4])
def c95_19 : ACode :=
  (.cond (.s 4) .skip c95_18)
def c95_20 : ACode :=
  (.seq (.region false [⟨some 6, none, .bin .eql (.s 3) (.c (.t (.str [114, 101, 113, 117, 105, 114, 101, 115])))⟩,
    ⟨some 4, none, .mv (.s 6)⟩] [] [3, 4]) c95_19)
def c95_21 : ACode :=
  (.cond (.s 4) .skip c95_20)
def c95_22 : ACode :=
  (.seq (.seq (.region false [⟨some 5, none, .bin .eql (.s 3) (.c (.t (.str [107, 101, 121])))⟩,
    ⟨some 4, none, .mv (.s 5)⟩] [] [3, 4]) c95_21) c95_17)
def c95_23 : ACode :=
  (.block 0 c95_22)
def c95_24 : ACode :=
  (.seq (.seq (.region false [⟨some 3, none, .mv (.s 0)⟩] [] [3]) c95_23) c95_0)
def c95 : ACode :=
  (.seq (.region false [⟨some 2, none, .cst (.t (.str []))⟩] [] [0]) c95_24)
def r95 : List ARes := [.tmp 2]
def n95 : Nat := 18
/- 96 supergraph supergraphref23.fits -/
def c96_0 : ACode :=
  (.seq (.region false [⟨some 63, none, .fa 0 (.s 2)⟩,
    ⟨some 64, none, .ld false 1 (.s 63)⟩,
    ⟨some 65, none, .bin .eql (.s 64) (.c (.t (.int .i64 5)))⟩,
    ⟨some 4, none, .mv (.s 65)⟩] [] [4]) .ret)
def c96_1 : ACode :=
  (.region false [⟨some 54, none, .mv (.s 7)⟩,
    ⟨some 55, none, .bin .add (.s 54) (.c (.t (.int .i64 1)))⟩,
    ⟨some 7, none, .mv (.s 55)⟩] [] [2, 7])
def c96_2 : ACode :=
  (.seq (.region false [⟨some 4, none, .cst (.t (.bool false))⟩] [] [4]) .ret)
def c96_3 : ACode :=
  (.cond (.s 62) c96_2 .skip)
def c96_4 : ACode :=
  (.seq (.region false [⟨some 56, none, .fa 3 (.s 2)⟩,
    ⟨some 57, none, .ld false 1 (.s 56)⟩,
    ⟨some 58, none, .mv (.s 7)⟩,
    ⟨some 59, none, .ia 5 (.s 57) (.s 58)⟩,
    ⟨some 60, none, .fa 0 (.s 59)⟩,
    ⟨some 61, none, .ld false 1 (.s 60)⟩,
    ⟨some 62, none, .bin .neq (.s 61) (.c (.t (.int .i64 3)))⟩] [] [2, 7, 62]) c96_3)
def c96_5 : ACode :=
  (.seq (.block 2 c96_4) c96_1)
def c96_6 : ACode :=
  (.cond (.s 53) .skip (.exit 1))
def c96_7 : ACode :=
  (.seq (.seq (.region false [⟨some 49, none, .mv (.s 7)⟩,
    ⟨some 50, none, .fa 3 (.s 2)⟩,
    ⟨some 51, none, .ld false 1 (.s 50)⟩,
    ⟨some 52, none, .len (.s 51)⟩,
    ⟨some 53, none, .bin .lss (.s 49) (.s 52)⟩] [] [2, 7, 53]) c96_6) c96_5)
def c96_8 : ACode :=
  (.loop c96_7)
def c96_9 : ACode :=
  (.block 1 c96_8)
def c96_10 : ACode :=
  (.seq (.seq (.region false [⟨some 7, none, .cst (.t (.int .i64 0))⟩] [] [2, 7]) c96_9) c96_0)
def c96_11 : ACode :=
  (.seq (.region false [⟨some 17, none, .fa 0 (.s 2)⟩,
    ⟨some 18, none, .ld false 1 (.s 17)⟩,
    ⟨some 19, none, .bin .eql (.s 18) (.c (.t (.int .i64 3)))⟩,
    ⟨some 20, none, .mv (.s 19)⟩,
    ⟨some 21, some (20, true), .mv (.s 6)⟩,
    ⟨some 22, some (20, true), .bin .eql (.s 21) (.c (.t (.int .i64 0)))⟩,
    ⟨some 23, none, .pick (.s 20) (.s 22) (.c (.t (.bool false)))⟩,
    ⟨some 4, none, .mv (.s 23)⟩] [] [4]) .ret)
def c96_12 : ACode :=
  (.seq (.region false [⟨some 12, none, .fa 2 (.s 2)⟩,
    ⟨some 13, none, .ld false 1 (.s 12)⟩,
    ⟨some 14, none, .call 14 [(.s 13)]⟩,
    ⟨some 11, none, .mv (.s 14)⟩,
    ⟨some 15, none, .ext (.s 11) 0⟩,
    ⟨some 16, none, .ext (.s 11) 1⟩,
    ⟨some 5, none, .mv (.s 15)⟩,
    ⟨some 6, none, .mv (.s 16)⟩] [] [2, 6]) c96_11)
def c96_13 : ACode :=
  (.seq (.region false [⟨some 26, none, .fa 0 (.s 2)⟩,
    ⟨some 27, none, .ld false 1 (.s 26)⟩,
    ⟨some 28, none, .bin .eql (.s 27) (.c (.t (.int .i64 3)))⟩,
    ⟨some 4, none, .mv (.s 28)⟩] [] [4]) .ret)
def c96_14 : ACode :=
  (.seq (.region false [⟨some 31, none, .fa 0 (.s 2)⟩,
    ⟨some 32, none, .ld false 1 (.s 31)⟩,
    ⟨some 33, none, .bin .eql (.s 32) (.c (.t (.int .i64 1)))⟩,
    ⟨some 4, none, .mv (.s 33)⟩] [] [4]) .ret)
def c96_15 : ACode :=
  (.seq (.region false [⟨some 36, none, .fa 0 (.s 2)⟩,
    ⟨some 37, none, .ld false 1 (.s 36)⟩,
    ⟨some 38, none, .bin .eql (.s 37) (.c (.t (.int .i64 2)))⟩,
    ⟨some 39, none, .mv (.s 38)⟩,
    ⟨some 40, some (39, true), .fa 1 (.s 2)⟩,
    ⟨some 41, some (39, true), .ld false 1 (.s 40)⟩,
    ⟨some 42, some (39, true), .bin .geq (.s 41) (.c (.t (.int .i64 0)))⟩,
    ⟨some 43, none, .pick (.s 39) (.s 42) (.c (.t (.bool false)))⟩,
    ⟨some 44, none, .mv (.s 43)⟩,
    ⟨some 45, some (44, true), .fa 1 (.s 2)⟩,
    ⟨some 46, some (44, true), .ld false 1 (.s 45)⟩,
    ⟨some 47, some (44, true), .bin .leq (.s 46) (.c (.t (.int .i64 2147483647)))⟩,
    ⟨some 48, none, .pick (.s 44) (.s 47) (.c (.t (.bool false)))⟩,
    ⟨some 4, none, .mv (.s 48)⟩] [] [4]) .ret)
def c96_16 : ACode :=
  (.cond (.s 34) c96_15 .skip)
def c96_17 : ACode :=
  (.seq (.region false [⟨some 35, none, .bin .eql (.s 8) (.c (.t (.str [110, 117, 109, 98, 101, 114])))⟩,
    ⟨some 34, none, .mv (.s 35)⟩] [] [2, 34]) c96_16)
def c96_18 : ACode :=
  (.cond (.s 29) c96_14 c96_17)
def c96_19 : ACode :=
  (.seq (.region false [⟨some 30, none, .bin .eql (.s 8) (.c (.t (.str [116, 114, 117, 116, 104])))⟩,
    ⟨some 29, none, .mv (.s 30)⟩] [] [2, 8, 29]) c96_18)
def c96_20 : ACode :=
  (.cond (.s 24) c96_13 c96_19)
def c96_21 : ACode :=
  (.seq (.region false [⟨some 25, none, .bin .eql (.s 8) (.c (.t (.str [116, 101, 120, 116])))⟩,
    ⟨some 24, none, .mv (.s 25)⟩] [] [2, 8, 24]) c96_20)
def c96_22 : ACode :=
  (.cond (.s 9) c96_12 c96_21)
def c96_23 : ACode :=
  (.seq (.region false [⟨some 10, none, .bin .eql (.s 8) (.c (.t (.str [115, 101, 116])))⟩,
    ⟨some 9, none, .mv (.s 10)⟩] [] [2, 8, 9]) c96_22)
def c96_24 : ACode :=
  (.block 0 c96_23)
def c96_25 : ACode :=
  (.seq (.seq (.region false [⟨some 8, none, .mv (.s 1)⟩] [] [2, 8]) c96_24) c96_10)
def c96 : ACode :=
  (.seq (.region false [⟨some 2, none, .box 5 (.s 0)⟩,
    ⟨some 4, none, .cst (.t (.bool false))⟩] [] [1, 2]) c96_25)
def r96 : List ARes := [.tmp 4]
def n96 : Nat := 66
/- 97 supergraph supergraphref10.Scalar -/
def c97_0 : ACode :=
  (.seq (.region false [⟨some 3, none, .mv (.s 0)⟩,
    ⟨some 4, none, .bin .eql (.s 3) (.c (.t (.str [73, 110, 116])))⟩,
    ⟨some 5, none, .mv (.s 4)⟩,
    ⟨some 6, some (5, false), .mv (.s 0)⟩,
    ⟨some 7, some (5, false), .bin .eql (.s 6) (.c (.t (.str [83, 116, 114, 105, 110, 103])))⟩,
    ⟨some 8, none, .pick (.s 5) (.c (.t (.bool true))) (.s 7)⟩,
    ⟨some 9, none, .mv (.s 8)⟩,
    ⟨some 10, some (9, false), .mv (.s 0)⟩,
    ⟨some 11, some (9, false), .bin .eql (.s 10) (.c (.t (.str [66, 111, 111, 108, 101, 97, 110])))⟩,
    ⟨some 12, none, .pick (.s 9) (.c (.t (.bool true))) (.s 11)⟩,
    ⟨some 13, none, .mv (.s 12)⟩,
    ⟨some 14, some (13, false), .mv (.s 0)⟩,
    ⟨some 15, some (13, false), .bin .eql (.s 14) (.c (.t (.str [73, 68])))⟩,
    ⟨some 16, none, .pick (.s 13) (.c (.t (.bool true))) (.s 15)⟩,
    ⟨some 2, none, .mv (.s 16)⟩] [] [2]) .ret)
def c97 : ACode :=
  (.seq (.region false [⟨some 2, none, .cst (.t (.bool false))⟩] [] [0]) c97_0)
def r97 : List ARes := [.tmp 2]
def n97 : Nat := 17
/- 98 supergraph supergraphref10.names -/
def c98_0 : ACode :=
  (.seq (.region false [⟨some 27, none, .mv (.s 9)⟩,
    ⟨some 8, none, .mv (.s 27)⟩] [] [8]) .ret)
def c98_1 : ACode :=
  (.region false [⟨some 22, none, .mv (.s 9)⟩,
    ⟨some 23, none, .mv (.s 3)⟩,
    ⟨some 24, none, .build [.t (.int .i64 0), .t (.str [])] [(0, 1, (.c (.t (.int .i64 7)))), (1, 1, (.s 23))]⟩,
    ⟨some 25, none, .bsl false 2 [[.int .i64 0, .str []]] [(0, (.s 24))]⟩,
    ⟨some 26, none, .app 2 24 (.s 22) (.s 25)⟩,
    ⟨some 9, none, .mv (.s 26)⟩] [] [9])
def c98_2 : ACode :=
  (.cond (.s 21) c98_1 .skip)
def c98_3 : ACode :=
  (.seq (.seq (.region false [⟨some 21, none, .mv (.s 2)⟩] [] [3, 9, 21]) c98_2) c98_0)
def c98_4 : ACode :=
  (.region false [⟨some 16, none, .mv (.s 9)⟩,
    ⟨some 17, none, .mv (.s 3)⟩,
    ⟨some 18, none, .build [.t (.int .i64 0), .t (.str [])] [(0, 1, (.c (.t (.int .i64 6)))), (1, 1, (.s 17))]⟩,
    ⟨some 19, none, .bsl false 2 [[.int .i64 0, .str []]] [(0, (.s 18))]⟩,
    ⟨some 20, none, .app 2 24 (.s 16) (.s 19)⟩,
    ⟨some 9, none, .mv (.s 20)⟩] [] [2, 3, 9])
def c98_5 : ACode :=
  (.cond (.s 15) c98_4 .skip)
def c98_6 : ACode :=
  (.seq (.seq (.region false [⟨some 10, none, .mv (.s 1)⟩,
    ⟨some 11, none, .mv (.s 10)⟩,
    ⟨some 12, some (11, false), .mv (.s 0)⟩,
    ⟨some 13, some (11, false), .call 122 [(.s 12)]⟩,
    ⟨some 14, some (11, false), .un .not (.s 13)⟩,
    ⟨some 15, none, .pick (.s 11) (.c (.t (.bool true))) (.s 14)⟩] [] [2, 3, 9, 15]) c98_5) c98_3)
def c98_7 : ACode :=
  (.seq (.region false [⟨some 9, none, .cst (.nils)⟩] [] [0, 1, 2, 3, 9]) c98_6)
def c98 : ACode :=
  (.seq (.region false [⟨some 8, none, .cst (.nils)⟩] [] [0, 1, 2, 3]) c98_7)
def r98 : List ARes := [.tmp 8]
def n98 : Nat := 28
/- 99 supergraph supergraphref10.empty -/
def c99_0 : ACode :=
  (.seq (.region false [⟨some 2, none, .cst (.t (.bool false))⟩] [] [2]) .ret)
def c99_1 : ACode :=
  (.seq (.region false [⟨some 8, none, .fa 4 (.s 1)⟩,
    ⟨some 9, none, .ld false 1 (.s 8)⟩,
    ⟨some 10, none, .len (.s 9)⟩,
    ⟨some 11, none, .bin .eql (.s 10) (.c (.t (.int .i64 0)))⟩,
    ⟨some 2, none, .mv (.s 11)⟩] [] [2]) .ret)
def c99_2 : ACode :=
  (.seq (.region false [⟨some 15, none, .fa 5 (.s 1)⟩,
    ⟨some 16, none, .ld false 1 (.s 15)⟩,
    ⟨some 17, none, .len (.s 16)⟩,
    ⟨some 18, none, .bin .eql (.s 17) (.c (.t (.int .i64 0)))⟩,
    ⟨some 2, none, .mv (.s 18)⟩] [] [2]) .ret)
def c99_3 : ACode :=
  (.seq (.region false [⟨some 21, none, .fa 6 (.s 1)⟩,
    ⟨some 22, none, .ld false 1 (.s 21)⟩,
    ⟨some 23, none, .len (.s 22)⟩,
    ⟨some 24, none, .bin .eql (.s 23) (.c (.t (.int .i64 0)))⟩,
    ⟨some 2, none, .mv (.s 24)⟩] [] [2]) .ret)
def c99_4 : ACode :=
  (.cond (.s 19) c99_3 .skip)
def c99_5 : ACode :=
  (.seq (.region false [⟨some 20, none, .bin .eql (.s 4) (.c (.t (.int .i64 5)))⟩,
    ⟨some 19, none, .mv (.s 20)⟩] [] [1, 19]) c99_4)
def c99_6 : ACode :=
  (.cond (.s 12) c99_2 c99_5)
def c99_7 : ACode :=
  (.region false [⟨some 14, none, .bin .eql (.s 4) (.c (.t (.int .i64 4)))⟩,
    ⟨some 12, none, .mv (.s 14)⟩] [] [1, 4, 12])
def c99_8 : ACode :=
  (.cond (.s 12) .skip c99_7)
def c99_9 : ACode :=
  (.seq (.seq (.region false [⟨some 13, none, .bin .eql (.s 4) (.c (.t (.int .i64 3)))⟩,
    ⟨some 12, none, .mv (.s 13)⟩] [] [1, 4, 12]) c99_8) c99_6)
def c99_10 : ACode :=
  (.cond (.s 5) c99_1 c99_9)
def c99_11 : ACode :=
  (.region false [⟨some 7, none, .bin .eql (.s 4) (.c (.t (.int .i64 2)))⟩,
    ⟨some 5, none, .mv (.s 7)⟩] [] [1, 4, 5])
def c99_12 : ACode :=
  (.cond (.s 5) .skip c99_11)
def c99_13 : ACode :=
  (.seq (.seq (.region false [⟨some 6, none, .bin .eql (.s 4) (.c (.t (.int .i64 1)))⟩,
    ⟨some 5, none, .mv (.s 6)⟩] [] [1, 4, 5]) c99_12) c99_10)
def c99_14 : ACode :=
  (.block 0 c99_13)
def c99_15 : ACode :=
  (.seq (.seq (.region false [⟨some 3, none, .fa 0 (.s 1)⟩,
    ⟨some 4, none, .ld false 1 (.s 3)⟩] [] [1, 4]) c99_14) c99_0)
def c99 : ACode :=
  (.seq (.region false [⟨some 1, none, .box 7 (.s 0)⟩,
    ⟨some 2, none, .cst (.t (.bool false))⟩] [] [1]) c99_15)
def r99 : List ARes := [.tmp 2]
def n99 : Nat := 25
/- 100 supergraph supergraphref10.circular -/
def c100_0 : ACode :=
  (.seq (.region false [⟨some 38, none, .mv (.s 5)⟩,
    ⟨some 39, none, .fa 1 (.s 3)⟩,
    ⟨some 40, none, .ld false 1 (.s 39)⟩,
    ⟨some 41, none, .call 124 [(.s 38), (.s 40)]⟩,
    ⟨some 4, none, .mv (.s 41)⟩] [] [4]) .ret)
def c100_1 : ACode :=
  (.region false [⟨some 21, none, .mv (.s 6)⟩,
    ⟨some 22, none, .bin .add (.s 21) (.c (.t (.int .i64 1)))⟩,
    ⟨some 6, none, .mv (.s 22)⟩] [] [2, 3, 5, 6])
def c100_2 : ACode :=
  (.region false [⟨some 32, none, .ld true 1 (.s 2)⟩,
    ⟨some 33, none, .ld true 7 (.s 7)⟩,
    ⟨some 34, none, .fa 1 (.s 3)⟩,
    ⟨some 35, none, .ld false 1 (.s 34)⟩,
    ⟨some 36, none, .mv (.s 5)⟩,
    ⟨some 37, none, .call 123 [(.s 32), (.s 33), (.s 35), (.s 36)]⟩,
    ⟨some 5, none, .mv (.s 37)⟩] [] [2, 3, 5, 6])
def c100_3 : ACode :=
  (.seq (.region true [⟨some 24, none, .ld true 1 (.s 2)⟩,
    ⟨some 25, none, .mv (.s 5)⟩,
    ⟨some 26, none, .mv (.s 6)⟩,
    ⟨some 27, none, .ia 1 (.s 25) (.s 26)⟩,
    ⟨some 28, none, .ld false 1 (.s 27)⟩,
    ⟨some 29, none, .call 80 [(.s 24), (.s 28)]⟩,
    ⟨some 23, none, .mv (.s 29)⟩,
    ⟨some 30, none, .ext (.s 23) 0⟩,
    ⟨some 31, none, .ext (.s 23) 1⟩,
    ⟨some 7, none, .alloc [.t (.int .i64 0), .t (.str []), .nils, .nils, .nils, .nils, .nils]⟩,
    ⟨none, none, .st 7 (.s 7) (.s 30)⟩,
    ⟨some 8, none, .mv (.s 31)⟩] [[], [], [], [1, 2], [3], [0, 4], [5], [6], [6], [], [9, 7, 5, 0, 1, 2, 3, 4, 5, 6, 7, 9], [8, 10, 0, 1, 2, 3, 4, 5, 6, 7, 8, 9, 10]] [2, 3, 5, 6, 7]) c100_2)
def c100_4 : ACode :=
  (.seq (.block 1 c100_3) c100_1)
def c100_5 : ACode :=
  (.cond (.s 20) .skip (.exit 0))
def c100_6 : ACode :=
  (.seq (.seq (.region false [⟨some 17, none, .mv (.s 6)⟩,
    ⟨some 18, none, .mv (.s 5)⟩,
    ⟨some 19, none, .len (.s 18)⟩,
    ⟨some 20, none, .bin .lss (.s 17) (.s 19)⟩] [] [2, 3, 5, 6, 20]) c100_5) c100_4)
def c100_7 : ACode :=
  (.loop c100_6)
def c100_8 : ACode :=
  (.block 0 c100_7)
def c100_9 : ACode :=
  (.seq (.seq (.region false [⟨some 6, none, .cst (.t (.int .i64 0))⟩] [] [2, 3, 5, 6]) c100_8) c100_0)
def c100_10 : ACode :=
  (.seq (.region false [⟨some 12, none, .ld true 1 (.s 2)⟩,
    ⟨some 13, none, .ld true 7 (.s 3)⟩,
    ⟨some 14, none, .fa 1 (.s 3)⟩,
    ⟨some 15, none, .ld false 1 (.s 14)⟩,
    ⟨some 16, none, .call 123 [(.s 12), (.s 13), (.s 15), (.c (.nils))]⟩,
    ⟨some 5, none, .mv (.s 16)⟩] [] [2, 3, 5]) c100_9)
def c100_11 : ACode :=
  (.seq (.region false [⟨some 4, none, .cst (.t (.bool false))⟩] [] [4]) .ret)
def c100_12 : ACode :=
  (.cond (.s 11) c100_11 .skip)
def c100_13 : ACode :=
  (.seq (.seq (.region false [⟨some 9, none, .fa 0 (.s 3)⟩,
    ⟨some 10, none, .ld false 1 (.s 9)⟩,
    ⟨some 11, none, .bin .neq (.s 10) (.c (.t (.int .i64 5)))⟩] [] [2, 3, 11]) c100_12) c100_10)
def c100 : ACode :=
  (.seq (.region false [⟨some 2, none, .box 1 (.s 0)⟩,
    ⟨some 3, none, .box 7 (.s 1)⟩,
    ⟨some 4, none, .cst (.t (.bool false))⟩] [] [2, 3]) c100_13)
def r100 : List ARes := [.tmp 4]
def n100 : Nat := 42
/- 101 supergraph supergraphref10.FieldOf -/
def c101_0 : ACode :=
  (.seq (.region false [⟨some 27, none, .build [.t (.str []), .nils, .t (.str []), .nils, .nils] []⟩,
    ⟨none, none, .st 5 (.s 4) (.s 27)⟩,
    ⟨some 5, none, .cst (.t (.bool false))⟩] [] [4, 5]) .ret)
def c101_1 : ACode :=
  (.region false [⟨some 12, none, .mv (.s 6)⟩,
    ⟨some 13, none, .bin .add (.s 12) (.c (.t (.int .i64 1)))⟩,
    ⟨some 6, none, .mv (.s 13)⟩] [] [1, 2, 4, 6])
def c101_2 : ACode :=
  (.seq (.region false [⟨some 22, none, .fa 4 (.s 2)⟩,
    ⟨some 23, none, .ld false 1 (.s 22)⟩,
    ⟨some 24, none, .mv (.s 6)⟩,
    ⟨some 25, none, .ia 5 (.s 23) (.s 24)⟩,
    ⟨some 26, none, .ld true 5 (.s 25)⟩,
    ⟨none, none, .st 5 (.s 4) (.s 26)⟩,
    ⟨some 5, none, .cst (.t (.bool true))⟩] [] [4, 5]) .ret)
def c101_3 : ACode :=
  (.cond (.s 21) c101_2 .skip)
def c101_4 : ACode :=
  (.seq (.region false [⟨some 14, none, .fa 4 (.s 2)⟩,
    ⟨some 15, none, .ld false 1 (.s 14)⟩,
    ⟨some 16, none, .mv (.s 6)⟩,
    ⟨some 17, none, .ia 5 (.s 15) (.s 16)⟩,
    ⟨some 18, none, .fa 0 (.s 17)⟩,
    ⟨some 19, none, .ld false 1 (.s 18)⟩,
    ⟨some 20, none, .mv (.s 1)⟩,
    ⟨some 21, none, .bin .eql (.s 19) (.s 20)⟩] [] [1, 2, 4, 6, 21]) c101_3)
def c101_5 : ACode :=
  (.seq (.block 1 c101_4) c101_1)
def c101_6 : ACode :=
  (.cond (.s 11) .skip (.exit 0))
def c101_7 : ACode :=
  (.seq (.seq (.region false [⟨some 7, none, .mv (.s 6)⟩,
    ⟨some 8, none, .fa 4 (.s 2)⟩,
    ⟨some 9, none, .ld false 1 (.s 8)⟩,
    ⟨some 10, none, .len (.s 9)⟩,
    ⟨some 11, none, .bin .lss (.s 7) (.s 10)⟩] [] [1, 2, 4, 6, 11]) c101_6) c101_5)
def c101_8 : ACode :=
  (.loop c101_7)
def c101_9 : ACode :=
  (.block 0 c101_8)
def c101_10 : ACode :=
  (.seq (.seq (.region false [⟨some 6, none, .cst (.t (.int .i64 0))⟩] [] [1, 2, 4, 6]) c101_9) c101_0)
def c101 : ACode :=
  (.seq (.region false [⟨some 2, none, .box 7 (.s 0)⟩,
    ⟨some 4, none, .alloc [.t (.str []), .nils, .t (.str []), .nils, .nils]⟩,
    ⟨some 5, none, .cst (.t (.bool false))⟩] [] [1, 2, 4]) c101_10)
def r101 : List ARes := [.cell 4 true 5, .tmp 5]
def n101 : Nat := 28
/- 102 supergraph supergraphref10.known -/
def c102_0 : ACode :=
  (.seq (.region false [⟨some 13, none, .mv (.s 1)⟩,
    ⟨some 14, none, .call 97 [(.s 13)]⟩,
    ⟨some 15, none, .mv (.s 14)⟩,
    ⟨some 16, some (15, false), .mv (.s 6)⟩,
    ⟨some 17, none, .pick (.s 15) (.c (.t (.bool true))) (.s 16)⟩,
    ⟨some 4, none, .mv (.s 17)⟩] [] [4]) .ret)
def c102_1 : ACode :=
  (.seq (.region false [⟨some 8, none, .ld true 1 (.s 2)⟩,
    ⟨some 9, none, .mv (.s 1)⟩,
    ⟨some 10, none, .call 80 [(.s 8), (.s 9)]⟩,
    ⟨some 7, none, .mv (.s 10)⟩,
    ⟨some 11, none, .ext (.s 7) 0⟩,
    ⟨some 12, none, .ext (.s 7) 1⟩,
    ⟨some 5, none, .alloc [.t (.int .i64 0), .t (.str []), .nils, .nils, .nils, .nils, .nils]⟩,
    ⟨none, none, .st 7 (.s 5) (.s 11)⟩,
    ⟨some 6, none, .mv (.s 12)⟩] [] [1, 6]) c102_0)
def c102 : ACode :=
  (.seq (.region false [⟨some 2, none, .box 1 (.s 0)⟩,
    ⟨some 4, none, .cst (.t (.bool false))⟩] [] [1, 2]) c102_1)
def r102 : List ARes := [.tmp 4]
def n102 : Nat := 18
/- 103 supergraph supergraphref10.InputOf -/
def c103_0 : ACode :=
  (.seq (.region false [⟨some 24, none, .build [.t (.str []), .t (.str []), .nils, .t (.bool false), .t (.int .i64 0), .t (.int .i64 0), .t (.str []), .nils, .nils, .nils] []⟩,
    ⟨none, none, .st 10 (.s 4) (.s 24)⟩,
    ⟨some 5, none, .cst (.t (.bool false))⟩] [] [4, 5]) .ret)
def c103_1 : ACode :=
  (.region false [⟨some 11, none, .mv (.s 6)⟩,
    ⟨some 12, none, .bin .add (.s 11) (.c (.t (.int .i64 1)))⟩,
    ⟨some 6, none, .mv (.s 12)⟩] [] [0, 1, 4, 6])
def c103_2 : ACode :=
  (.seq (.region false [⟨some 20, none, .mv (.s 0)⟩,
    ⟨some 21, none, .mv (.s 6)⟩,
    ⟨some 22, none, .ia 10 (.s 20) (.s 21)⟩,
    ⟨some 23, none, .ld true 10 (.s 22)⟩,
    ⟨none, none, .st 10 (.s 4) (.s 23)⟩,
    ⟨some 5, none, .cst (.t (.bool true))⟩] [] [4, 5]) .ret)
def c103_3 : ACode :=
  (.cond (.s 19) c103_2 .skip)
def c103_4 : ACode :=
  (.seq (.region false [⟨some 13, none, .mv (.s 0)⟩,
    ⟨some 14, none, .mv (.s 6)⟩,
    ⟨some 15, none, .ia 10 (.s 13) (.s 14)⟩,
    ⟨some 16, none, .fa 0 (.s 15)⟩,
    ⟨some 17, none, .ld false 1 (.s 16)⟩,
    ⟨some 18, none, .mv (.s 1)⟩,
    ⟨some 19, none, .bin .eql (.s 17) (.s 18)⟩] [] [0, 1, 4, 6, 19]) c103_3)
def c103_5 : ACode :=
  (.seq (.block 1 c103_4) c103_1)
def c103_6 : ACode :=
  (.cond (.s 10) .skip (.exit 0))
def c103_7 : ACode :=
  (.seq (.seq (.region false [⟨some 7, none, .mv (.s 6)⟩,
    ⟨some 8, none, .mv (.s 0)⟩,
    ⟨some 9, none, .len (.s 8)⟩,
    ⟨some 10, none, .bin .lss (.s 7) (.s 9)⟩] [] [0, 1, 4, 6, 10]) c103_6) c103_5)
def c103_8 : ACode :=
  (.loop c103_7)
def c103_9 : ACode :=
  (.block 0 c103_8)
def c103_10 : ACode :=
  (.seq (.seq (.region false [⟨some 6, none, .cst (.t (.int .i64 0))⟩] [] [0, 1, 4, 6]) c103_9) c103_0)
def c103 : ACode :=
  (.seq (.region false [⟨some 4, none, .alloc [.t (.str []), .t (.str []), .nils, .t (.bool false), .t (.int .i64 0), .t (.int .i64 0), .t (.str []), .nils, .nils, .nils]⟩,
    ⟨some 5, none, .cst (.t (.bool false))⟩] [] [0, 1, 4]) c103_10)
def r103 : List ARes := [.cell 4 true 10, .tmp 5]
def n103 : Nat := 25
/- 104 supergraph supergraphref10.IsInput -/
def c104_0 : ACode :=
  (.seq (.region false [⟨some 13, none, .ld true 1 (.s 2)⟩,
    ⟨some 14, none, .mv (.s 1)⟩,
    ⟨some 15, none, .call 125 [(.s 13), (.s 14)]⟩,
    ⟨some 16, none, .mv (.s 15)⟩,
    ⟨some 17, some (16, false), .mv (.s 6)⟩,
    ⟨some 18, some (16, false), .mv (.s 17)⟩,
    ⟨some 19, some (18, true), .fa 0 (.s 5)⟩,
    ⟨some 20, some (18, true), .ld false 1 (.s 19)⟩,
    ⟨some 21, some (18, true), .bin .eql (.s 20) (.c (.t (.int .i64 5)))⟩,
    ⟨some 22, some (16, false), .pick (.s 18) (.s 21) (.c (.t (.bool false)))⟩,
    ⟨some 23, none, .pick (.s 16) (.c (.t (.bool true))) (.s 22)⟩,
    ⟨some 4, none, .mv (.s 23)⟩] [] [4]) .ret)
def c104_1 : ACode :=
  (.seq (.region false [⟨some 8, none, .ld true 1 (.s 2)⟩,
    ⟨some 9, none, .mv (.s 1)⟩,
    ⟨some 10, none, .call 80 [(.s 8), (.s 9)]⟩,
    ⟨some 7, none, .mv (.s 10)⟩,
    ⟨some 11, none, .ext (.s 7) 0⟩,
    ⟨some 12, none, .ext (.s 7) 1⟩,
    ⟨some 5, none, .alloc [.t (.int .i64 0), .t (.str []), .nils, .nils, .nils, .nils, .nils]⟩,
    ⟨none, none, .st 7 (.s 5) (.s 11)⟩,
    ⟨some 6, none, .mv (.s 12)⟩] [] [1, 2, 5, 6]) c104_0)
def c104 : ACode :=
  (.seq (.region false [⟨some 2, none, .box 1 (.s 0)⟩,
    ⟨some 4, none, .cst (.t (.bool false))⟩] [] [1, 2]) c104_1)
def r104 : List ARes := [.tmp 4]
def n104 : Nat := 24
/- 105 supergraph schema.Scalar -/
def c105_0 : ACode :=
  (.seq (.region false [⟨some 3, none, .mv (.s 0)⟩,
    ⟨some 4, none, .bin .eql (.s 3) (.c (.t (.str [73, 110, 116])))⟩,
    ⟨some 5, none, .mv (.s 4)⟩,
    ⟨some 6, some (5, false), .mv (.s 0)⟩,
    ⟨some 7, some (5, false), .bin .eql (.s 6) (.c (.t (.str [83, 116, 114, 105, 110, 103])))⟩,
    ⟨some 8, none, .pick (.s 5) (.c (.t (.bool true))) (.s 7)⟩,
    ⟨some 9, none, .mv (.s 8)⟩,
    ⟨some 10, some (9, false), .mv (.s 0)⟩,
    ⟨some 11, some (9, false), .bin .eql (.s 10) (.c (.t (.str [66, 111, 111, 108, 101, 97, 110])))⟩,
    ⟨some 12, none, .pick (.s 9) (.c (.t (.bool true))) (.s 11)⟩,
    ⟨some 13, none, .mv (.s 12)⟩,
    ⟨some 14, some (13, false), .mv (.s 0)⟩,
    ⟨some 15, some (13, false), .bin .eql (.s 14) (.c (.t (.str [73, 68])))⟩,
    ⟨some 16, none, .pick (.s 13) (.c (.t (.bool true))) (.s 15)⟩,
    ⟨some 2, none, .mv (.s 16)⟩] [] [2]) .ret)
def c105 : ACode :=
  (.seq (.region false [⟨some 2, none, .cst (.t (.bool false))⟩] [] [0]) c105_0)
def r105 : List ARes := [.tmp 2]
def n105 : Nat := 17
/- 106 supergraph schema.kind -/
def c106_0 : ACode :=
  (.seq (.region false [⟨some 13, none, .fa 0 (.s 5)⟩,
    ⟨some 14, none, .ld false 1 (.s 13)⟩,
    ⟨some 4, none, .mv (.s 14)⟩] [] [4]) .ret)
def c106_1 : ACode :=
  (.seq (.region false [⟨some 8, none, .ld true 1 (.s 2)⟩,
    ⟨some 9, none, .mv (.s 1)⟩,
    ⟨some 10, none, .call 65 [(.s 8), (.s 9)]⟩,
    ⟨some 7, none, .mv (.s 10)⟩,
    ⟨some 11, none, .ext (.s 7) 0⟩,
    ⟨some 12, none, .ext (.s 7) 1⟩,
    ⟨some 5, none, .alloc [.t (.int .i64 0), .t (.str []), .nils, .nils, .nils, .nils, .nils]⟩,
    ⟨none, none, .st 7 (.s 5) (.s 11)⟩,
    ⟨some 6, none, .mv (.s 12)⟩] [] [5]) c106_0)
def c106 : ACode :=
  (.seq (.region false [⟨some 2, none, .box 1 (.s 0)⟩,
    ⟨some 4, none, .cst (.t (.int .i64 0))⟩] [] [1, 2]) c106_1)
def r106 : List ARes := [.tmp 4]
def n106 : Nat := 15
/- 107 slices.Contains[[]string,string] -/
def c107_0 : ACode :=
  (.seq (.region false [⟨some 5, none, .mv (.s 0)⟩,
    ⟨some 6, none, .mv (.s 1)⟩,
    ⟨some 7, none, .call 126 [(.s 5), (.s 6)]⟩,
    ⟨some 8, none, .bin .geq (.s 7) (.c (.t (.int .i64 0)))⟩,
    ⟨some 4, none, .mv (.s 8)⟩] [] [4]) .ret)
def c107 : ACode :=
  (.seq (.region false [⟨some 4, none, .cst (.t (.bool false))⟩] [] [0, 1]) c107_0)
def r107 : List ARes := [.tmp 4]
def n107 : Nat := 9
/- 108 supergraph moves.resolves -/
def c108_0 : ACode :=
  (.seq (.region false [⟨some 24, none, .mv (.s 8)⟩,
    ⟨some 25, none, .mv (.s 24)⟩,
    ⟨some 26, some (25, true), .mv (.s 10)⟩,
    ⟨some 27, none, .pick (.s 25) (.s 26) (.c (.t (.bool false)))⟩,
    ⟨some 28, none, .mv (.s 27)⟩,
    ⟨some 29, some (28, true), .fa 0 (.s 7)⟩,
    ⟨some 30, some (28, true), .ld false 1 (.s 29)⟩,
    ⟨some 31, some (28, true), .bin .eql (.s 30) (.c (.t (.int .i64 1)))⟩,
    ⟨some 32, none, .pick (.s 28) (.s 31) (.c (.t (.bool false)))⟩,
    ⟨some 33, none, .mv (.s 32)⟩,
    ⟨some 34, some (33, true), .fa 4 (.s 9)⟩,
    ⟨some 35, some (33, true), .ld false 1 (.s 34)⟩,
    ⟨some 36, some (33, true), .call 25 [(.s 35), (.c (.t (.str [101, 120, 116, 101, 114, 110, 97, 108])))]⟩,
    ⟨some 37, some (33, true), .un .not (.s 36)⟩,
    ⟨some 38, none, .pick (.s 33) (.s 37) (.c (.t (.bool false)))⟩,
    ⟨some 6, none, .mv (.s 38)⟩] [] [6]) .ret)
def c108_1 : ACode :=
  (.seq (.region false [⟨some 19, none, .ld true 7 (.s 7)⟩,
    ⟨some 20, none, .mv (.s 2)⟩,
    ⟨some 21, none, .call 66 [(.s 19), (.s 20)]⟩,
    ⟨some 18, none, .mv (.s 21)⟩,
    ⟨some 22, none, .ext (.s 18) 0⟩,
    ⟨some 23, none, .ext (.s 18) 1⟩,
    ⟨some 9, none, .alloc [.t (.str []), .nils, .t (.str []), .nils, .nils]⟩,
    ⟨none, none, .st 5 (.s 9) (.s 22)⟩,
    ⟨some 10, none, .mv (.s 23)⟩] [] [7, 8, 9, 10]) c108_0)
def c108_2 : ACode :=
  (.seq (.region false [⟨some 12, none, .fa 1 (.s 3)⟩,
    ⟨some 13, none, .ld true 1 (.s 12)⟩,
    ⟨some 14, none, .mv (.s 1)⟩,
    ⟨some 15, none, .call 65 [(.s 13), (.s 14)]⟩,
    ⟨some 11, none, .mv (.s 15)⟩,
    ⟨some 16, none, .ext (.s 11) 0⟩,
    ⟨some 17, none, .ext (.s 11) 1⟩,
    ⟨some 7, none, .alloc [.t (.int .i64 0), .t (.str []), .nils, .nils, .nils, .nils, .nils]⟩,
    ⟨none, none, .st 7 (.s 7) (.s 16)⟩,
    ⟨some 8, none, .mv (.s 17)⟩] [] [2, 7, 8]) c108_1)
def c108 : ACode :=
  (.seq (.region false [⟨some 3, none, .box 2 (.s 0)⟩,
    ⟨some 6, none, .cst (.t (.bool false))⟩] [] [1, 2, 3]) c108_2)
def r108 : List ARes := [.tmp 6]
def n108 : Nat := 39
/- 109 slices.ContainsFunc[[]supergraph api.Field,supergraph api.Field] -/
def c109_0 : ACode :=
  (.seq (.region false [⟨some 5, none, .mv (.s 0)⟩,
    ⟨some 6, none, .mv (.s 1)⟩,
    ⟨some 7, none, .call 127 [(.s 5), (.s 6)]⟩,
    ⟨some 8, none, .bin .geq (.s 7) (.c (.t (.int .i64 0)))⟩,
    ⟨some 4, none, .mv (.s 8)⟩] [] [4]) .ret)
def c109 : ACode :=
  (.seq (.region false [⟨some 4, none, .cst (.t (.bool false))⟩] [] [0, 1]) c109_0)
def r109 : List ARes := [.tmp 4]
def n109 : Nat := 9
/- 110 (*supergraph moves.judge).leant 1 -/
def c110_0 : ACode :=
  (.seq (.region true [⟨some 4, none, .fa 4 (.s 2)⟩,
    ⟨some 5, none, .ld false 1 (.s 4)⟩,
    ⟨some 6, none, .call 64 [(.s 5), (.c (.t (.str [114, 101, 113, 117, 105, 114, 101, 115])))]⟩,
    ⟨some 7, none, .ld false 1 (.s 1)⟩,
    ⟨some 8, none, .call 107 [(.s 6), (.s 7)]⟩,
    ⟨some 3, none, .mv (.s 8)⟩] [[], [0], [1], [], [2, 3, 2], [4, 4, 0, 1, 2, 3, 4]] [3]) .ret)
def c110 : ACode :=
  (.seq (.region false [⟨some 2, none, .box 5 (.s 0)⟩,
    ⟨some 3, none, .cst (.t (.bool false))⟩] [] [1, 2]) c110_0)
def r110 : List ARes := [.tmp 3]
def n110 : Nat := 9
/- 111 slices.ContainsFunc[[][]string,[]string] -/
def c111_0 : ACode :=
  (.seq (.region false [⟨some 5, none, .mv (.s 0)⟩,
    ⟨some 6, none, .mv (.s 1)⟩,
    ⟨some 7, none, .call 128 [(.s 5), (.s 6)]⟩,
    ⟨some 8, none, .bin .geq (.s 7) (.c (.t (.int .i64 0)))⟩,
    ⟨some 4, none, .mv (.s 8)⟩] [] [4]) .ret)
def c111 : ACode :=
  (.seq (.region false [⟨some 4, none, .cst (.t (.bool false))⟩] [] [0, 1]) c111_0)
def r111 : List ARes := [.tmp 4]
def n111 : Nat := 9
/- 112 supergraph moves.isKey 1 -/
def c112_0 : ACode :=
  (.seq (.region false [⟨some 4, none, .mv (.s 0)⟩,
    ⟨some 5, none, .ld false 1 (.s 1)⟩,
    ⟨some 6, none, .call 107 [(.s 4), (.s 5)]⟩,
    ⟨some 3, none, .mv (.s 6)⟩] [] [3]) .ret)
def c112 : ACode :=
  (.seq (.region false [⟨some 3, none, .cst (.t (.bool false))⟩] [] [0, 1]) c112_0)
def r112 : List ARes := [.tmp 3]
def n112 : Nat := 7
/- 113 unicode utf8.RuneCountInString -/
/- 114 unicode utf8.DecodeRuneInString -/
/- 116 internal stringslite.Index -/
def c116_0 : ACode :=
  (.seq (.region false [⟨some 4, none, .cst (.t (.int .i64 (-1)))⟩] [] [4]) .ret)
def c116_1 : ACode :=
  (.seq (.region false [⟨some 4, none, .cst (.t (.int .i64 (-1)))⟩] [] [4]) .ret)
def c116_2 : ACode :=
  (.seq (.region false [⟨some 115, none, .mv (.s 12)⟩,
    ⟨some 116, none, .mv (.s 8)⟩,
    ⟨some 117, none, .bin .add (.s 115) (.s 116)⟩,
    ⟨some 4, none, .mv (.s 117)⟩] [] [4]) .ret)
def c116_3 : ACode :=
  (.cond (.s 114) c116_2 .skip)
def c116_4 : ACode :=
  (.seq (.seq (.region false [⟨some 113, none, .mv (.s 12)⟩,
    ⟨some 114, none, .bin .geq (.s 113) (.c (.t (.int .i64 0)))⟩] [] [8, 12, 114]) c116_3) c116_1)
def c116_5 : ACode :=
  (.seq (.region false [⟨some 108, none, .mv (.s 0)⟩,
    ⟨some 109, none, .mv (.s 8)⟩,
    ⟨some 110, none, .sls (.s 108) (some (.s 109)) none⟩,
    ⟨some 111, none, .mv (.s 1)⟩,
    ⟨some 112, none, .call 131 [(.s 110), (.s 111)]⟩,
    ⟨some 12, none, .mv (.s 112)⟩] [] [8, 12]) c116_4)
def c116_6 : ACode :=
  (.seq (.region false [⟨some 140, none, .mv (.s 8)⟩,
    ⟨some 141, none, .mv (.s 13)⟩,
    ⟨some 142, none, .bin .add (.s 140) (.s 141)⟩,
    ⟨some 4, none, .mv (.s 142)⟩] [] [4]) .ret)
def c116_7 : ACode :=
  (.seq (.region false [⟨some 4, none, .cst (.t (.int .i64 (-1)))⟩] [] [4]) .ret)
def c116_8 : ACode :=
  (.cond (.s 139) c116_7 .skip)
def c116_9 : ACode :=
  (.seq (.seq (.region false [⟨some 138, none, .mv (.s 13)⟩,
    ⟨some 139, none, .bin .lss (.s 138) (.c (.t (.int .i64 0)))⟩] [] [8, 13, 139]) c116_8) c116_6)
def c116_10 : ACode :=
  (.seq (.region false [⟨some 133, none, .mv (.s 0)⟩,
    ⟨some 134, none, .mv (.s 8)⟩,
    ⟨some 135, none, .sls (.s 133) (some (.s 134)) none⟩,
    ⟨some 136, none, .mv (.s 1)⟩,
    ⟨some 137, none, .call 133 [(.s 135), (.s 136)]⟩,
    ⟨some 13, none, .mv (.s 137)⟩] [] [8, 13]) c116_9)
def c116_11 : ACode :=
  (.cond (.s 132) c116_10 .skip)
def c116_12 : ACode :=
  (.seq (.region false [⟨some 118, none, .mv (.s 5)⟩,
    ⟨some 119, none, .nw (.bad)⟩,
    ⟨some 120, none, .bin .gtr (.s 118) (.s 119)⟩,
    ⟨some 121, none, .mv (.s 120)⟩,
    ⟨some 122, some (121, true), .mv (.s 10)⟩,
    ⟨some 123, some (121, true), .mv (.s 8)⟩,
    ⟨some 124, some (121, true), .bin .shr (.s 123) (.c (.t (.int .u64 4)))⟩,
    ⟨some 125, some (121, true), .bin .add (.c (.t (.int .i64 4))) (.s 124)⟩,
    ⟨some 126, some (121, true), .bin .geq (.s 122) (.s 125)⟩,
    ⟨some 127, none, .pick (.s 121) (.s 126) (.c (.t (.bool false)))⟩,
    ⟨some 128, none, .mv (.s 127)⟩,
    ⟨some 129, some (128, true), .mv (.s 8)⟩,
    ⟨some 130, some (128, true), .mv (.s 9)⟩,
    ⟨some 131, some (128, true), .bin .lss (.s 129) (.s 130)⟩,
    ⟨some 132, none, .pick (.s 128) (.s 131) (.c (.t (.bool false)))⟩] [] [0, 1, 5, 6, 7, 8, 9, 10, 132]) c116_11)
def c116_13 : ACode :=
  (.cond (.s 107) c116_5 c116_12)
def c116_14 : ACode :=
  (.seq (.region false [⟨some 99, none, .mv (.s 5)⟩,
    ⟨some 100, none, .nw (.bad)⟩,
    ⟨some 101, none, .bin .leq (.s 99) (.s 100)⟩,
    ⟨some 102, none, .mv (.s 101)⟩,
    ⟨some 103, some (102, true), .mv (.s 10)⟩,
    ⟨some 104, some (102, true), .mv (.s 8)⟩,
    ⟨some 105, some (102, true), .call 132 [(.s 104)]⟩,
    ⟨some 106, some (102, true), .bin .gtr (.s 103) (.s 105)⟩,
    ⟨some 107, none, .pick (.s 102) (.s 106) (.c (.t (.bool false)))⟩] [] [0, 1, 5, 6, 7, 8, 9, 10, 107]) c116_13)
def c116_15 : ACode :=
  (.seq (.region false [⟨some 97, none, .mv (.s 10)⟩,
    ⟨some 98, none, .bin .add (.s 97) (.c (.t (.int .i64 1)))⟩,
    ⟨some 10, none, .mv (.s 98)⟩] [] [0, 1, 5, 6, 7, 8, 9, 10]) c116_14)
def c116_16 : ACode :=
  (.seq (.region false [⟨some 95, none, .mv (.s 8)⟩,
    ⟨some 96, none, .bin .add (.s 95) (.c (.t (.int .i64 1)))⟩,
    ⟨some 8, none, .mv (.s 96)⟩] [] [0, 1, 5, 6, 7, 8, 9, 10]) c116_15)
def c116_17 : ACode :=
  (.seq (.region false [⟨some 94, none, .mv (.s 8)⟩,
    ⟨some 4, none, .mv (.s 94)⟩] [] [4]) .ret)
def c116_18 : ACode :=
  (.cond (.s 93) c116_17 .skip)
def c116_19 : ACode :=
  (.seq (.seq (.region false [⟨some 78, none, .mv (.s 0)⟩,
    ⟨some 79, none, .mv (.s 8)⟩,
    ⟨some 80, none, .bin .add (.s 79) (.c (.t (.int .i64 1)))⟩,
    ⟨some 81, none, .ixs (.s 78) (.s 80)⟩,
    ⟨some 82, none, .mv (.s 7)⟩,
    ⟨some 83, none, .bin .eql (.s 81) (.s 82)⟩,
    ⟨some 84, none, .mv (.s 83)⟩,
    ⟨some 85, some (84, true), .mv (.s 0)⟩,
    ⟨some 86, some (84, true), .mv (.s 8)⟩,
    ⟨some 87, some (84, true), .mv (.s 8)⟩,
    ⟨some 88, some (84, true), .mv (.s 5)⟩,
    ⟨some 89, some (84, true), .bin .add (.s 87) (.s 88)⟩,
    ⟨some 90, some (84, true), .sls (.s 85) (some (.s 86)) (some (.s 89))⟩,
    ⟨some 91, some (84, true), .mv (.s 1)⟩,
    ⟨some 92, some (84, true), .bin .eql (.s 90) (.s 91)⟩,
    ⟨some 93, none, .pick (.s 84) (.s 92) (.c (.t (.bool false)))⟩] [] [0, 1, 5, 6, 7, 8, 9, 10, 93]) c116_18) c116_16)
def c116_20 : ACode :=
  (.region false [⟨some 74, none, .mv (.s 8)⟩,
    ⟨some 75, none, .mv (.s 11)⟩,
    ⟨some 76, none, .bin .add (.s 75) (.c (.t (.int .i64 1)))⟩,
    ⟨some 77, none, .bin .add (.s 74) (.s 76)⟩,
    ⟨some 8, none, .mv (.s 77)⟩] [] [0, 1, 5, 6, 7, 8, 9, 10])
def c116_21 : ACode :=
  (.seq (.region false [⟨some 4, none, .cst (.t (.int .i64 (-1)))⟩] [] [4]) .ret)
def c116_22 : ACode :=
  (.cond (.s 73) c116_21 .skip)
def c116_23 : ACode :=
  (.seq (.seq (.region false [⟨some 72, none, .mv (.s 11)⟩,
    ⟨some 73, none, .bin .lss (.s 72) (.c (.t (.int .i64 0)))⟩] [] [0, 1, 5, 6, 7, 8, 9, 10, 11, 73]) c116_22) c116_20)
def c116_24 : ACode :=
  (.seq (.region false [⟨some 65, none, .mv (.s 0)⟩,
    ⟨some 66, none, .mv (.s 8)⟩,
    ⟨some 67, none, .bin .add (.s 66) (.c (.t (.int .i64 1)))⟩,
    ⟨some 68, none, .mv (.s 9)⟩,
    ⟨some 69, none, .sls (.s 65) (some (.s 67)) (some (.s 68))⟩,
    ⟨some 70, none, .mv (.s 6)⟩,
    ⟨some 71, none, .call 130 [(.s 69), (.s 70)]⟩,
    ⟨some 11, none, .mv (.s 71)⟩] [] [0, 1, 5, 6, 7, 8, 9, 10, 11]) c116_23)
def c116_25 : ACode :=
  (.cond (.s 64) c116_24 .skip)
def c116_26 : ACode :=
  (.seq (.seq (.region false [⟨some 60, none, .mv (.s 0)⟩,
    ⟨some 61, none, .mv (.s 8)⟩,
    ⟨some 62, none, .ixs (.s 60) (.s 61)⟩,
    ⟨some 63, none, .mv (.s 6)⟩,
    ⟨some 64, none, .bin .neq (.s 62) (.s 63)⟩] [] [0, 1, 5, 6, 7, 8, 9, 10, 64]) c116_25) c116_19)
def c116_27 : ACode :=
  (.block 2 c116_26)
def c116_28 : ACode :=
  (.cond (.s 59) .skip (.exit 1))
def c116_29 : ACode :=
  (.seq (.seq (.region false [⟨some 57, none, .mv (.s 8)⟩,
    ⟨some 58, none, .mv (.s 9)⟩,
    ⟨some 59, none, .bin .lss (.s 57) (.s 58)⟩] [] [0, 1, 5, 6, 7, 8, 9, 10, 59]) c116_28) c116_27)
def c116_30 : ACode :=
  (.loop c116_29)
def c116_31 : ACode :=
  (.seq (.block 1 c116_30) c116_0)
def c116_32 : ACode :=
  (.seq (.region false [⟨some 10, none, .cst (.t (.int .i64 0))⟩] [] [0, 1, 5, 6, 7, 8, 9, 10]) c116_31)
def c116_33 : ACode :=
  (.seq (.region false [⟨some 52, none, .mv (.s 0)⟩,
    ⟨some 53, none, .lens (.s 52)⟩,
    ⟨some 54, none, .mv (.s 5)⟩,
    ⟨some 55, none, .bin .sub (.s 53) (.s 54)⟩,
    ⟨some 56, none, .bin .add (.s 55) (.c (.t (.int .i64 1)))⟩,
    ⟨some 9, none, .mv (.s 56)⟩] [] [0, 1, 5, 6, 7, 8, 9]) c116_32)
def c116_34 : ACode :=
  (.seq (.region false [⟨some 8, none, .cst (.t (.int .i64 0))⟩] [] [0, 1, 5, 6, 7, 8]) c116_33)
def c116_35 : ACode :=
  (.seq (.region false [⟨some 50, none, .mv (.s 1)⟩,
    ⟨some 51, none, .ixs (.s 50) (.c (.t (.int .i64 1)))⟩,
    ⟨some 7, none, .mv (.s 51)⟩] [] [0, 1, 5, 6, 7]) c116_34)
def c116_36 : ACode :=
  (.seq (.region false [⟨some 48, none, .mv (.s 1)⟩,
    ⟨some 49, none, .ixs (.s 48) (.c (.t (.int .i64 0)))⟩,
    ⟨some 6, none, .mv (.s 49)⟩] [] [0, 1, 5, 6]) c116_35)
def c116_37 : ACode :=
  (.seq (.region false [⟨some 4, none, .cst (.t (.int .i64 0))⟩] [] [4]) .ret)
def c116_38 : ACode :=
  (.seq (.region false [⟨some 27, none, .mv (.s 0)⟩,
    ⟨some 28, none, .mv (.s 1)⟩,
    ⟨some 29, none, .ixs (.s 28) (.c (.t (.int .i64 0)))⟩,
    ⟨some 30, none, .call 130 [(.s 27), (.s 29)]⟩,
    ⟨some 4, none, .mv (.s 30)⟩] [] [4]) .ret)
def c116_39 : ACode :=
  (.seq (.region false [⟨some 4, none, .cst (.t (.int .i64 (-1)))⟩] [] [4]) .ret)
def c116_40 : ACode :=
  (.seq (.region false [⟨some 45, none, .mv (.s 0)⟩,
    ⟨some 46, none, .mv (.s 1)⟩,
    ⟨some 47, none, .call 131 [(.s 45), (.s 46)]⟩,
    ⟨some 4, none, .mv (.s 47)⟩] [] [4]) .ret)
def c116_41 : ACode :=
  (.cond (.s 36) c116_40 .skip)
def c116_42 : ACode :=
  (.seq (.region false [⟨some 37, none, .mv (.s 5)⟩,
    ⟨some 38, none, .nw (.bad)⟩,
    ⟨some 39, none, .bin .leq (.s 37) (.s 38)⟩,
    ⟨some 40, none, .mv (.s 39)⟩,
    ⟨some 41, some (40, true), .mv (.s 0)⟩,
    ⟨some 42, some (40, true), .lens (.s 41)⟩,
    ⟨some 43, some (40, true), .bin .leq (.s 42) (.c (.t (.int .i64 64)))⟩,
    ⟨some 44, none, .pick (.s 40) (.s 43) (.c (.t (.bool false)))⟩,
    ⟨some 36, none, .mv (.s 44)⟩] [] [0, 1, 5, 36]) c116_41)
def c116_43 : ACode :=
  (.cond (.s 31) c116_39 c116_42)
def c116_44 : ACode :=
  (.seq (.region false [⟨some 32, none, .mv (.s 5)⟩,
    ⟨some 33, none, .mv (.s 0)⟩,
    ⟨some 34, none, .lens (.s 33)⟩,
    ⟨some 35, none, .bin .geq (.s 32) (.s 34)⟩,
    ⟨some 31, none, .mv (.s 35)⟩] [] [0, 1, 5, 31]) c116_43)
def c116_45 : ACode :=
  (.cond (.s 24) c116_38 c116_44)
def c116_46 : ACode :=
  (.seq (.region false [⟨some 25, none, .mv (.s 5)⟩,
    ⟨some 26, none, .bin .eql (.s 25) (.c (.t (.int .i64 1)))⟩,
    ⟨some 24, none, .mv (.s 26)⟩] [] [0, 1, 5, 24]) c116_45)
def c116_47 : ACode :=
  (.cond (.s 16) c116_37 c116_46)
def c116_48 : ACode :=
  (.seq (.region false [⟨some 17, none, .mv (.s 5)⟩,
    ⟨some 18, none, .bin .eql (.s 17) (.c (.t (.int .i64 0)))⟩,
    ⟨some 19, none, .mv (.s 18)⟩,
    ⟨some 20, some (19, false), .mv (.s 1)⟩,
    ⟨some 21, some (19, false), .mv (.s 0)⟩,
    ⟨some 22, some (19, false), .bin .eql (.s 20) (.s 21)⟩,
    ⟨some 23, none, .pick (.s 19) (.c (.t (.bool true))) (.s 22)⟩,
    ⟨some 16, none, .mv (.s 23)⟩] [] [0, 1, 5, 16]) c116_47)
def c116_49 : ACode :=
  (.seq (.block 0 c116_48) c116_36)
def c116_50 : ACode :=
  (.seq (.region false [⟨some 14, none, .mv (.s 1)⟩,
    ⟨some 15, none, .lens (.s 14)⟩,
    ⟨some 5, none, .mv (.s 15)⟩] [] [0, 1, 5]) c116_49)
def c116 : ACode :=
  (.seq (.region false [⟨some 4, none, .cst (.t (.int .i64 0))⟩] [] [0, 1]) c116_50)
def r116 : List ARes := [.tmp 4]
def n116 : Nat := 143
/- 117 supergraph directives.isSet -/
/- 118 supergraph directives.isText -/
/- 119 supergraph directives.isTexts -/
/- 120 supergraph directives.isNumber -/
/- 121 supergraph directives.isTruth -/
/- 122 supergraph supergraphref10.allowed -/
def c122_0 : ACode :=
  (.seq (.region false [⟨some 3, none, .mv (.s 0)⟩,
    ⟨some 4, none, .call 50 [(.s 3)]⟩,
    ⟨some 5, none, .mv (.s 4)⟩,
    ⟨some 6, some (5, true), .mv (.s 0)⟩,
    ⟨some 7, some (5, true), .call 51 [(.s 6)]⟩,
    ⟨some 8, some (5, true), .un .not (.s 7)⟩,
    ⟨some 9, none, .pick (.s 5) (.s 8) (.c (.t (.bool false)))⟩,
    ⟨some 2, none, .mv (.s 9)⟩] [] [2]) .ret)
def c122 : ACode :=
  (.seq (.region false [⟨some 2, none, .cst (.t (.bool false))⟩] [] [0]) c122_0)
def r122 : List ARes := [.tmp 2]
def n122 : Nat := 10
/- 123 supergraph supergraphref10.next -/
def c123_0 : ACode :=
  (.seq (.region false [⟨some 61, none, .mv (.s 3)⟩,
    ⟨some 8, none, .mv (.s 61)⟩] [] [8]) .ret)
def c123_1 : ACode :=
  (.region false [⟨some 18, none, .mv (.s 9)⟩,
    ⟨some 19, none, .bin .add (.s 18) (.c (.t (.int .i64 1)))⟩,
    ⟨some 9, none, .mv (.s 19)⟩] [] [2, 3, 4, 5, 9])
def c123_2 : ACode :=
  (.region false [⟨some 56, none, .mv (.s 3)⟩,
    ⟨some 57, none, .fa 0 (.s 10)⟩,
    ⟨some 58, none, .ld false 1 (.s 57)⟩,
    ⟨some 59, none, .bsl false 1 [[.str []]] [(0, (.s 58))]⟩,
    ⟨some 60, none, .app 1 16 (.s 56) (.s 59)⟩,
    ⟨some 3, none, .mv (.s 60)⟩] [] [2, 3, 4, 5, 9])
def c123_3 : ACode :=
  (.cond (.s 55) c123_2 .skip)
def c123_4 : ACode :=
  (.seq (.region false [⟨some 33, none, .ld true 2 (.s 10)⟩,
    ⟨some 34, none, .call 134 [(.s 33)]⟩,
    ⟨some 35, none, .mv (.s 34)⟩,
    ⟨some 36, some (35, true), .fa 0 (.s 10)⟩,
    ⟨some 37, some (35, true), .ld false 1 (.s 36)⟩,
    ⟨some 38, some (35, true), .mv (.s 2)⟩,
    ⟨some 39, some (35, true), .bin .eql (.s 37) (.s 38)⟩,
    ⟨some 40, some (35, true), .mv (.s 39)⟩,
    ⟨some 41, some (40, false), .mv (.s 12)⟩,
    ⟨some 42, some (40, false), .mv (.s 41)⟩,
    ⟨some 43, some (42, true), .fa 0 (.s 11)⟩,
    ⟨some 44, some (42, true), .ld false 1 (.s 43)⟩,
    ⟨some 45, some (42, true), .bin .eql (.s 44) (.c (.t (.int .i64 5)))⟩,
    ⟨some 46, some (40, false), .pick (.s 42) (.s 45) (.c (.t (.bool false)))⟩,
    ⟨some 47, some (35, true), .pick (.s 40) (.c (.t (.bool true))) (.s 46)⟩,
    ⟨some 48, none, .pick (.s 35) (.s 47) (.c (.t (.bool false)))⟩,
    ⟨some 49, none, .mv (.s 48)⟩,
    ⟨some 50, some (49, true), .mv (.s 3)⟩,
    ⟨some 51, some (49, true), .fa 0 (.s 10)⟩,
    ⟨some 52, some (49, true), .ld false 1 (.s 51)⟩,
    ⟨some 53, some (49, true), .call 124 [(.s 50), (.s 52)]⟩,
    ⟨some 54, some (49, true), .un .not (.s 53)⟩,
    ⟨some 55, none, .pick (.s 49) (.s 54) (.c (.t (.bool false)))⟩] [] [2, 3, 4, 5, 9, 10, 55]) c123_3)
def c123_5 : ACode :=
  (.seq (.region false [⟨some 27, none, .ld true 1 (.s 4)⟩,
    ⟨some 28, none, .fa 0 (.s 10)⟩,
    ⟨some 29, none, .ld false 1 (.s 28)⟩,
    ⟨some 30, none, .call 80 [(.s 27), (.s 29)]⟩,
    ⟨some 26, none, .mv (.s 30)⟩,
    ⟨some 31, none, .ext (.s 26) 0⟩,
    ⟨some 32, none, .ext (.s 26) 1⟩,
    ⟨some 11, none, .alloc [.t (.int .i64 0), .t (.str []), .nils, .nils, .nils, .nils, .nils]⟩,
    ⟨none, none, .st 7 (.s 11) (.s 31)⟩,
    ⟨some 12, none, .mv (.s 32)⟩] [] [2, 3, 4, 5, 9, 10, 11, 12]) c123_4)
def c123_6 : ACode :=
  (.seq (.region false [⟨some 20, none, .fa 6 (.s 5)⟩,
    ⟨some 21, none, .ld false 1 (.s 20)⟩,
    ⟨some 22, none, .mv (.s 9)⟩,
    ⟨some 23, none, .ia 10 (.s 21) (.s 22)⟩,
    ⟨some 24, none, .fa 1 (.s 23)⟩,
    ⟨some 25, none, .ld true 2 (.s 24)⟩,
    ⟨some 10, none, .alloc [.t (.str []), .nils]⟩,
    ⟨none, none, .st 2 (.s 10) (.s 25)⟩] [] [2, 3, 4, 5, 9, 10]) c123_5)
def c123_7 : ACode :=
  (.seq (.block 1 c123_6) c123_1)
def c123_8 : ACode :=
  (.cond (.s 17) .skip (.exit 0))
def c123_9 : ACode :=
  (.seq (.seq (.region false [⟨some 13, none, .mv (.s 9)⟩,
    ⟨some 14, none, .fa 6 (.s 5)⟩,
    ⟨some 15, none, .ld false 1 (.s 14)⟩,
    ⟨some 16, none, .len (.s 15)⟩,
    ⟨some 17, none, .bin .lss (.s 13) (.s 16)⟩] [] [2, 3, 4, 5, 9, 17]) c123_8) c123_7)
def c123_10 : ACode :=
  (.loop c123_9)
def c123_11 : ACode :=
  (.block 0 c123_10)
def c123_12 : ACode :=
  (.seq (.seq (.region false [⟨some 9, none, .cst (.t (.int .i64 0))⟩] [] [2, 3, 4, 5, 9]) c123_11) c123_0)
def c123 : ACode :=
  (.seq (.region false [⟨some 4, none, .box 1 (.s 0)⟩,
    ⟨some 5, none, .box 7 (.s 1)⟩,
    ⟨some 8, none, .cst (.nils)⟩] [] [2, 3, 4, 5]) c123_12)
def r123 : List ARes := [.tmp 8]
def n123 : Nat := 62
/- 124 supergraph supergraphref10.has -/
def c124_0 : ACode :=
  (.seq (.region false [⟨some 4, none, .cst (.t (.bool false))⟩] [] [4]) .ret)
def c124_1 : ACode :=
  (.region false [⟨some 10, none, .mv (.s 5)⟩,
    ⟨some 11, none, .bin .add (.s 10) (.c (.t (.int .i64 1)))⟩,
    ⟨some 5, none, .mv (.s 11)⟩] [] [0, 1, 5])
def c124_2 : ACode :=
  (.seq (.region false [⟨some 4, none, .cst (.t (.bool true))⟩] [] [4]) .ret)
def c124_3 : ACode :=
  (.cond (.s 17) c124_2 .skip)
def c124_4 : ACode :=
  (.seq (.region false [⟨some 12, none, .mv (.s 0)⟩,
    ⟨some 13, none, .mv (.s 5)⟩,
    ⟨some 14, none, .ia 1 (.s 12) (.s 13)⟩,
    ⟨some 15, none, .ld false 1 (.s 14)⟩,
    ⟨some 16, none, .mv (.s 1)⟩,
    ⟨some 17, none, .bin .eql (.s 15) (.s 16)⟩] [] [0, 1, 5, 17]) c124_3)
def c124_5 : ACode :=
  (.seq (.block 1 c124_4) c124_1)
def c124_6 : ACode :=
  (.cond (.s 9) .skip (.exit 0))
def c124_7 : ACode :=
  (.seq (.seq (.region false [⟨some 6, none, .mv (.s 5)⟩,
    ⟨some 7, none, .mv (.s 0)⟩,
    ⟨some 8, none, .len (.s 7)⟩,
    ⟨some 9, none, .bin .lss (.s 6) (.s 8)⟩] [] [0, 1, 5, 9]) c124_6) c124_5)
def c124_8 : ACode :=
  (.loop c124_7)
def c124_9 : ACode :=
  (.block 0 c124_8)
def c124_10 : ACode :=
  (.seq (.seq (.region false [⟨some 5, none, .cst (.t (.int .i64 0))⟩] [] [0, 1, 5]) c124_9) c124_0)
def c124 : ACode :=
  (.seq (.region false [⟨some 4, none, .cst (.t (.bool false))⟩] [] [0, 1]) c124_10)
def r124 : List ARes := [.tmp 4]
def n124 : Nat := 18
/- 125 supergraph supergraphref10.Leaf -/
def c125_0 : ACode :=
  (.seq (.region false [⟨some 13, none, .mv (.s 1)⟩,
    ⟨some 14, none, .call 97 [(.s 13)]⟩,
    ⟨some 15, none, .mv (.s 14)⟩,
    ⟨some 16, some (15, false), .mv (.s 6)⟩,
    ⟨some 17, some (15, false), .mv (.s 16)⟩,
    ⟨some 18, some (17, true), .fa 0 (.s 5)⟩,
    ⟨some 19, some (17, true), .ld false 1 (.s 18)⟩,
    ⟨some 20, some (17, true), .bin .eql (.s 19) (.c (.t (.int .i64 4)))⟩,
    ⟨some 21, some (15, false), .pick (.s 17) (.s 20) (.c (.t (.bool false)))⟩,
    ⟨some 22, none, .pick (.s 15) (.c (.t (.bool true))) (.s 21)⟩,
    ⟨some 4, none, .mv (.s 22)⟩] [] [4]) .ret)
def c125_1 : ACode :=
  (.seq (.region false [⟨some 8, none, .ld true 1 (.s 2)⟩,
    ⟨some 9, none, .mv (.s 1)⟩,
    ⟨some 10, none, .call 80 [(.s 8), (.s 9)]⟩,
    ⟨some 7, none, .mv (.s 10)⟩,
    ⟨some 11, none, .ext (.s 7) 0⟩,
    ⟨some 12, none, .ext (.s 7) 1⟩,
    ⟨some 5, none, .alloc [.t (.int .i64 0), .t (.str []), .nils, .nils, .nils, .nils, .nils]⟩,
    ⟨none, none, .st 7 (.s 5) (.s 11)⟩,
    ⟨some 6, none, .mv (.s 12)⟩] [] [1, 5, 6]) c125_0)
def c125 : ACode :=
  (.seq (.region false [⟨some 2, none, .box 1 (.s 0)⟩,
    ⟨some 4, none, .cst (.t (.bool false))⟩] [] [1, 2]) c125_1)
def r125 : List ARes := [.tmp 4]
def n125 : Nat := 23
/- 126 slices.Index[[]string,string] -/
def c126_0 : ACode :=
  (.seq (.region false [⟨some 4, none, .cst (.t (.int .i64 (-1)))⟩] [] [4]) .ret)
def c126_1 : ACode :=
  (.region false [⟨some 18, none, .bin .add (.s 8) (.c (.t (.int .i64 1)))⟩,
    ⟨some 8, none, .mv (.s 18)⟩] [] [0, 1, 7, 8])
def c126_2 : ACode :=
  (.seq (.region false [⟨some 17, none, .mv (.s 5)⟩,
    ⟨some 4, none, .mv (.s 17)⟩] [] [4]) .ret)
def c126_3 : ACode :=
  (.cond (.s 16) c126_2 .skip)
def c126_4 : ACode :=
  (.seq (.region false [⟨some 11, none, .mv (.s 1)⟩,
    ⟨some 12, none, .mv (.s 0)⟩,
    ⟨some 13, none, .mv (.s 5)⟩,
    ⟨some 14, none, .ia 1 (.s 12) (.s 13)⟩,
    ⟨some 15, none, .ld false 1 (.s 14)⟩,
    ⟨some 16, none, .bin .eql (.s 11) (.s 15)⟩] [] [0, 1, 5, 7, 8, 16]) c126_3)
def c126_5 : ACode :=
  (.seq (.region false [⟨some 10, none, .mv (.s 8)⟩,
    ⟨some 5, none, .mv (.s 10)⟩] [] [0, 1, 5, 7, 8]) c126_4)
def c126_6 : ACode :=
  (.seq (.block 1 c126_5) c126_1)
def c126_7 : ACode :=
  (.seq (.cond (.s 9) .skip (.exit 0)) c126_6)
def c126_8 : ACode :=
  (.seq (.region false [⟨some 9, none, .bin .lss (.s 8) (.s 7)⟩] [] [0, 1, 7, 8, 9]) c126_7)
def c126_9 : ACode :=
  (.loop c126_8)
def c126_10 : ACode :=
  (.block 0 c126_9)
def c126_11 : ACode :=
  (.seq (.seq (.region false [⟨some 6, none, .mv (.s 0)⟩,
    ⟨some 7, none, .len (.s 6)⟩,
    ⟨some 8, none, .cst (.t (.int .i64 0))⟩] [] [0, 1, 7, 8]) c126_10) c126_0)
def c126 : ACode :=
  (.seq (.region false [⟨some 4, none, .cst (.t (.int .i64 0))⟩] [] [0, 1]) c126_11)
def r126 : List ARes := [.tmp 4]
def n126 : Nat := 19
/- 127 slices.IndexFunc[[]supergraph api.Field,supergraph api.Field] -/
def c127_0 : ACode :=
  (.seq (.region false [⟨some 4, none, .cst (.t (.int .i64 (-1)))⟩] [] [4]) .ret)
def c127_1 : ACode :=
  (.region false [⟨some 18, none, .bin .add (.s 8) (.c (.t (.int .i64 1)))⟩,
    ⟨some 8, none, .mv (.s 18)⟩] [] [0, 1, 7, 8])
def c127_2 : ACode :=
  (.seq (.region false [⟨some 17, none, .mv (.s 5)⟩,
    ⟨some 4, none, .mv (.s 17)⟩] [] [4]) .ret)
def c127_3 : ACode :=
  (.cond (.s 16) c127_2 .skip)
def c127_4 : ACode :=
  (.seq (.region false [⟨some 11, none, .mv (.s 1)⟩,
    ⟨some 12, none, .mv (.s 0)⟩,
    ⟨some 13, none, .mv (.s 5)⟩,
    ⟨some 14, none, .ia 5 (.s 12) (.s 13)⟩,
    ⟨some 15, none, .ld true 5 (.s 14)⟩,
    ⟨some 16, none, .callv (.s 11) [(.s 15)]⟩] [] [0, 1, 5, 7, 8, 16]) c127_3)
def c127_5 : ACode :=
  (.seq (.region false [⟨some 10, none, .mv (.s 8)⟩,
    ⟨some 5, none, .mv (.s 10)⟩] [] [0, 1, 5, 7, 8]) c127_4)
def c127_6 : ACode :=
  (.seq (.block 1 c127_5) c127_1)
def c127_7 : ACode :=
  (.seq (.cond (.s 9) .skip (.exit 0)) c127_6)
def c127_8 : ACode :=
  (.seq (.region false [⟨some 9, none, .bin .lss (.s 8) (.s 7)⟩] [] [0, 1, 7, 8, 9]) c127_7)
def c127_9 : ACode :=
  (.loop c127_8)
def c127_10 : ACode :=
  (.block 0 c127_9)
def c127_11 : ACode :=
  (.seq (.seq (.region false [⟨some 6, none, .mv (.s 0)⟩,
    ⟨some 7, none, .len (.s 6)⟩,
    ⟨some 8, none, .cst (.t (.int .i64 0))⟩] [] [0, 1, 7, 8]) c127_10) c127_0)
def c127 : ACode :=
  (.seq (.region false [⟨some 4, none, .cst (.t (.int .i64 0))⟩] [] [0, 1]) c127_11)
def r127 : List ARes := [.tmp 4]
def n127 : Nat := 19
/- 128 slices.IndexFunc[[][]string,[]string] -/
def c128_0 : ACode :=
  (.seq (.region false [⟨some 4, none, .cst (.t (.int .i64 (-1)))⟩] [] [4]) .ret)
def c128_1 : ACode :=
  (.region false [⟨some 18, none, .bin .add (.s 8) (.c (.t (.int .i64 1)))⟩,
    ⟨some 8, none, .mv (.s 18)⟩] [] [0, 1, 7, 8])
def c128_2 : ACode :=
  (.seq (.region false [⟨some 17, none, .mv (.s 5)⟩,
    ⟨some 4, none, .mv (.s 17)⟩] [] [4]) .ret)
def c128_3 : ACode :=
  (.cond (.s 16) c128_2 .skip)
def c128_4 : ACode :=
  (.seq (.region false [⟨some 11, none, .mv (.s 1)⟩,
    ⟨some 12, none, .mv (.s 0)⟩,
    ⟨some 13, none, .mv (.s 5)⟩,
    ⟨some 14, none, .ia 1 (.s 12) (.s 13)⟩,
    ⟨some 15, none, .ld false 1 (.s 14)⟩,
    ⟨some 16, none, .callv (.s 11) [(.s 15)]⟩] [] [0, 1, 5, 7, 8, 16]) c128_3)
def c128_5 : ACode :=
  (.seq (.region false [⟨some 10, none, .mv (.s 8)⟩,
    ⟨some 5, none, .mv (.s 10)⟩] [] [0, 1, 5, 7, 8]) c128_4)
def c128_6 : ACode :=
  (.seq (.block 1 c128_5) c128_1)
def c128_7 : ACode :=
  (.seq (.cond (.s 9) .skip (.exit 0)) c128_6)
def c128_8 : ACode :=
  (.seq (.region false [⟨some 9, none, .bin .lss (.s 8) (.s 7)⟩] [] [0, 1, 7, 8, 9]) c128_7)
def c128_9 : ACode :=
  (.loop c128_8)
def c128_10 : ACode :=
  (.block 0 c128_9)
def c128_11 : ACode :=
  (.seq (.seq (.region false [⟨some 6, none, .mv (.s 0)⟩,
    ⟨some 7, none, .len (.s 6)⟩,
    ⟨some 8, none, .cst (.t (.int .i64 0))⟩] [] [0, 1, 7, 8]) c128_10) c128_0)
def c128 : ACode :=
  (.seq (.region false [⟨some 4, none, .cst (.t (.int .i64 0))⟩] [] [0, 1]) c128_11)
def r128 : List ARes := [.tmp 4]
def n128 : Nat := 19
/- 129 unicode utf8.decodeRuneInStringSlow -/
/- 130 internal stringslite.IndexByte -/
def c130_0 : ACode :=
  (.seq (.region false [⟨some 5, none, .mv (.s 0)⟩,
    ⟨some 6, none, .mv (.s 1)⟩,
    ⟨some 7, none, .nw (.xtr false (.s 5) (.s 6))⟩,
    ⟨some 4, none, .mv (.s 7)⟩] [] [4]) .ret)
def c130 : ACode :=
  (.seq (.region false [⟨some 4, none, .cst (.t (.int .i64 0))⟩] [] [0, 1]) c130_0)
def r130 : List ARes := [.tmp 4]
def n130 : Nat := 8
/- 132 internal bytealg.Cutover -/
/- 133 internal bytealg.IndexRabinKarp[string] -/
/- 134 supergraph supergraphref10.direct -/
def c134_0 : ACode :=
  (.seq (.region false [⟨some 3, none, .fa 1 (.s 1)⟩,
    ⟨some 4, none, .ld false 1 (.s 3)⟩,
    ⟨some 5, none, .len (.s 4)⟩,
    ⟨some 6, none, .bin .eql (.s 5) (.c (.t (.int .i64 1)))⟩,
    ⟨some 7, none, .mv (.s 6)⟩,
    ⟨some 8, some (7, true), .fa 1 (.s 1)⟩,
    ⟨some 9, some (7, true), .ld false 1 (.s 8)⟩,
    ⟨some 10, some (7, true), .ia 1 (.s 9) (.c (.t (.int .i64 0)))⟩,
    ⟨some 11, some (7, true), .ld false 1 (.s 10)⟩,
    ⟨some 12, some (7, true), .bin .eql (.s 11) (.c (.t (.int .i64 1)))⟩,
    ⟨some 13, none, .pick (.s 7) (.s 12) (.c (.t (.bool false)))⟩,
    ⟨some 2, none, .mv (.s 13)⟩] [] [2]) .ret)
def c134 : ACode :=
  (.seq (.region false [⟨some 1, none, .box 2 (.s 0)⟩,
    ⟨some 2, none, .cst (.t (.bool false))⟩] [] [1]) c134_0)
def r134 : List ARes := [.tmp 2]
def n134 : Nat := 14
/- 136 internal bytealg.hashStr[string] -/

end Go.GB.C11


/-
  D11A: contracts of chapter 11's functions: finding definitions and fields, lists of names.
-/
namespace Go.GB.C11
open Go.GB
set_option linter.unusedSimpArgs false
set_option linter.unusedVariables false
set_option maxRecDepth 100000
set_option maxHeartbeats 2000000
structure Pr (P : Program) : Prop where
  mixed : P.follows .mixedOrders = true
  i59 : fnInfo P 59 = some (n59, c59.bare, r59)
  i80 : fnInfo P 80 = some (n80, c80.bare, r80)
  i101 : fnInfo P 101 = some (n101, c101.bare, r101)
  i107 : fnInfo P 107 = some (n107, c107.bare, r107)
  i97 : fnInfo P 97 = some (n97, c97.bare, r97)
  i65 : fnInfo P 65 = some (n65, c65.bare, r65)
  i50 : fnInfo P 50 = some (n50, c50.bare, r50)
  i76 : fnInfo P 76 = some (n76, c76.bare, r76)
  i77 : fnInfo P 77 = some (n77, c77.bare, r77)
  i78 : fnInfo P 78 = some (n78, c78.bare, r78)
  i79 : fnInfo P 79 = some (n79, c79.bare, r79)
  i126 : fnInfo P 126 = some (n126, c126.bare, r126)
  i66 : fnInfo P 66 = some (n66, c66.bare, r66)
  i105 : fnInfo P 105 = some (n105, c105.bare, r105)
  i71 : fnInfo P 71 = some (n71, c71.bare, r71)
  i72 : fnInfo P 72 = some (n72, c72.bare, r72)
  i98 : fnInfo P 98 = some (n98, c98.bare, r98)
  i99 : fnInfo P 99 = some (n99, c99.bare, r99)
  i100 : fnInfo P 100 = some (n100, c100.bare, r100)
  i102 : fnInfo P 102 = some (n102, c102.bare, r102)
  i103 : fnInfo P 103 = some (n103, c103.bare, r103)
  i104 : fnInfo P 104 = some (n104, c104.bare, r104)
  i122 : fnInfo P 122 = some (n122, c122.bare, r122)
  i123 : fnInfo P 123 = some (n123, c123.bare, r123)
  i124 : fnInfo P 124 = some (n124, c124.bare, r124)
  i125 : fnInfo P 125 = some (n125, c125.bare, r125)
  i51 : fnInfo P 51 = some (n51, c51.bare, r51)
  i134 : fnInfo P 134 = some (n134, c134.bare, r134)
variable {P : Program}

def findDef (n : Str) : List Def → Option Def
  | [] => none
  | d :: r => if (d.name == n) = true then some d else findDef n r
theorem findDef_mem {n : Str} : ∀ {l : List Def} {d : Def}, findDef n l = some d → d ∈ l
  | [], d, h => by simp [findDef] at h
  | x :: r, d, h => by
    simp only [findDef] at h
    split at h
    · cases h; exact List.mem_cons_self ..
    · exact List.mem_cons_of_mem _ (findDef_mem h)
def findField (n : Str) : List Field → Option Field
  | [] => none
  | d :: r => if (d.name == n) = true then some d else findField n r
theorem findField_mem {n : Str} : ∀ {l : List Field} {d : Field}, findField n l = some d → d ∈ l
  | [], d, h => by simp [findField] at h
  | x :: r, d, h => by
    simp only [findField] at h
    split at h
    · cases h; exact List.mem_cons_self ..
    · exact List.mem_cons_of_mem _ (findField_mem h)
theorem find_ok (H : Pr P) (ds : List Def) (hl : ds.length ≤ 140737488355328) (n : Str) : FnOk P 65 [docV ds, .t (.str n)] ⟨[], 0⟩ { v := .tup [((findDef n ds).getD Def.zero).v, .t (.bool (findDef n ds).isSome)] } := by
  refine FnOk.run H.i65 H.mixed rfl rfl ?_
  refine fR rfl ?_
  refine lM rfl rfl rfl ?_
  refine fM rfl ?_
  refine rList ds (fun i (_ : Unit) => { env := [(1, .t (.str n)), (4, .ptr 1 0), (9, .t (.lst (ds.map Def.enc))), (10, .t (.int .i64 ds.length)), (11, .t (.int .i64 i))], s := ⟨[(1, .cells [.t (.int .i64 0), .t (.str []), .nils, .nils, .nils, .nils, .nils])], 2⟩ }) (fun r i _ => findDef n ds = findDef n r) 2 () rfl rfl rfl rfl rfl ?_ ?_
  · intro _ hinv
    refine fR rfl ?_
    refine Run.condF rfl rfl (by simp) ?_
    refine fR rfl ?_
    have e : findDef n ds = none := by rw [hinv]; rfl
    rw [e]
    refine Run.fin rfl (EndOk.go ?_); exact .tup2 (.agg (.cons (.t rfl) (.cons (.t rfl) (.cons (.nil rfl) (.cons (.nil rfl) (.cons (.nil rfl) (.cons (.nil rfl) (.cons (.nil rfl) .nil)))))))) (.t rfl)
  · intro i x r _ h1 hi hd hinv ih
    refine fR rfl ?_
    refine Run.condT rfl rfl (by simp; omega) ?_
    refine fR rfl ?_
    refine Mid.elemMap rfl rfl rfl h1 rfl rfl ?_
    refine fM rfl ?_
    refine Run.cond rfl rfl (fun h => ?_) (fun h => ?_)
    · refine fR rfl ?_
      have e : findDef n ds = some x := by rw [hinv]; simp only [findDef]; rw [if_pos h]
      rw [e]
      refine Run.fin rfl (EndOk.go ?_); exact .tup2 (.le (.same rfl)) (.t rfl)
    · refine fR rfl ?_
      refine aL rfl rfl rfl rfl rfl ?_
      refine fM rfl ?_
      have h' : ¬ (x.name == n) = true := by rw [h]; simp
      exact rWeak 2 rfl (ih () (by rw [hinv]; simp only [findDef]; rw [if_neg h'])) rfl rfl rfl

theorem fieldOf_ok (H : Pr P) (d : Def) (hl : d.fields.length ≤ 140737488355328) (n : Str) : FnOk P 66 [d.v, .t (.str n)] ⟨[], 0⟩ { v := .tup [((findField n d.fields).getD Field.zero).v, .t (.bool (findField n d.fields).isSome)] } := by
  refine FnOk.run H.i66 H.mixed rfl rfl ?_
  refine fR rfl ?_
  refine lM rfl rfl rfl ?_
  refine fM rfl ?_
  refine rList d.fields (fun i (_ : Unit) => { env := [(1, .t (.str n)), (4, .ptr 1 0), (9, .t (.lst ((d.fields).map Field.enc))), (10, .t (.int .i64 (d.fields).length)), (11, .t (.int .i64 i))], s := ⟨[(1, .cells [.t (.str []), .nils, .t (.str []), .nils, .nils])], 2⟩ }) (fun r i _ => findField n (d.fields) = findField n r) 2 () rfl rfl rfl rfl rfl ?_ ?_
  · intro _ hinv
    refine fR rfl ?_
    refine Run.condF rfl rfl (by simp) ?_
    refine fR rfl ?_
    have e : findField n (d.fields) = none := by rw [hinv]; rfl
    rw [e]
    refine Run.fin rfl (EndOk.go ?_); exact .tup2 (.agg (.cons (.t rfl) (.cons (.nil rfl) (.cons (.t rfl) (.cons (.nil rfl) (.cons (.nil rfl) .nil)))))) (.t rfl)
  · intro i x r _ h1 hi hd hinv ih
    refine fR rfl ?_
    refine Run.condT rfl rfl (by simp; omega) ?_
    refine fR rfl ?_
    refine Mid.elemMap rfl rfl rfl h1 rfl rfl ?_
    refine fM rfl ?_
    refine Run.cond rfl rfl (fun h => ?_) (fun h => ?_)
    · refine fR rfl ?_
      have e : findField n (d.fields) = some x := by rw [hinv]; simp only [findField]; rw [if_pos h]
      rw [e]
      refine Run.fin rfl (EndOk.go ?_); exact .tup2 (.le (.same rfl)) (.t rfl)
    · refine fR rfl ?_
      refine aL rfl rfl rfl rfl rfl ?_
      refine fM rfl ?_
      have h' : ¬ (x.name == n) = true := by rw [h]; simp
      exact rWeak 2 rfl (ih () (by rw [hinv]; simp only [findField]; rw [if_neg h'])) rfl rfl rfl

theorem rFind_ok (H : Pr P) (ds : List Def) (hl : ds.length ≤ 140737488355328) (n : Str) : FnOk P 80 [docV ds, .t (.str n)] ⟨[], 0⟩ { v := .tup [((findDef n ds).getD Def.zero).v, .t (.bool (findDef n ds).isSome)] } := by
  refine FnOk.run H.i80 H.mixed rfl rfl ?_
  refine fR rfl ?_
  refine rList ds (fun i (_ : Unit) => { env := [(1, .t (.str n)), (2, .ptr 0 0), (4, .ptr 1 0), (6, .t (.int .i64 i))], s := ⟨[(0, .cells [.t (.lst (ds.map Def.enc))]), (1, .cells [.t (.int .i64 0), .t (.str []), .nils, .nils, .nils, .nils, .nils])], 2⟩ }) (fun r i _ => findDef n (ds) = findDef n r) 2 () rfl rfl rfl rfl rfl ?_ ?_
  · intro _ hinv
    refine fR rfl ?_
    refine lM rfl rfl rfl ?_
    refine fM rfl ?_
    refine Run.condF rfl rfl (by simp) ?_
    refine fR rfl ?_
    have e : findDef n (ds) = none := by rw [hinv]; rfl
    rw [e]
    refine Run.fin rfl (EndOk.go ?_); exact .tup2 (.agg (.cons (.t rfl) (.cons (.t rfl) (.cons (.nil rfl) (.cons (.nil rfl) (.cons (.nil rfl) (.cons (.nil rfl) (.cons (.nil rfl) .nil)))))))) (.t rfl)
  · intro i x r _ h1 hi hd hinv ih
    refine fR rfl ?_
    refine lM rfl rfl rfl ?_
    refine fM rfl ?_
    refine Run.condT rfl rfl (by simp; omega) ?_
    refine fR rfl ?_
    refine Mid.elemMap rfl rfl rfl h1 rfl rfl ?_
    refine fM rfl ?_
    refine Run.cond rfl rfl (fun h => ?_) (fun h => ?_)
    · refine fR rfl ?_
      refine Mid.elemMap rfl rfl rfl h1 rfl rfl ?_
      refine fM rfl ?_
      have e : findDef n (ds) = some x := by rw [hinv]; simp only [findDef]; rw [if_pos h]
      rw [e]
      refine Run.fin rfl (EndOk.go ?_); exact .tup2 (.le (.same rfl)) (.t rfl)
    · refine fR rfl ?_
      refine aL rfl rfl rfl rfl rfl ?_
      refine fM rfl ?_
      have h' : ¬ (x.name == n) = true := by rw [h]; simp
      exact rWeak 2 rfl (ih () (by rw [hinv]; simp only [findDef]; rw [if_neg h'])) rfl rfl rfl

theorem rFieldOf_ok (H : Pr P) (d : Def) (hl : d.fields.length ≤ 140737488355328) (n : Str) : FnOk P 101 [d.v, .t (.str n)] ⟨[], 0⟩ { v := .tup [((findField n d.fields).getD Field.zero).v, .t (.bool (findField n d.fields).isSome)] } := by
  refine FnOk.run H.i101 H.mixed rfl rfl ?_
  refine fR rfl ?_
  refine rList d.fields (fun i (_ : Unit) => { env := [(1, .t (.str n)), (2, .ptr 0 0), (4, .ptr 1 0), (6, .t (.int .i64 i))], s := ⟨[(0, .cells [.t (.int .i64 d.kind), .t (.str d.name), .t (.lst (d.implements.map sE)), .t (.lst (d.dirs.map Dir.enc)), .t (.lst (d.fields.map Field.enc)), .t (.lst (d.members.map Member.enc)), .t (.lst (d.inputs.map Input.enc))]), (1, .cells [.t (.str []), .nils, .t (.str []), .nils, .nils])], 2⟩ }) (fun r i _ => findField n (d.fields) = findField n r) 2 () rfl rfl rfl rfl rfl ?_ ?_
  · intro _ hinv
    refine fR rfl ?_
    refine lM rfl rfl rfl ?_
    refine fM rfl ?_
    refine Run.condF rfl rfl (by simp) ?_
    refine fR rfl ?_
    have e : findField n (d.fields) = none := by rw [hinv]; rfl
    rw [e]
    refine Run.fin rfl (EndOk.go ?_); exact .tup2 (.agg (.cons (.t rfl) (.cons (.nil rfl) (.cons (.t rfl) (.cons (.nil rfl) (.cons (.nil rfl) .nil)))))) (.t rfl)
  · intro i x r _ h1 hi hd hinv ih
    refine fR rfl ?_
    refine lM rfl rfl rfl ?_
    refine fM rfl ?_
    refine Run.condT rfl rfl (by simp; omega) ?_
    refine fR rfl ?_
    refine Mid.elemMap rfl rfl rfl h1 rfl rfl ?_
    refine fM rfl ?_
    refine Run.cond rfl rfl (fun h => ?_) (fun h => ?_)
    · refine fR rfl ?_
      refine Mid.elemMap rfl rfl rfl h1 rfl rfl ?_
      refine fM rfl ?_
      have e : findField n (d.fields) = some x := by rw [hinv]; simp only [findField]; rw [if_pos h]
      rw [e]
      refine Run.fin rfl (EndOk.go ?_); exact .tup2 (.le (.same rfl)) (.t rfl)
    · refine fR rfl ?_
      refine aL rfl rfl rfl rfl rfl ?_
      refine fM rfl ?_
      have h' : ¬ (x.name == n) = true := by rw [h]; simp
      exact rWeak 2 rfl (ih () (by rw [hinv]; simp only [findField]; rw [if_neg h'])) rfl rfl rfl

def indexS (s : Str) : List Str → Int → Int
  | [], _ => -1
  | x :: r, i => if (s == x) = true then i else indexS s r (i + 1)
theorem index_ok (H : Pr P) (l : List Str) (hl : l.length ≤ 140737488355328) (s : Str) : FnOk P 126 [.t (.lst (l.map sE)), .t (.str s)] ⟨[], 0⟩ { v := .t (.int .i64 (indexS s l 0)) } := by
  refine FnOk.run H.i126 H.mixed rfl rfl ?_
  refine fR rfl ?_
  refine lM rfl rfl rfl ?_
  refine fM rfl ?_
  refine rList l (fun i (_ : Unit) => { env := [(0, .t (.lst (l.map sE))), (1, .t (.str s)), (7, .t (.int .i64 l.length)), (8, .t (.int .i64 i))], s := ⟨[], 0⟩ }) (fun r i _ => indexS s l 0 = indexS s r i) 0 () rfl rfl rfl rfl rfl ?_ ?_
  · intro _ hinv
    refine fR rfl ?_
    refine Run.condF rfl rfl (by simp) ?_
    refine fR rfl ?_
    refine Run.fin rfl (EndOk.go ?_); exact .t (by rw [hinv]; simp [indexS])
  · intro i x r _ h1 hi hd hinv ih
    refine fR rfl ?_
    refine Run.condT rfl rfl (by simp; omega) ?_
    refine fR rfl ?_
    refine Mid.elemMap rfl rfl rfl h1 rfl rfl ?_
    refine fM rfl ?_
    refine Run.cond rfl rfl (fun h => ?_) (fun h => ?_)
    · refine fR rfl ?_
      refine Run.fin rfl (EndOk.go ?_); exact .t (by rw [hinv]; simp only [indexS]; rw [if_pos h])
    · refine fR rfl ?_
      refine aL rfl rfl rfl rfl rfl ?_
      refine fM rfl ?_
      have h' : ¬ (s == x) = true := by rw [h]; simp
      exact rWeak 0 rfl (ih () (by rw [hinv]; simp only [indexS]; rw [if_neg h']; rfl)) rfl rfl rfl

theorem index_mem (s : Str) : ∀ (l : List Str) (i : Int), 0 ≤ i → (decide (indexS s l i ≥ 0)) = decide (s ∈ l)
  | [], i, _ => by simp [indexS]
  | x :: r, i, hi => by
    by_cases h : s = x
    · subst h; simp [indexS, hi]
    · have h' : ¬ (s == x) = true := by simpa using h
      have e : indexS s (x :: r) i = indexS s r (i + 1) := by simp only [indexS]; rw [if_neg h']
      rw [e, index_mem s r (i + 1) (by omega)]; simp [h]

theorem contains_ok (H : Pr P) (l : List Str) (hl : l.length ≤ 140737488355328) (s : Str) : FnOk P 107 [.t (.lst (l.map sE)), .t (.str s)] ⟨[], 0⟩ { v := .t (.bool (decide (s ∈ l))) } := by
  refine FnOk.run H.i107 H.mixed rfl rfl ?_
  refine fR rfl ?_
  refine Mid.call (index_ok H l hl s) rfl rfl rfl rfl ?_
  refine fM rfl ?_
  refine Run.fin rfl (EndOk.go ?_); exact .t (by rw [← index_mem s l 0 (by omega)])

end Go.GB.C11


/-
  D11B: contracts of chapter 11's functions: Possible.
-/
namespace Go.GB.C11
open Go.GB
set_option linter.unusedSimpArgs false
set_option linter.unusedVariables false
set_option maxRecDepth 100000
set_option maxHeartbeats 2000000
variable {P : Program}

def memF (l : List Member) (n : Str) : Bool := l.any fun m => m.name == n
/-- no definition ahead has that name -/
def firstF (pre : List Def) (n : Str) : Bool := !(pre.any fun x => x.name == n)
theorem docFind {ds : List Def} (hD : DocOk ds) (n : Str) : ((findDef n ds).getD Def.zero).Ok := by
  cases h : findDef n ds with
  | none => exact Def.zero_ok
  | some t => exact hD.d t (findDef_mem h)
end Go.GB.C11


/-
  D11C: contracts of chapter 11's functions: Possible of the program.
-/
namespace Go.GB.C11
open Go.GB
set_option linter.unusedSimpArgs false
set_option linter.unusedVariables false
set_option maxRecDepth 100000
set_option maxHeartbeats 2000000
variable {P : Program}

def hasK (M : List (Str × Bool)) (k : Str) : Bool := (kget k M).isSome
/-- keys apart, all true -/
structure MOk (M : List (Str × Bool)) : Prop where
  nd : (M.map (·.1)).Nodup
  tr : ∀ e, e ∈ M → e.2 = true
theorem MOk.nil : MOk [] := ⟨by simp, by simp⟩
theorem hasK_mem {M : List (Str × Bool)} {k : Str} (h : hasK M k = true) : ∃ e, e ∈ M ∧ e.1 = k := by
  unfold hasK at h
  induction M with
  | nil => simp [kget] at h
  | cons a r ih =>
    simp only [kget] at h
    split at h
    · rename_i e; exact ⟨a, List.mem_cons_self .., e.symm⟩
    · obtain ⟨e, h1, h2⟩ := ih h; exact ⟨e, List.mem_cons_of_mem _ h1, h2⟩
theorem kdrop_at {κ ν : Type} [DecidableEq κ] {e : κ × ν} : ∀ {l : List (κ × ν)} {i : Nat}, l[i]? = some e → (l.map (·.1)).Nodup → kdrop e.1 l = l.eraseIdx i
  | [], i, h, _ => by simp at h
  | w :: r, 0, h, hn => by simp at h; subst h; simp [kdrop]
  | w :: r, i + 1, h, hn => by
    simp only [List.map_cons, List.nodup_cons] at hn
    have h' : r[i]? = some e := by simpa using h
    have hne : ¬ e.1 = w.1 := fun heq => hn.1 (List.mem_map.2 ⟨e, List.mem_of_getElem? h', heq⟩)
    simp [kdrop, hne, kdrop_at h' hn.2]
theorem hasK_erase {M : List (Str × Bool)} (hM : MOk M) {e : Str × Bool} {i : Nat} (h : M[i]? = some e) (k : Str) : hasK (M.eraseIdx i) k = (hasK M k && !(k == e.1)) := by
  unfold hasK
  rw [← kdrop_at h hM.nd, kget_kdrop hM.nd]
  by_cases hk : k = e.1
  · simp [hk]
  · simp [hk]
theorem MOk.sub {M M' : List (Str × Bool)} (h : MOk M) (hs : M'.Sublist M) : MOk M' :=
  ⟨h.nd.sublist (hs.map _), fun e he => h.tr e (hs.subset he)⟩
theorem nodup_at : ∀ {bs : List Nat} {i j s : Nat}, bs.Nodup → bs[i]? = some s → bs[j]? = some s → i = j
  | [], i, j, s, _, h, _ => by simp at h
  | b :: r, 0, 0, s, _, _, _ => rfl
  | b :: r, 0, j + 1, s, hn, h1, h2 => by
    simp at h1; subst h1
    exact absurd (List.mem_of_getElem? (by simpa using h2)) (List.nodup_cons.1 hn).1
  | b :: r, i + 1, 0, s, hn, h1, h2 => by
    simp at h2; subst h2
    exact absurd (List.mem_of_getElem? (by simpa using h1)) (List.nodup_cons.1 hn).1
  | b :: r, i + 1, j + 1, s, hn, h1, h2 => by
    exact congrArg (· + 1) (nodup_at (List.nodup_cons.1 hn).2 (by simpa using h1) (by simpa using h2))
theorem zip_erase {α β : Type} : ∀ (l : List α) (r : List β) (i : Nat), (l.eraseIdx i).zip (r.eraseIdx i) = (l.zip r).eraseIdx i
  | [], r, i => by simp
  | a :: l, [], i => by cases i <;> simp
  | a :: l, b :: r, 0 => by simp
  | a :: l, b :: r, i + 1 => by simp [zip_erase l r i]

/-- what the loop along the map keeps -/
structure Lp (M : List (Str × Bool)) (bad : Str → Bool) (b : List (Str × Bool) × List Nat × List Nat) : Prop where
  ok : MOk b.1
  len : b.2.1.length = b.1.length
  nd : b.2.1.Nodup
  i1 : ∀ k, hasK b.1 k = true → hasK M k = true
  i2 : ∀ k, hasK M k = true → bad k = false → hasK b.1 k = true
  i3 : ∀ p, p ∈ b.1.zip b.2.1 → p.2 ∈ b.2.2 → bad p.1.1 = false
theorem Lp.keep {M : List (Str × Bool)} {bad : Str → Bool} {L : List (Str × Bool)} {bs seen : List Nat} (h : Lp M bad (L, bs, seen)) {i s : Nat} {e : Str × Bool} (he : L[i]? = some e) (hs : bs[i]? = some s) (hb : bad e.1 = false) : Lp M bad (L, bs, seen ++ [s]) := by
  refine ⟨h.ok, h.len, h.nd, h.i1, h.i2, fun p hp hps => ?_⟩
  rcases List.mem_append.1 hps with hps | hps
  · exact h.i3 p hp hps
  · simp at hps
    obtain ⟨j, hj⟩ := List.mem_iff_getElem?.1 hp
    obtain ⟨h1, h2⟩ := List.getElem?_zip_eq_some.1 hj
    rw [hps] at h2
    have := nodup_at h.nd hs h2
    subst this
    simp only at h1
    rw [he] at h1; simp at h1; rw [← h1]; exact hb
theorem Lp.drop {M : List (Str × Bool)} {bad : Str → Bool} {L : List (Str × Bool)} {bs seen : List Nat} (h : Lp M bad (L, bs, seen)) {i s : Nat} {e : Str × Bool} (he : L[i]? = some e) (hs : bs[i]? = some s) (hb : bad e.1 = true) : Lp M bad (L.eraseIdx i, bs.eraseIdx i, seen ++ [s]) := by
  have hlen : bs.length = L.length := h.len
  have hok : MOk L := h.ok
  refine ⟨hok.sub (List.eraseIdx_sublist ..), by show (bs.eraseIdx i).length = (L.eraseIdx i).length; rw [List.length_eraseIdx, List.length_eraseIdx, hlen], List.Nodup.sublist (List.eraseIdx_sublist ..) h.nd, fun k hk => ?_, fun k hk hkb => ?_, fun p hp hps => ?_⟩
  · have hk' : hasK (L.eraseIdx i) k = true := hk
    rw [hasK_erase hok he] at hk'
    simp at hk'
    exact h.i1 k hk'.1
  · show hasK (L.eraseIdx i) k = true
    rw [hasK_erase hok he]
    have h1 := h.i2 k hk hkb
    have hne : ¬ k = e.1 := by rintro rfl; rw [hb] at hkb; cases hkb
    simp [hne]; exact h1
  · have hp' : p ∈ (L.zip bs).eraseIdx i := by rw [← zip_erase]; exact hp
    have hpm : p ∈ L.zip bs := (List.eraseIdx_sublist ..).subset hp'
    rcases List.mem_append.1 hps with hps | hps
    · exact h.i3 p hpm hps
    · exfalso
      simp at hps
      have hz : (bs.eraseIdx i) = ((L.zip bs).eraseIdx i).map (·.2) := by
        rw [← zip_erase]
        rw [List.map_snd_zip (by rw [List.length_eraseIdx, List.length_eraseIdx, hlen]; exact Nat.le_refl _)]
      have hmem : s ∈ bs.eraseIdx i := by rw [hz, ← hps]; exact List.mem_map.2 ⟨p, hp', rfl⟩
      obtain ⟨j, hj⟩ := List.mem_iff_getElem?.1 hmem
      rw [List.getElem?_eraseIdx] at hj
      split at hj
      · have := nodup_at h.nd hs hj; omega
      · have := nodup_at h.nd hs hj; omega
theorem Lp.last {M : List (Str × Bool)} {bad : Str → Bool} {L : List (Str × Bool)} {bs seen : List Nat} (h : Lp M bad (L, bs, seen)) (hall : ∀ s, s ∈ bs → s ∈ seen) (k : Str) : hasK L k = (hasK M k && !(bad k)) := by
  have hlen : bs.length = L.length := h.len
  by_cases hk : hasK L k = true
  · obtain ⟨e, he, rfl⟩ := hasK_mem hk
    obtain ⟨i, hi⟩ := List.mem_iff_getElem?.1 he
    have hil : i < bs.length := by rw [hlen]; exact (List.getElem?_eq_some_iff.1 hi).1
    have hz : (L.zip bs)[i]? = some (e, bs[i]) := List.getElem?_zip_eq_some.2 ⟨hi, by simp [hil]⟩
    have := h.i3 (e, bs[i]) (List.mem_of_getElem? hz) (hall _ (by simp))
    have h1 := h.i1 e.1 hk
    simp only at this
    rw [hk, h1, this]; rfl
  · have hk' : hasK L k = false := by simpa using hk
    rw [hk']
    by_cases h1 : hasK M k = true
    · by_cases h2 : bad k = false
      · exact absurd (h.i2 k h1 h2) hk
      · have : bad k = true := by simpa using h2
        simp [this]
    · have : hasK M k = false := by simpa using h1
      simp [this]
end Go.GB.C11


/-
  D11D: contracts of chapter 11's functions: Possible of the program.
-/
namespace Go.GB.C11
open Go.GB
set_option linter.unusedSimpArgs false
set_option linter.unusedVariables false
set_option maxRecDepth 100000
set_option maxHeartbeats 2000000
variable {P : Program}

theorem find_first : ∀ {ds : List Def} {i : Nat} {x : Def}, ds[i]? = some x → firstF (ds.take i) x.name = true → findDef x.name ds = some x
  | [], i, x, h, _ => by simp at h
  | y :: r, 0, x, h, _ => by simp at h; subst h; simp [findDef]
  | y :: r, i + 1, x, h, hf => by
    have hne : ¬ (y.name == x.name) = true := by
      intro e; simp [firstF, e] at hf
    simp only [findDef]; rw [if_neg hne]
    refine find_first (i := i) (by simpa using h) ?_
    simp only [firstF, List.take_succ_cons, List.any_cons] at hf ⊢
    have : (y.name == x.name) = false := by simpa using hne
    rw [this, Bool.false_or] at hf; exact hf
end Go.GB.C11


/-
  D11E: contracts of chapter 11's functions: types of fields (typeref), Is, Sub.
-/
namespace Go.GB.C11
open Go.GB
set_option linter.unusedSimpArgs false
set_option linter.unusedVariables false
set_option maxRecDepth 100000
set_option maxHeartbeats 2000000
variable {P : Program}

/- wrappers -/
def nnF : List Int → Bool
  | [] => false
  | w :: _ => w == 1
end Go.GB.C11


/-
  D11F: contracts of chapter 11's functions: lists among types, Is, Sub.
-/
namespace Go.GB.C11
open Go.GB
set_option linter.unusedSimpArgs false
set_option linter.unusedVariables false
set_option maxRecDepth 100000
set_option maxHeartbeats 2000000
variable {P : Program}

end Go.GB.C11


/-
  D11G: contracts of chapter 11's functions: Sub of the reference, Overlap, Strings.
-/
namespace Go.GB.C11
open Go.GB
set_option linter.unusedSimpArgs false
set_option linter.unusedVariables false
set_option maxRecDepth 100000
set_option maxHeartbeats 2000000
variable {P : Program}

end Go.GB.C11


/-
  D11H: contracts of chapter 11's functions: Overlap, lists that are compared, names.
-/
namespace Go.GB.C11
open Go.GB
set_option linter.unusedSimpArgs false
set_option linter.unusedVariables false
set_option maxRecDepth 100000
set_option maxHeartbeats 2000000
variable {P : Program}

/- lists that are compared -/
theorem drop_at {α : Type} {l : List α} {i : Nat} {y : α} (h : l[i]? = some y) : l.drop i = y :: l.drop (i + 1) := by
  obtain ⟨hi, hy⟩ := List.getElem?_eq_some_iff.1 h
  rw [List.drop_eq_getElem_cons hi, hy]
structure Fault where
  err : Int
  at_ : Str
instance : DecidableEq Fault := fun a b => decidable_of_iff (a.err = b.err ∧ a.at_ = b.at_) (by cases a; cases b; simp)
def Fault.enc (f : Fault) : List T := [.int .i64 f.err, .str f.at_]
end Go.GB.C11


/-
  D11I: contracts of chapter 11's functions: Large, right types, Fits.
-/
namespace Go.GB.C11
open Go.GB
set_option linter.unusedSimpArgs false
set_option linter.unusedVariables false
set_option maxRecDepth 100000
set_option maxHeartbeats 2000000
variable {P : Program}

def scalF (n : Str) : Bool := n == [73, 110, 116] || n == [83, 116, 114, 105, 110, 103] || n == [66, 111, 111, 108, 101, 97, 110] || n == [73, 68]
theorem scalar_ok (H : Pr P) (n : Str) : FnOk P 105 [.t (.str n)] ⟨[], 0⟩ { v := .t (.bool (scalF n)) } := by
  refine FnOk.run H.i105 H.mixed rfl rfl ?_
  refine fR rfl ?_
  refine Run.fin rfl (EndOk.go ?_); exact .t (by simp [scalF])
theorem rScalar_ok (H : Pr P) (n : Str) : FnOk P 97 [.t (.str n)] ⟨[], 0⟩ { v := .t (.bool (scalF n)) } := by
  refine FnOk.run H.i97 H.mixed rfl rfl ?_
  refine fR rfl ?_
  refine Run.fin rfl (EndOk.go ?_); exact .t (by simp [scalF])

/- names -/
def letF (c : Int) : Bool := (decide (c ≥ 65) && decide (c ≤ 90)) || (decide (c ≥ 97) && decide (c ≤ 122)) || c == 95
def digF (c : Int) : Bool := decide (c ≥ 48) && decide (c ≤ 57)
theorem letter_ok (H : Pr P) (c : Int) : FnOk P 71 [.t (.int .u8 c)] ⟨[], 0⟩ { v := .t (.bool (letF c)) } := by
  refine FnOk.run H.i71 H.mixed rfl rfl ?_
  refine fR rfl ?_
  refine Run.fin rfl (EndOk.go ?_); exact .t rfl
theorem digit_ok (H : Pr P) (c : Int) : FnOk P 72 [.t (.int .u8 c)] ⟨[], 0⟩ { v := .t (.bool (digF c)) } := by
  refine FnOk.run H.i72 H.mixed rfl rfl ?_
  refine fR rfl ?_
  refine Run.fin rfl (EndOk.go ?_); exact .t rfl
def nmOk (first : Bool) : List UInt8 → Bool
  | [] => true
  | c :: r => (letF c.toNat || (!first && digF c.toNat)) && nmOk false r
def nameF (s : Str) : Bool := decide (1 ≤ s.length ∧ s.length ≤ 64) && nmOk true s
theorem name_ok (H : Pr P) (s : Str) (hs : s.length ≤ 140737488355328) : FnOk P 50 [.t (.str s)] ⟨[], 0⟩ { v := .t (.bool (nameF s)) } := by
  refine FnOk.run H.i50 H.mixed rfl rfl ?_
  refine fR rfl ?_
  refine Run.cond rfl rfl (fun h => ?_) (fun h => ?_)
  · have h' : ¬ (1 ≤ s.length ∧ s.length ≤ 64) := by simp at h; omega
    refine fR rfl ?_
    refine Run.fin rfl (EndOk.go ?_); exact .t (by unfold nameF; rw [show decide (1 ≤ s.length ∧ s.length ≤ 64) = false from by simpa using h']; rfl)
  · have h' : 1 ≤ s.length ∧ s.length ≤ 64 := by simp at h; omega
    have e : nameF s = nmOk true s := by unfold nameF; rw [show decide (1 ≤ s.length ∧ s.length ≤ 64) = true from by simpa using h']; rfl
    refine fR rfl ?_
    refine rList s (fun i (_ : Unit) => { env := [(0, .t (.str s)), (3, .t (.int .i64 i))], s := ⟨[], 0⟩ }) (fun r i _ => nmOk true s = nmOk (i == 0) r) 0 () rfl rfl rfl rfl rfl ?_ ?_
    · intro _ hinv
      refine fR rfl ?_
      refine Run.condF rfl rfl (by simp) ?_
      refine fR rfl ?_
      refine Run.fin rfl (EndOk.go ?_); exact .t (by rw [e, hinv]; rfl)
    · intro i c r _ h1 hi hd hinv ih
      refine fR rfl ?_
      refine Run.condT rfl rfl (by simp; omega) ?_
      refine fR rfl ?_
      refine Mid.byte rfl rfl h1 rfl ?_
      skip
      refine Mid.call (letter_ok H c.toNat) rfl rfl rfl rfl ?_
      refine fM rfl ?_
      refine byG rfl rfl rfl h1 rfl ?_
      skip
      refine caG rfl rfl (fun hg => ⟨_, rfl, digit_ok H c.toNat, rfl⟩) rfl rfl ?_
      refine fM rfl ?_
      have hb : ((i : Int) == 0) = (i == 0) := by
        cases i with
        | zero => rfl
        | succ i => simp; omega
      have hb2 : (i + 1 == 0) = false := by simp
      refine Run.cond rfl rfl (fun hc => ?_) (fun hc => ?_)
      · have hc' : (letF c.toNat || (!(i == 0) && digF c.toNat)) = false := by
          rw [hb] at hc
          revert hc; cases letF c.toNat <;> cases (i == 0) <;> cases digF c.toNat <;> simp
        refine fR rfl ?_
        refine Run.fin rfl (EndOk.go ?_); exact .t (by rw [e, hinv]; simp only [nmOk]; rw [hc']; rfl)
      · have hc' : (letF c.toNat || (!(i == 0) && digF c.toNat)) = true := by
          rw [hb] at hc
          revert hc; cases letF c.toNat <;> cases (i == 0) <;> cases digF c.toNat <;> simp
        refine fR rfl ?_
        refine aL rfl rfl rfl rfl rfl ?_
        refine fM rfl ?_
        exact rWeak 0 rfl (ih () (by rw [hinv, hb2]; simp only [nmOk]; rw [hc']; rfl)) rfl rfl rfl

/- right types -/
/- lists of lists, Fits -/
end Go.GB.C11


/-
  D11J: contracts of chapter 11's functions: Fits.
-/
namespace Go.GB.C11
open Go.GB
set_option linter.unusedSimpArgs false
set_option linter.unusedVariables false
set_option maxRecDepth 100000
set_option maxHeartbeats 2000000
variable {P : Program}

/- plain law: right types are lists of signs, one for each level -/
inductive RW : List Int → Prop
  | base : RW []
  | nn : RW [1]
  | lst {r : List Int} (h : RW r) : RW (2 :: r)
  | nnl {r : List Int} (h : RW r) : RW (1 :: 2 :: r)
end Go.GB.C11


/-
  D11K: plain law of chapter 11: Sub of right types.
-/
namespace Go.GB.C11
open Go.GB
set_option linter.unusedSimpArgs false
set_option linter.unusedVariables false

end Go.GB.C11


/-
  D11L: contracts of chapter 11's functions: the parts of Faces.
-/
namespace Go.GB.C11
open Go.GB
set_option linter.unusedSimpArgs false
set_option linter.unusedVariables false
set_option maxRecDepth 100000
set_option maxHeartbeats 2000000
variable {P : Program}

def Input.v (x : Input) : V := .agg [.t (.str x.name), .t (.str x.ty.name), .t (.lst (x.ty.wraps.map nE)), .t (.bool x.has), .t (.int .i64 x.dflt.kind), .t (.int .i64 x.dflt.int), .t (.str x.dflt.text), .t (.lst (x.dflt.items.map Val.enc)), .t (.lst (x.dflt.keys.map sE)), .t (.lst (x.dirs.map Dir.enc))]
def Input.zero : Input := ⟨[], ⟨[], []⟩, false, Val.zero, []⟩
theorem Input.zero_ok : Input.zero.Ok := ⟨⟨by decide, by decide⟩, Val.zero_ok, by decide, by simp [Input.zero], by decide⟩
def findInput (n : Str) : List Input → Option Input
  | [] => none
  | d :: r => if (d.name == n) = true then some d else findInput n r
def sameR (a b : Ref) : Bool := a.name == b.name && decide (a.wraps = b.wraps)
end Go.GB.C11


/-
  D11M: contracts of chapter 11's functions: a type and an interface.
-/
namespace Go.GB.C11
open Go.GB
set_option linter.unusedSimpArgs false
set_option linter.unusedVariables false
set_option maxRecDepth 100000
set_option maxHeartbeats 2000000
variable {P : Program}

def badA (y : Field) (a : Input) : Bool := !(findInput a.name y.args).isSome || !(sameR a.ty ((findInput a.name y.args).getD Input.zero).ty)
def badR (x : Field) (b : Input) : Bool := !(findInput b.name x.args).isSome && nnF b.ty.wraps && !b.has
end Go.GB.C11


/-
  D11N: contracts of chapter 11's functions: Faces.
-/
namespace Go.GB.C11
open Go.GB
set_option linter.unusedSimpArgs false
set_option linter.unusedVariables false
set_option maxRecDepth 100000
set_option maxHeartbeats 2000000
variable {P : Program}

end Go.GB.C11


/-
  D11O: contracts of chapter 11's functions: Faces.
-/
namespace Go.GB.C11
open Go.GB
set_option linter.unusedSimpArgs false
set_option linter.unusedVariables false
set_option maxRecDepth 100000
set_option maxHeartbeats 2000000
variable {P : Program}

end Go.GB.C11


/-
  D11P: contracts of chapter 11's functions: the examples.
-/
namespace Go.GB.C11
open Go.GB
set_option linter.unusedSimpArgs false
set_option linter.unusedVariables false
set_option maxRecDepth 100000
set_option maxHeartbeats 2000000
variable {P : Program}

end Go.GB.C11


/-
  D11Q: chapter 11's laws: Possible, Sub, Order.
-/
namespace Go.GB.C11
open Go.GB
set_option linter.unusedSimpArgs false
set_option linter.unusedVariables false
set_option maxRecDepth 100000
set_option maxHeartbeats 2000000
variable {P : Program}

end Go.GB.C11


/-
  D11S: contracts of chapter 11's functions: parts of the schema's check.
-/
namespace Go.GB.C11
open Go.GB
set_option linter.unusedSimpArgs false
set_option linter.unusedVariables false
set_option maxRecDepth 100000
set_option maxHeartbeats 2000000
variable {P : Program}

def resF : Str → Bool
  | a :: b :: _ => (a.toNat : Int) == 95 && (b.toNat : Int) == 95
  | _ => false
theorem reserved_ok (H : Pr P) (s : Str) (hs : s.length ≤ 140737488355328) : FnOk P 51 [.t (.str s)] ⟨[], 0⟩ { v := .t (.bool (resF s)) } := by
  match s, hs with
  | [], _ =>
    refine FnOk.run H.i51 H.mixed rfl rfl ?_
    refine fR rfl ?_
    refine Mid.grdF rfl rfl rfl rfl rfl ?_
    refine Mid.grdF rfl rfl rfl rfl rfl ?_
    refine fM rfl ?_
    refine Mid.grdF rfl rfl rfl rfl rfl ?_
    refine Mid.grdF rfl rfl rfl rfl rfl ?_
    refine fM rfl ?_
    refine Run.fin rfl (EndOk.go ?_); exact .t rfl
  | [a], _ =>
    refine FnOk.run H.i51 H.mixed rfl rfl ?_
    refine fR rfl ?_
    refine gr rfl ?_
    refine fM rfl ?_
    refine Mid.grdF rfl rfl rfl rfl rfl ?_
    refine Mid.grdF rfl rfl rfl rfl rfl ?_
    refine fM rfl ?_
    refine Run.fin rfl (EndOk.go ?_); exact .t rfl
  | a :: b :: r, hs =>
    refine FnOk.run H.i51 H.mixed rfl rfl ?_
    refine fR rfl ?_
    refine gr rfl ?_
    refine fM rfl ?_
    refine gr rfl ?_
    refine fM rfl ?_
    refine Run.fin rfl (EndOk.go ?_); exact .t (by
      have : decide (((a :: b :: r).length : Int) ≥ 2) = true := by simp; omega
      rw [this]; rfl)
def allowedF (n : Str) : Bool := nameF n && !resF n
theorem allowed_ok (H : Pr P) (n : Str) (hn : n.length ≤ 140737488355328) : FnOk P 122 [.t (.str n)] ⟨[], 0⟩ { v := .t (.bool (allowedF n)) } := by
  refine FnOk.run H.i122 H.mixed rfl rfl ?_
  refine fR rfl ?_
  refine Mid.call (name_ok H n hn) rfl rfl rfl rfl ?_
  refine fM rfl ?_
  refine caG rfl rfl (fun hg => ⟨_, rfl, reserved_ok H n hn, rfl⟩) rfl rfl ?_
  refine fM rfl ?_
  refine Run.fin rfl (EndOk.go ?_); exact .t rfl
def namesF (n : Str) (bad twice : Bool) (at_ : Str) : List Fault :=
  (if (bad || !allowedF n) = true then [(⟨6, at_⟩ : Fault)] else []) ++ (if twice = true then [(⟨7, at_⟩ : Fault)] else [])
theorem names_ok (H : Pr P) (n : Str) (hn : n.length ≤ 140737488355328) (bad twice : Bool) (at_ : Str) : FnOk P 98 [.t (.str n), .t (.bool bad), .t (.bool twice), .t (.str at_)] ⟨[], 0⟩ { v := .t (.lst ((namesF n bad twice at_).map Fault.enc)) } := by
  refine FnOk.run H.i98 H.mixed rfl rfl ?_
  refine fR rfl ?_
  refine caG rfl rfl (fun hg => ⟨_, rfl, allowed_ok H n hn, rfl⟩) rfl rfl ?_
  refine fM rfl ?_
  refine Run.cond rfl rfl (fun h => ?_) (fun h => ?_)
  · refine fR rfl ?_
    refine apN Fault.enc [(⟨6, at_⟩ : Fault)] rfl rfl rfl ?_ (h1 := by first | omega | (simp; omega) | (simp; done)) (h2 := by first | omega | (simp; omega) | (simp; done))
    refine fM rfl ?_
    cases twice with
    | true =>
      refine Run.condT rfl rfl rfl ?_
      refine fR rfl ?_
      refine apM Fault.enc [(⟨6, at_⟩ : Fault)] [(⟨7, at_⟩ : Fault)] rfl rfl rfl rfl rfl ?_ (h1 := by first | omega | (simp; omega) | (simp; done)) (h2 := by first | omega | (simp; omega) | (simp; done))
      refine fM rfl ?_
      refine Run.fin rfl (EndOk.go ?_); exact .own (by unfold namesF; rw [if_pos h, if_pos rfl])
    | false =>
      refine Run.condF rfl rfl rfl ?_
      refine fR rfl ?_
      refine Run.fin rfl (EndOk.go ?_); exact .own (by unfold namesF; rw [if_pos h, if_neg (by simp)]; rfl)
  · refine fR rfl ?_
    have h' : ¬ (bad || !allowedF n) = true := by rw [h]; simp
    cases twice with
    | true =>
      refine Run.condT rfl rfl rfl ?_
      refine fR rfl ?_
      refine apN Fault.enc [(⟨7, at_⟩ : Fault)] rfl rfl rfl ?_ (h1 := by first | omega | (simp; omega) | (simp; done)) (h2 := by first | omega | (simp; omega) | (simp; done))
      refine fM rfl ?_
      refine Run.fin rfl (EndOk.go ?_); exact .own (by unfold namesF; rw [if_neg h', if_pos rfl]; rfl)
    | false =>
      refine Run.condF rfl rfl rfl ?_
      refine fR rfl ?_
      refine Run.fin rfl (EndOk.go ?_); exact .nil (by unfold namesF; rw [if_neg h', if_neg (by simp)]; rfl)
def emptyF (d : Def) : Bool := if d.kind = 1 ∨ d.kind = 2 then ((d.fields.length : Int) == 0) else if d.kind = 3 ∨ d.kind = 4 then ((d.members.length : Int) == 0) else if d.kind = 5 then ((d.inputs.length : Int) == 0) else false
def knownF (ds : List Def) (n : Str) : Bool := scalF n || (findDef n ds).isSome
theorem known_ok (H : Pr P) (ds : List Def) (hD : DocOk ds) (n : Str) : FnOk P 102 [docV ds, .t (.str n)] ⟨[], 0⟩ { v := .t (.bool (knownF ds n)) } := by
  refine FnOk.run H.i102 H.mixed rfl rfl ?_
  refine fR rfl ?_
  refine Mid.call (rFind_ok H ds hD.l n) rfl rfl rfl rfl ?_
  refine fM rfl ?_
  refine Mid.call (rScalar_ok H n) rfl rfl rfl rfl ?_
  refine fM rfl ?_
  refine Run.fin rfl (EndOk.go ?_); exact .t rfl
def leafF (ds : List Def) (n : Str) : Bool := scalF n || ((findDef n ds).isSome && ((findDef n ds).getD Def.zero).kind == 4)
theorem leaf_ok (H : Pr P) (ds : List Def) (hD : DocOk ds) (n : Str) : FnOk P 125 [docV ds, .t (.str n)] ⟨[], 0⟩ { v := .t (.bool (leafF ds n)) } := by
  refine FnOk.run H.i125 H.mixed rfl rfl ?_
  refine fR rfl ?_
  refine Mid.call (rFind_ok H ds hD.l n) rfl rfl rfl rfl ?_
  refine fM rfl ?_
  refine Mid.call (rScalar_ok H n) rfl rfl rfl rfl ?_
  refine fM rfl ?_
  refine Run.fin rfl (EndOk.go ?_); exact .t rfl
def isInF (ds : List Def) (n : Str) : Bool := leafF ds n || ((findDef n ds).isSome && ((findDef n ds).getD Def.zero).kind == 5)
theorem isInput_ok (H : Pr P) (ds : List Def) (hD : DocOk ds) (n : Str) : FnOk P 104 [docV ds, .t (.str n)] ⟨[], 0⟩ { v := .t (.bool (isInF ds n)) } := by
  refine FnOk.run H.i104 H.mixed rfl rfl ?_
  refine fR rfl ?_
  refine Mid.call (rFind_ok H ds hD.l n) rfl rfl rfl rfl ?_
  refine fM rfl ?_
  refine Mid.call (leaf_ok H ds hD n) rfl rfl rfl rfl ?_
  refine fM rfl ?_
  refine Run.fin rfl (EndOk.go ?_); exact .t rfl
theorem rInputOf_ok (H : Pr P) (l : List Input) (hl : l.length ≤ 140737488355328) (n : Str) : FnOk P 103 [.t (.lst (l.map Input.enc)), .t (.str n)] ⟨[], 0⟩ { v := .tup [Input.v ((findInput n l).getD Input.zero), .t (.bool (findInput n l).isSome)] } := by
  refine FnOk.run H.i103 H.mixed rfl rfl ?_
  refine fR rfl ?_
  refine rList l (fun i (_ : Unit) => { env := [(0, .t (.lst (l.map Input.enc))), (1, .t (.str n)), (4, .ptr 0 0), (6, .t (.int .i64 i))], s := ⟨[(0, .cells [.t (.str []), .t (.str []), .nils, .t (.bool false), .t (.int .i64 0), .t (.int .i64 0), .t (.str []), .nils, .nils, .nils])], 1⟩ }) (fun r i _ => findInput n l = findInput n r) 1 () rfl rfl rfl rfl rfl ?_ ?_
  · intro _ hinv
    refine fR rfl ?_
    refine lM rfl rfl rfl ?_
    refine fM rfl ?_
    refine Run.condF rfl rfl (by simp) ?_
    refine fR rfl ?_
    have e : findInput n l = none := by rw [hinv]; rfl
    rw [e]
    refine Run.fin rfl (EndOk.go ?_); exact .tup2 (.agg (.cons (.t rfl) (.cons (.t rfl) (.cons (.nil rfl) (.cons (.t rfl) (.cons (.t rfl) (.cons (.t rfl) (.cons (.t rfl) (.cons (.nil rfl) (.cons (.nil rfl) (.cons (.nil rfl) .nil))))))))))) (.t rfl)
  · intro i x r _ h1 hi hd hinv ih
    refine fR rfl ?_
    refine lM rfl rfl rfl ?_
    refine fM rfl ?_
    refine Run.condT rfl rfl (by simp; omega) ?_
    refine fR rfl ?_
    refine Mid.elemMap rfl rfl rfl h1 rfl rfl ?_
    refine fM rfl ?_
    refine Run.cond rfl rfl (fun h => ?_) (fun h => ?_)
    · refine fR rfl ?_
      refine Mid.elemMap rfl rfl rfl h1 rfl rfl ?_
      refine fM rfl ?_
      have e : findInput n l = some x := by rw [hinv]; simp only [findInput]; rw [if_pos h]
      rw [e]
      refine Run.fin rfl (EndOk.go ?_); exact .tup2 (.le (.same rfl)) (.t rfl)
    · refine fR rfl ?_
      refine aL rfl rfl rfl rfl rfl ?_
      refine fM rfl ?_
      have h' : ¬ (x.name == n) = true := by rw [h]; simp
      exact rWeak 1 rfl (ih () (by rw [hinv]; simp only [findInput]; rw [if_neg h'])) rfl rfl rfl
theorem empty_ok (H : Pr P) (d : Def) : FnOk P 99 [d.v] ⟨[], 0⟩ { v := .t (.bool (emptyF d)) } := by
  refine FnOk.run H.i99 H.mixed rfl rfl ?_
  refine fR rfl ?_
  refine Run.cond rfl rfl (fun h1 => ?_) (fun h1 => ?_)
  · have e : emptyF d = ((d.fields.length : Int) == 0) := by unfold emptyF; rw [if_pos (.inl (by simpa using h1))]
    skip
    refine Run.condT rfl rfl h1 ?_
    refine fR rfl ?_
    refine lM rfl rfl rfl ?_
    refine fM rfl ?_
    refine Run.fin rfl (EndOk.go ?_); exact .t (by rw [e])
  · have n1 : ¬ d.kind = 1 := by simpa using h1
    refine fR rfl ?_
    refine Run.cond rfl rfl (fun h2 => ?_) (fun h2 => ?_)
    · have e : emptyF d = ((d.fields.length : Int) == 0) := by unfold emptyF; rw [if_pos (.inr (by simpa using h2))]
      refine fR rfl ?_
      refine lM rfl rfl rfl ?_
      refine fM rfl ?_
      refine Run.fin rfl (EndOk.go ?_); exact .t (by rw [e])
    · have n2 : ¬ d.kind = 2 := by simpa using h2
      refine fR rfl ?_
      refine Run.cond rfl rfl (fun h3 => ?_) (fun h3 => ?_)
      · have e : emptyF d = ((d.members.length : Int) == 0) := by unfold emptyF; rw [if_neg (by omega), if_pos (.inl (by simpa using h3))]
        skip
        refine Run.condT rfl rfl h3 ?_
        refine fR rfl ?_
        refine lM rfl rfl rfl ?_
        refine fM rfl ?_
        refine Run.fin rfl (EndOk.go ?_); exact .t (by rw [e])
      · have n3 : ¬ d.kind = 3 := by simpa using h3
        refine fR rfl ?_
        refine Run.cond rfl rfl (fun h4 => ?_) (fun h4 => ?_)
        · have e : emptyF d = ((d.members.length : Int) == 0) := by unfold emptyF; rw [if_neg (by omega), if_pos (.inr (by simpa using h4))]
          refine fR rfl ?_
          refine lM rfl rfl rfl ?_
          refine fM rfl ?_
          refine Run.fin rfl (EndOk.go ?_); exact .t (by rw [e])
        · have n4 : ¬ d.kind = 4 := by simpa using h4
          refine fR rfl ?_
          refine Run.cond rfl rfl (fun h5 => ?_) (fun h5 => ?_)
          · have e : emptyF d = ((d.inputs.length : Int) == 0) := by unfold emptyF; rw [if_neg (by omega), if_neg (by omega), if_pos (by simpa using h5)]
            refine fR rfl ?_
            refine lM rfl rfl rfl ?_
            refine fM rfl ?_
            refine Run.fin rfl (EndOk.go ?_); exact .t (by rw [e])
          · have n5 : ¬ d.kind = 5 := by simpa using h5
            refine fR rfl ?_
            refine Run.fin rfl (EndOk.go ?_); exact .t (by unfold emptyF; rw [if_neg (by omega), if_neg (by omega), if_neg n5])
end Go.GB.C11


/-
  F23A: directives: rules as data; what the two checks compute is the same.
-/
namespace Go.GB.C23
open Go.GB Go.GB.C11
set_option linter.unusedSimpArgs false
set_option linter.unusedVariables false
set_option maxRecDepth 100000
set_option maxHeartbeats 2000000

/- sets of fields: parts between spaces -/
def splS : Str → List Str
  | [] => [[]]
  | c :: r => if c = 32 then [] :: splS r else match splS r with
    | h :: t => (c :: h) :: t
    | [] => [[c]]
theorem splS_ne : ∀ s : Str, splS s ≠ []
  | [] => by simp [splS]
  | c :: r => by
    unfold splS
    split
    · simp
    · split <;> simp
theorem splS_none : ∀ {s : Str}, ¬ (32 : UInt8) ∈ s → splS s = [s]
  | [], _ => rfl
  | c :: r, h => by
    have h1 : ¬ c = 32 := fun e => h (by rw [e]; exact List.mem_cons_self ..)
    have h2 := splS_none (s := r) fun e => h (List.mem_cons_of_mem _ e)
    unfold splS
    rw [if_neg h1, h2]
theorem splS_app : ∀ {a b : Str}, ¬ (32 : UInt8) ∈ a → splS (a ++ 32 :: b) = a :: splS b
  | [], b, _ => by simp [splS]
  | c :: r, b, h => by
    have h1 : ¬ c = 32 := fun e => h (by rw [e]; exact List.mem_cons_self ..)
    have h2 := splS_app (a := r) (b := b) fun e => h (List.mem_cons_of_mem _ e)
    rw [List.cons_append, splS, if_neg h1, h2]
theorem splS_len : ∀ s : Str, (splS s).length = s.count 32 + 1
  | [] => rfl
  | c :: r => by
    have ih := splS_len r
    unfold splS
    split
    · rename_i h; subst h; simp [ih]
    · rename_i h
      have : ¬ (32 : UInt8) = c := fun e => h e.symm
      have hne := splS_ne r
      cases hs : splS r with
      | nil => exact absurd hs hne
      | cons x t => rw [hs] at ih; simp at ih ⊢; rw [List.count_cons_of_ne h]; omega
theorem splS_mem : ∀ {s p : Str}, p ∈ splS s → p.length ≤ s.length
  | [], p, h => by simp [splS] at h; subst h; simp
  | c :: r, p, h => by
    unfold splS at h
    split at h
    · rcases List.mem_cons.1 h with rfl | h
      · simp
      · have := splS_mem h; simp; omega
    · cases hs : splS r with
      | nil => exact absurd hs (splS_ne r)
      | cons x t =>
        rw [hs] at h
        have hx := splS_mem (s := r) (p := x) (by rw [hs]; exact List.mem_cons_self ..)
        rcases List.mem_cons.1 h with rfl | h
        · simp; omega
        · have := splS_mem (s := r) (p := p) (by rw [hs]; exact List.mem_cons_of_mem _ h); simp; omega

/- rules -/
structure PRule where
  name : Str
  may : Bool
  k : Nat
structure Rule where
  places : Int
  again : Bool
  params : List PRule
def ruleF (n : Str) : Option Rule :=
  if n = ([107, 101, 121] : Str) then some ⟨1, true, [⟨([102, 105, 101, 108, 100, 115] : Str), false, 0⟩]⟩
  else if n = ([101, 120, 116, 101, 114, 110, 97, 108] : Str) then some ⟨4, false, []⟩
  else if n = ([115, 104, 97, 114, 101, 97, 98, 108, 101] : Str) then some ⟨4, false, []⟩
  else if n = ([105, 110, 97, 99, 99, 101, 115, 115, 105, 98, 108, 101] : Str) then some ⟨4, false, []⟩
  else if n = ([114, 101, 113, 117, 105, 114, 101, 115] : Str) then some ⟨4, false, [⟨([102, 105, 101, 108, 100, 115] : Str), false, 0⟩]⟩
  else if n = ([112, 114, 111, 118, 105, 100, 101, 115] : Str) then some ⟨4, false, [⟨([102, 105, 101, 108, 100, 115] : Str), false, 0⟩]⟩
  else if n = ([116, 97, 103] : Str) then some ⟨31, true, [⟨([110, 97, 109, 101] : Str), false, 1⟩]⟩
  else if n = ([97, 117, 116, 104, 101, 110, 116, 105, 99, 97, 116, 101, 100] : Str) then some ⟨13, false, []⟩
  else if n = ([115, 99, 111, 112, 101, 115] : Str) then some ⟨13, false, [⟨([97, 108, 108] : Str), false, 2⟩]⟩
  else if n = ([99, 111, 115, 116] : Str) then some ⟨12, false, [⟨([119, 101, 105, 103, 104, 116] : Str), false, 3⟩]⟩
  else if n = ([108, 105, 115, 116, 83, 105, 122, 101] : Str) then some ⟨12, false, [⟨([97, 115, 115, 117, 109, 101, 100] : Str), false, 3⟩]⟩
  else if n = ([99, 97, 99, 104, 101, 67, 111, 110, 116, 114, 111, 108] : Str) then some ⟨13, false, [⟨([109, 97, 120, 65, 103, 101] : Str), false, 3⟩, ⟨([112, 114, 105, 118, 97, 116, 101] : Str), true, 4⟩]⟩
  else if n = ([100, 101, 112, 114, 101, 99, 97, 116, 101, 100] : Str) then some ⟨28, false, [⟨([114, 101, 97, 115, 111, 110] : Str), true, 1⟩]⟩
  else none
def kstr (n a : Str) : Str :=
  if n ++ [46] ++ a = [107, 101, 121, 46, 102, 105, 101, 108, 100, 115] then ([115, 101, 116] : Str)
  else if n ++ [46] ++ a = [114, 101, 113, 117, 105, 114, 101, 115, 46, 102, 105, 101, 108, 100, 115] then ([115, 101, 116] : Str)
  else if n ++ [46] ++ a = [112, 114, 111, 118, 105, 100, 101, 115, 46, 102, 105, 101, 108, 100, 115] then ([115, 101, 116] : Str)
  else if n ++ [46] ++ a = [116, 97, 103, 46, 110, 97, 109, 101] then ([116, 101, 120, 116] : Str)
  else if n ++ [46] ++ a = [115, 99, 111, 112, 101, 115, 46, 97, 108, 108] then ([116, 101, 120, 116, 115] : Str)
  else if n ++ [46] ++ a = [99, 111, 115, 116, 46, 119, 101, 105, 103, 104, 116] then ([110, 117, 109, 98, 101, 114] : Str)
  else if n ++ [46] ++ a = [108, 105, 115, 116, 83, 105, 122, 101, 46, 97, 115, 115, 117, 109, 101, 100] then ([110, 117, 109, 98, 101, 114] : Str)
  else if n ++ [46] ++ a = [99, 97, 99, 104, 101, 67, 111, 110, 116, 114, 111, 108, 46, 109, 97, 120, 65, 103, 101] then ([110, 117, 109, 98, 101, 114] : Str)
  else if n ++ [46] ++ a = [99, 97, 99, 104, 101, 67, 111, 110, 116, 114, 111, 108, 46, 112, 114, 105, 118, 97, 116, 101] then ([116, 114, 117, 116, 104] : Str)
  else if n ++ [46] ++ a = [100, 101, 112, 114, 101, 99, 97, 116, 101, 100, 46, 114, 101, 97, 115, 111, 110] then ([116, 101, 120, 116] : Str)
  else []

theorem dotEq {n a x y : Str} (h1 : ¬ (46 : UInt8) ∈ x) (h2 : ¬ (46 : UInt8) ∈ y) : (n ++ [46] ++ a = x ++ [46] ++ y) ↔ (n = x ∧ a = y) := by
  constructor
  · intro h
    rw [List.append_assoc, List.append_assoc, List.append_eq_append_iff] at h
    rcases h with ⟨c, rfl, h⟩ | ⟨c, rfl, h⟩
    · cases c with
      | nil => simp at h; exact ⟨by simp, h⟩
      | cons z c =>
        simp only [List.cons_append, List.nil_append, List.cons.injEq] at h
        exact absurd (by rw [← h.1]; simp) h1
    · cases c with
      | nil => simp at h; exact ⟨by simp, h.symm⟩
      | cons z c =>
        simp only [List.cons_append, List.nil_append, List.cons.injEq] at h
        exact absurd (by rw [h.2]; simp) h2
  · rintro ⟨rfl, rfl⟩; rfl
theorem kd0 (n a : Str) : (n ++ [46] ++ a = [107, 101, 121, 46, 102, 105, 101, 108, 100, 115]) ↔ (n = ([107, 101, 121] : Str) ∧ a = ([102, 105, 101, 108, 100, 115] : Str)) := dotEq (x := ([107, 101, 121] : Str)) (y := ([102, 105, 101, 108, 100, 115] : Str)) (by decide) (by decide)
theorem kd1 (n a : Str) : (n ++ [46] ++ a = [114, 101, 113, 117, 105, 114, 101, 115, 46, 102, 105, 101, 108, 100, 115]) ↔ (n = ([114, 101, 113, 117, 105, 114, 101, 115] : Str) ∧ a = ([102, 105, 101, 108, 100, 115] : Str)) := dotEq (x := ([114, 101, 113, 117, 105, 114, 101, 115] : Str)) (y := ([102, 105, 101, 108, 100, 115] : Str)) (by decide) (by decide)
theorem kd2 (n a : Str) : (n ++ [46] ++ a = [112, 114, 111, 118, 105, 100, 101, 115, 46, 102, 105, 101, 108, 100, 115]) ↔ (n = ([112, 114, 111, 118, 105, 100, 101, 115] : Str) ∧ a = ([102, 105, 101, 108, 100, 115] : Str)) := dotEq (x := ([112, 114, 111, 118, 105, 100, 101, 115] : Str)) (y := ([102, 105, 101, 108, 100, 115] : Str)) (by decide) (by decide)
theorem kd3 (n a : Str) : (n ++ [46] ++ a = [116, 97, 103, 46, 110, 97, 109, 101]) ↔ (n = ([116, 97, 103] : Str) ∧ a = ([110, 97, 109, 101] : Str)) := dotEq (x := ([116, 97, 103] : Str)) (y := ([110, 97, 109, 101] : Str)) (by decide) (by decide)
theorem kd4 (n a : Str) : (n ++ [46] ++ a = [115, 99, 111, 112, 101, 115, 46, 97, 108, 108]) ↔ (n = ([115, 99, 111, 112, 101, 115] : Str) ∧ a = ([97, 108, 108] : Str)) := dotEq (x := ([115, 99, 111, 112, 101, 115] : Str)) (y := ([97, 108, 108] : Str)) (by decide) (by decide)
theorem kd5 (n a : Str) : (n ++ [46] ++ a = [99, 111, 115, 116, 46, 119, 101, 105, 103, 104, 116]) ↔ (n = ([99, 111, 115, 116] : Str) ∧ a = ([119, 101, 105, 103, 104, 116] : Str)) := dotEq (x := ([99, 111, 115, 116] : Str)) (y := ([119, 101, 105, 103, 104, 116] : Str)) (by decide) (by decide)
theorem kd6 (n a : Str) : (n ++ [46] ++ a = [108, 105, 115, 116, 83, 105, 122, 101, 46, 97, 115, 115, 117, 109, 101, 100]) ↔ (n = ([108, 105, 115, 116, 83, 105, 122, 101] : Str) ∧ a = ([97, 115, 115, 117, 109, 101, 100] : Str)) := dotEq (x := ([108, 105, 115, 116, 83, 105, 122, 101] : Str)) (y := ([97, 115, 115, 117, 109, 101, 100] : Str)) (by decide) (by decide)
theorem kd7 (n a : Str) : (n ++ [46] ++ a = [99, 97, 99, 104, 101, 67, 111, 110, 116, 114, 111, 108, 46, 109, 97, 120, 65, 103, 101]) ↔ (n = ([99, 97, 99, 104, 101, 67, 111, 110, 116, 114, 111, 108] : Str) ∧ a = ([109, 97, 120, 65, 103, 101] : Str)) := dotEq (x := ([99, 97, 99, 104, 101, 67, 111, 110, 116, 114, 111, 108] : Str)) (y := ([109, 97, 120, 65, 103, 101] : Str)) (by decide) (by decide)
theorem kd8 (n a : Str) : (n ++ [46] ++ a = [99, 97, 99, 104, 101, 67, 111, 110, 116, 114, 111, 108, 46, 112, 114, 105, 118, 97, 116, 101]) ↔ (n = ([99, 97, 99, 104, 101, 67, 111, 110, 116, 114, 111, 108] : Str) ∧ a = ([112, 114, 105, 118, 97, 116, 101] : Str)) := dotEq (x := ([99, 97, 99, 104, 101, 67, 111, 110, 116, 114, 111, 108] : Str)) (y := ([112, 114, 105, 118, 97, 116, 101] : Str)) (by decide) (by decide)
theorem kd9 (n a : Str) : (n ++ [46] ++ a = [100, 101, 112, 114, 101, 99, 97, 116, 101, 100, 46, 114, 101, 97, 115, 111, 110]) ↔ (n = ([100, 101, 112, 114, 101, 99, 97, 116, 101, 100] : Str) ∧ a = ([114, 101, 97, 115, 111, 110] : Str)) := dotEq (x := ([100, 101, 112, 114, 101, 99, 97, 116, 101, 100] : Str)) (y := ([114, 101, 97, 115, 111, 110] : Str)) (by decide) (by decide)

def hasD (n : Str) (l : List Dir) : Bool := l.any fun d => d.name == n
def argF (a : Str) : List Arg → Option Val
  | [] => none
  | x :: r => if x.name = a then some x.val else argF a r
def findP (a : Str) : List PRule → Option PRule
  | [] => none
  | x :: r => if x.name = a then some x else findP a r
theorem argF_some (a : Str) : ∀ l : List Arg, (argF a l).isSome = l.any fun x => x.name == a
  | [] => rfl
  | x :: r => by
    simp only [argF, List.any_cons]
    split
    · rename_i h; simp [h]
    · rename_i h; rw [argF_some a r]; simp [h]
def kindStr : Nat → Str
  | 0 => ([115, 101, 116] : Str)
  | 1 => ([116, 101, 120, 116] : Str)
  | 2 => ([116, 101, 120, 116, 115] : Str)
  | 3 => ([110, 117, 109, 98, 101, 114] : Str)
  | _ => ([116, 114, 117, 116, 104] : Str)
theorem ruleF_some {n : Str} {r : Rule} (h : ruleF n = some r) : (n = ([107, 101, 121] : Str) ∧ r = ⟨1, true, [⟨([102, 105, 101, 108, 100, 115] : Str), false, 0⟩]⟩) ∨ (n = ([101, 120, 116, 101, 114, 110, 97, 108] : Str) ∧ r = ⟨4, false, []⟩) ∨ (n = ([115, 104, 97, 114, 101, 97, 98, 108, 101] : Str) ∧ r = ⟨4, false, []⟩) ∨ (n = ([105, 110, 97, 99, 99, 101, 115, 115, 105, 98, 108, 101] : Str) ∧ r = ⟨4, false, []⟩) ∨ (n = ([114, 101, 113, 117, 105, 114, 101, 115] : Str) ∧ r = ⟨4, false, [⟨([102, 105, 101, 108, 100, 115] : Str), false, 0⟩]⟩) ∨ (n = ([112, 114, 111, 118, 105, 100, 101, 115] : Str) ∧ r = ⟨4, false, [⟨([102, 105, 101, 108, 100, 115] : Str), false, 0⟩]⟩) ∨ (n = ([116, 97, 103] : Str) ∧ r = ⟨31, true, [⟨([110, 97, 109, 101] : Str), false, 1⟩]⟩) ∨ (n = ([97, 117, 116, 104, 101, 110, 116, 105, 99, 97, 116, 101, 100] : Str) ∧ r = ⟨13, false, []⟩) ∨ (n = ([115, 99, 111, 112, 101, 115] : Str) ∧ r = ⟨13, false, [⟨([97, 108, 108] : Str), false, 2⟩]⟩) ∨ (n = ([99, 111, 115, 116] : Str) ∧ r = ⟨12, false, [⟨([119, 101, 105, 103, 104, 116] : Str), false, 3⟩]⟩) ∨ (n = ([108, 105, 115, 116, 83, 105, 122, 101] : Str) ∧ r = ⟨12, false, [⟨([97, 115, 115, 117, 109, 101, 100] : Str), false, 3⟩]⟩) ∨ (n = ([99, 97, 99, 104, 101, 67, 111, 110, 116, 114, 111, 108] : Str) ∧ r = ⟨13, false, [⟨([109, 97, 120, 65, 103, 101] : Str), false, 3⟩, ⟨([112, 114, 105, 118, 97, 116, 101] : Str), true, 4⟩]⟩) ∨ (n = ([100, 101, 112, 114, 101, 99, 97, 116, 101, 100] : Str) ∧ r = ⟨28, false, [⟨([114, 101, 97, 115, 111, 110] : Str), true, 1⟩]⟩) := by
  unfold ruleF at h
  by_cases e0 : n = ([107, 101, 121] : Str)
  · rw [if_pos e0] at h; exact .inl ⟨e0, (Option.some.inj h).symm⟩
  rw [if_neg e0] at h
  by_cases e1 : n = ([101, 120, 116, 101, 114, 110, 97, 108] : Str)
  · rw [if_pos e1] at h; exact .inr (.inl ⟨e1, (Option.some.inj h).symm⟩)
  rw [if_neg e1] at h
  by_cases e2 : n = ([115, 104, 97, 114, 101, 97, 98, 108, 101] : Str)
  · rw [if_pos e2] at h; exact .inr (.inr (.inl ⟨e2, (Option.some.inj h).symm⟩))
  rw [if_neg e2] at h
  by_cases e3 : n = ([105, 110, 97, 99, 99, 101, 115, 115, 105, 98, 108, 101] : Str)
  · rw [if_pos e3] at h; exact .inr (.inr (.inr (.inl ⟨e3, (Option.some.inj h).symm⟩)))
  rw [if_neg e3] at h
  by_cases e4 : n = ([114, 101, 113, 117, 105, 114, 101, 115] : Str)
  · rw [if_pos e4] at h; exact .inr (.inr (.inr (.inr (.inl ⟨e4, (Option.some.inj h).symm⟩))))
  rw [if_neg e4] at h
  by_cases e5 : n = ([112, 114, 111, 118, 105, 100, 101, 115] : Str)
  · rw [if_pos e5] at h; exact .inr (.inr (.inr (.inr (.inr (.inl ⟨e5, (Option.some.inj h).symm⟩)))))
  rw [if_neg e5] at h
  by_cases e6 : n = ([116, 97, 103] : Str)
  · rw [if_pos e6] at h; exact .inr (.inr (.inr (.inr (.inr (.inr (.inl ⟨e6, (Option.some.inj h).symm⟩))))))
  rw [if_neg e6] at h
  by_cases e7 : n = ([97, 117, 116, 104, 101, 110, 116, 105, 99, 97, 116, 101, 100] : Str)
  · rw [if_pos e7] at h; exact .inr (.inr (.inr (.inr (.inr (.inr (.inr (.inl ⟨e7, (Option.some.inj h).symm⟩)))))))
  rw [if_neg e7] at h
  by_cases e8 : n = ([115, 99, 111, 112, 101, 115] : Str)
  · rw [if_pos e8] at h; exact .inr (.inr (.inr (.inr (.inr (.inr (.inr (.inr (.inl ⟨e8, (Option.some.inj h).symm⟩))))))))
  rw [if_neg e8] at h
  by_cases e9 : n = ([99, 111, 115, 116] : Str)
  · rw [if_pos e9] at h; exact .inr (.inr (.inr (.inr (.inr (.inr (.inr (.inr (.inr (.inl ⟨e9, (Option.some.inj h).symm⟩)))))))))
  rw [if_neg e9] at h
  by_cases e10 : n = ([108, 105, 115, 116, 83, 105, 122, 101] : Str)
  · rw [if_pos e10] at h; exact .inr (.inr (.inr (.inr (.inr (.inr (.inr (.inr (.inr (.inr (.inl ⟨e10, (Option.some.inj h).symm⟩))))))))))
  rw [if_neg e10] at h
  by_cases e11 : n = ([99, 97, 99, 104, 101, 67, 111, 110, 116, 114, 111, 108] : Str)
  · rw [if_pos e11] at h; exact .inr (.inr (.inr (.inr (.inr (.inr (.inr (.inr (.inr (.inr (.inr (.inl ⟨e11, (Option.some.inj h).symm⟩)))))))))))
  rw [if_neg e11] at h
  by_cases e12 : n = ([100, 101, 112, 114, 101, 99, 97, 116, 101, 100] : Str)
  · rw [if_pos e12] at h; exact .inr (.inr (.inr (.inr (.inr (.inr (.inr (.inr (.inr (.inr (.inr (.inr (⟨e12, (Option.some.inj h).symm⟩))))))))))))
  rw [if_neg e12] at h
  cases h
theorem kstr_eq {n : Str} {r : Rule} (h : ruleF n = some r) (a : Str) : kstr n a = match findP a r.params with | some p => kindStr p.k | none => [] := by
  by_cases a0 : a = ([102, 105, 101, 108, 100, 115] : Str)
  · subst a0
    rcases ruleF_some h with ⟨rfl, rfl⟩ | ⟨rfl, rfl⟩ | ⟨rfl, rfl⟩ | ⟨rfl, rfl⟩ | ⟨rfl, rfl⟩ | ⟨rfl, rfl⟩ | ⟨rfl, rfl⟩ | ⟨rfl, rfl⟩ | ⟨rfl, rfl⟩ | ⟨rfl, rfl⟩ | ⟨rfl, rfl⟩ | ⟨rfl, rfl⟩ | ⟨rfl, rfl⟩ <;> rfl
  have b0 : ¬ ([102, 105, 101, 108, 100, 115] : Str) = a := fun e => a0 e.symm
  by_cases a1 : a = ([110, 97, 109, 101] : Str)
  · subst a1
    rcases ruleF_some h with ⟨rfl, rfl⟩ | ⟨rfl, rfl⟩ | ⟨rfl, rfl⟩ | ⟨rfl, rfl⟩ | ⟨rfl, rfl⟩ | ⟨rfl, rfl⟩ | ⟨rfl, rfl⟩ | ⟨rfl, rfl⟩ | ⟨rfl, rfl⟩ | ⟨rfl, rfl⟩ | ⟨rfl, rfl⟩ | ⟨rfl, rfl⟩ | ⟨rfl, rfl⟩ <;> rfl
  have b1 : ¬ ([110, 97, 109, 101] : Str) = a := fun e => a1 e.symm
  by_cases a2 : a = ([97, 108, 108] : Str)
  · subst a2
    rcases ruleF_some h with ⟨rfl, rfl⟩ | ⟨rfl, rfl⟩ | ⟨rfl, rfl⟩ | ⟨rfl, rfl⟩ | ⟨rfl, rfl⟩ | ⟨rfl, rfl⟩ | ⟨rfl, rfl⟩ | ⟨rfl, rfl⟩ | ⟨rfl, rfl⟩ | ⟨rfl, rfl⟩ | ⟨rfl, rfl⟩ | ⟨rfl, rfl⟩ | ⟨rfl, rfl⟩ <;> rfl
  have b2 : ¬ ([97, 108, 108] : Str) = a := fun e => a2 e.symm
  by_cases a3 : a = ([119, 101, 105, 103, 104, 116] : Str)
  · subst a3
    rcases ruleF_some h with ⟨rfl, rfl⟩ | ⟨rfl, rfl⟩ | ⟨rfl, rfl⟩ | ⟨rfl, rfl⟩ | ⟨rfl, rfl⟩ | ⟨rfl, rfl⟩ | ⟨rfl, rfl⟩ | ⟨rfl, rfl⟩ | ⟨rfl, rfl⟩ | ⟨rfl, rfl⟩ | ⟨rfl, rfl⟩ | ⟨rfl, rfl⟩ | ⟨rfl, rfl⟩ <;> rfl
  have b3 : ¬ ([119, 101, 105, 103, 104, 116] : Str) = a := fun e => a3 e.symm
  by_cases a4 : a = ([97, 115, 115, 117, 109, 101, 100] : Str)
  · subst a4
    rcases ruleF_some h with ⟨rfl, rfl⟩ | ⟨rfl, rfl⟩ | ⟨rfl, rfl⟩ | ⟨rfl, rfl⟩ | ⟨rfl, rfl⟩ | ⟨rfl, rfl⟩ | ⟨rfl, rfl⟩ | ⟨rfl, rfl⟩ | ⟨rfl, rfl⟩ | ⟨rfl, rfl⟩ | ⟨rfl, rfl⟩ | ⟨rfl, rfl⟩ | ⟨rfl, rfl⟩ <;> rfl
  have b4 : ¬ ([97, 115, 115, 117, 109, 101, 100] : Str) = a := fun e => a4 e.symm
  by_cases a5 : a = ([109, 97, 120, 65, 103, 101] : Str)
  · subst a5
    rcases ruleF_some h with ⟨rfl, rfl⟩ | ⟨rfl, rfl⟩ | ⟨rfl, rfl⟩ | ⟨rfl, rfl⟩ | ⟨rfl, rfl⟩ | ⟨rfl, rfl⟩ | ⟨rfl, rfl⟩ | ⟨rfl, rfl⟩ | ⟨rfl, rfl⟩ | ⟨rfl, rfl⟩ | ⟨rfl, rfl⟩ | ⟨rfl, rfl⟩ | ⟨rfl, rfl⟩ <;> rfl
  have b5 : ¬ ([109, 97, 120, 65, 103, 101] : Str) = a := fun e => a5 e.symm
  by_cases a6 : a = ([112, 114, 105, 118, 97, 116, 101] : Str)
  · subst a6
    rcases ruleF_some h with ⟨rfl, rfl⟩ | ⟨rfl, rfl⟩ | ⟨rfl, rfl⟩ | ⟨rfl, rfl⟩ | ⟨rfl, rfl⟩ | ⟨rfl, rfl⟩ | ⟨rfl, rfl⟩ | ⟨rfl, rfl⟩ | ⟨rfl, rfl⟩ | ⟨rfl, rfl⟩ | ⟨rfl, rfl⟩ | ⟨rfl, rfl⟩ | ⟨rfl, rfl⟩ <;> rfl
  have b6 : ¬ ([112, 114, 105, 118, 97, 116, 101] : Str) = a := fun e => a6 e.symm
  by_cases a7 : a = ([114, 101, 97, 115, 111, 110] : Str)
  · subst a7
    rcases ruleF_some h with ⟨rfl, rfl⟩ | ⟨rfl, rfl⟩ | ⟨rfl, rfl⟩ | ⟨rfl, rfl⟩ | ⟨rfl, rfl⟩ | ⟨rfl, rfl⟩ | ⟨rfl, rfl⟩ | ⟨rfl, rfl⟩ | ⟨rfl, rfl⟩ | ⟨rfl, rfl⟩ | ⟨rfl, rfl⟩ | ⟨rfl, rfl⟩ | ⟨rfl, rfl⟩ <;> rfl
  have b7 : ¬ ([114, 101, 97, 115, 111, 110] : Str) = a := fun e => a7 e.symm
  unfold kstr
  simp only [kd0, kd1, kd2, kd3, kd4, kd5, kd6, kd7, kd8, kd9]
  rcases ruleF_some h with ⟨rfl, rfl⟩ | ⟨rfl, rfl⟩ | ⟨rfl, rfl⟩ | ⟨rfl, rfl⟩ | ⟨rfl, rfl⟩ | ⟨rfl, rfl⟩ | ⟨rfl, rfl⟩ | ⟨rfl, rfl⟩ | ⟨rfl, rfl⟩ | ⟨rfl, rfl⟩ | ⟨rfl, rfl⟩ | ⟨rfl, rfl⟩ | ⟨rfl, rfl⟩ <;> simp only [findP, a0, b0, a1, b1, a2, b2, a3, b3, a4, b4, a5, b5, a6, b6, a7, b7, and_false, if_false]
def badA (ps : List PRule) : List Arg → List Arg → Bool
  | _, [] => false
  | pre, x :: r => ((findP x.name ps).isNone || (argF x.name pre).isSome) || badA ps (pre ++ [x]) r
def missA (ps : List PRule) (l : List Arg) : Bool := ps.any fun p => !(argF p.name l).isSome && !p.may
def dupS : List Str → List Str → Bool
  | _, [] => false
  | pre, x :: r => decide (x ∈ pre) || dupS (pre ++ [x]) r
def setL (l : List Str) : List Str × Int :=
  if l.any (fun x => !nameF x || resF x) = true then ([], 3)
  else if l.length > 4 then ([], 4)
  else if dupS [] l = true then ([], 7)
  else (l, 0)
def setF (s : Str) : List Str × Int := setL (splS s)
def fitsK : Nat → Val → Bool
  | 0, v => v.kind == 3 && (setF v.text).2 == 0
  | 1, v => v.kind == 3
  | 2, v => v.kind == 5 && v.items.all fun x => x.kind == 3
  | 3, v => (v.kind == 2 && decide (0 ≤ v.int)) && decide (v.int < 2147483648)
  | _, v => v.kind == 1
def unfitA (ps : List PRule) (l : List Arg) : Bool := l.any fun x => match findP x.name ps with | some p => !fitsK p.k x.val | none => false
def argsE (ps : List PRule) (l : List Arg) : Int := if badA ps [] l = true then 22 else if missA ps l = true then 22 else if unfitA ps l = true then 23 else 0
/-- is this one of the places? -/
def atP (ps pl : Int) : Bool := andI .i64 ps pl != 0
def judgeF (pre : List Dir) (x : Dir) (place : Int) : Int := match ruleF x.name with
  | none => 29
  | some r => if atP r.places place = false then 29 else if (!r.again && hasD x.name pre) = true then 7 else argsE r.params x.args
def usesF (place : Int) (at_ : Str) : List Dir → List Dir → List Fault
  | _, [] => []
  | pre, x :: r => (if judgeF pre x place = 0 then [] else [⟨judgeF pre x place, at_⟩]) ++ usesF place at_ (pre ++ [x]) r

/- the reference's side -/
def needF (n : Str) : Str :=
  if n = ([107, 101, 121] : Str) ∨ n = ([114, 101, 113, 117, 105, 114, 101, 115] : Str) ∨ n = ([112, 114, 111, 118, 105, 100, 101, 115] : Str) then ([102, 105, 101, 108, 100, 115] : Str)
  else if n = ([116, 97, 103] : Str) then ([110, 97, 109, 101] : Str)
  else if n = ([115, 99, 111, 112, 101, 115] : Str) then ([97, 108, 108] : Str)
  else if n = ([99, 111, 115, 116] : Str) then ([119, 101, 105, 103, 104, 116] : Str)
  else if n = ([108, 105, 115, 116, 83, 105, 122, 101] : Str) then ([97, 115, 115, 117, 109, 101, 100] : Str)
  else if n = ([99, 97, 99, 104, 101, 67, 111, 110, 116, 114, 111, 108] : Str) then ([109, 97, 120, 65, 103, 101] : Str)
  else []
theorem needF_eq {n : Str} {r : Rule} (h : ruleF n = some r) (l : List Arg) : missA r.params l = (needF n != [] && !(argF (needF n) l).isSome) := by
  rcases ruleF_some h with ⟨rfl, rfl⟩ | ⟨rfl, rfl⟩ | ⟨rfl, rfl⟩ | ⟨rfl, rfl⟩ | ⟨rfl, rfl⟩ | ⟨rfl, rfl⟩ | ⟨rfl, rfl⟩ | ⟨rfl, rfl⟩ | ⟨rfl, rfl⟩ | ⟨rfl, rfl⟩ | ⟨rfl, rfl⟩ | ⟨rfl, rfl⟩ | ⟨rfl, rfl⟩
  all_goals simp [missA, needF]
def fitsS (v : Val) (t : Str) : Bool :=
  if t = ([115, 101, 116] : Str) then v.kind == 3 && (setF v.text).2 == 0
  else if t = ([116, 101, 120, 116] : Str) then v.kind == 3
  else if t = ([116, 114, 117, 116, 104] : Str) then v.kind == 1
  else if t = ([110, 117, 109, 98, 101, 114] : Str) then (v.kind == 2 && decide (0 ≤ v.int)) && decide (v.int ≤ 2147483647)
  else v.items.all (fun x => x.kind == 3) && v.kind == 5
theorem fits_eq (k : Nat) (v : Val) : fitsS v (kindStr k) = fitsK k v := by
  match k with
  | 0 => simp [fitsS, kindStr, fitsK]
  | 1 => simp [fitsS, kindStr, fitsK]
  | 2 => simp [fitsS, kindStr, fitsK, Bool.and_comm]
  | 3 =>
    have : decide (v.int ≤ 2147483647) = decide (v.int < 2147483648) := by by_cases h : v.int ≤ 2147483647 <;> simp [h] <;> omega
    simp [fitsS, kindStr, fitsK, this]
  | n + 4 => simp [fitsS, kindStr, fitsK]
def badR (n : Str) : List Arg → List Arg → Bool
  | _, [] => false
  | pre, x :: r => (kstr n x.name == [] || (pre.any fun y => y.name == x.name)) || badR n (pre ++ [x]) r
theorem kindStr_ne (k : Nat) : kindStr k ≠ [] := by
  unfold kindStr; split <;> simp
theorem badR_eq {n : Str} {r : Rule} (h : ruleF n = some r) : ∀ (l pre : List Arg), badR n pre l = badA r.params pre l
  | [], _ => rfl
  | x :: l, pre => by
    simp only [badR, badA]
    rw [badR_eq h l, kstr_eq h, argF_some]
    cases findP x.name r.params with
    | none => simp
    | some p =>
      have := kindStr_ne p.k
      have h2 : (kindStr p.k == []) = false := by simpa using this
      simp only [h2]; rfl
def unfitR (n : Str) (l : List Arg) : Bool := l.any fun x => !fitsS x.val (kstr n x.name)
theorem bad_found {ps : List PRule} : ∀ {l pre : List Arg}, badA ps pre l = false → ∀ x, x ∈ l → (findP x.name ps).isSome = true
  | [], _, _, x, h => by cases h
  | y :: l, pre, h, x, hx => by
    simp only [badA, Bool.or_eq_false_iff] at h
    rcases List.mem_cons.1 hx with rfl | hx
    · have := h.1.1
      cases hf : findP x.name ps with
      | none => rw [hf] at this; simp at this
      | some p => rfl
    · exact bad_found h.2 x hx
def argsR (n : Str) (l : List Arg) : Int := if badR n [] l = true then 22 else if (needF n != [] && !(argF (needF n) l).isSome) = true then 22 else if unfitR n l = true then 23 else 0
theorem any_congr' {α : Type} {f g : α → Bool} : ∀ {l : List α}, (∀ x, x ∈ l → f x = g x) → l.any f = l.any g
  | [], _ => rfl
  | x :: l, h => by rw [List.any_cons, List.any_cons, h x (List.mem_cons_self ..), any_congr' fun y hy => h y (List.mem_cons_of_mem _ hy)]
theorem argsR_eq {n : Str} {r : Rule} (h : ruleF n = some r) (l : List Arg) : argsR n l = argsE r.params l := by
  unfold argsR argsE
  rw [badR_eq h, ← needF_eq h]
  by_cases hb : badA r.params [] l = true
  · rw [if_pos hb, if_pos hb]
  · rw [if_neg hb, if_neg hb]
    have hb' : badA r.params [] l = false := by simpa using hb
    have e : unfitR n l = unfitA r.params l := by
      unfold unfitR unfitA
      refine any_congr' fun x hx => ?_
      have := bad_found hb' x hx
      rw [kstr_eq h]
      cases hf : findP x.name r.params with
      | none => rw [hf] at this; cases this
      | some p => simp only []; rw [fits_eq]
    rw [e]
/-- the reference's places -/
def mayF (n : Str) (p : Int) : Bool :=
  if n = ([107, 101, 121] : Str) then p == 1
  else if n = ([101, 120, 116, 101, 114, 110, 97, 108] : Str) ∨ n = ([115, 104, 97, 114, 101, 97, 98, 108, 101] : Str) ∨ n = ([105, 110, 97, 99, 99, 101, 115, 115, 105, 98, 108, 101] : Str) ∨ n = ([114, 101, 113, 117, 105, 114, 101, 115] : Str) ∨ n = ([112, 114, 111, 118, 105, 100, 101, 115] : Str) then p == 3
  else if n = ([116, 97, 103] : Str) then p != 6
  else if n = ([97, 117, 116, 104, 101, 110, 116, 105, 99, 97, 116, 101, 100] : Str) ∨ n = ([115, 99, 111, 112, 101, 115] : Str) ∨ n = ([99, 97, 99, 104, 101, 67, 111, 110, 116, 114, 111, 108] : Str) then (p == 3 || p == 4) || p == 1
  else if n = ([99, 111, 115, 116] : Str) ∨ n = ([108, 105, 115, 116, 83, 105, 122, 101] : Str) then p == 3 || p == 4
  else if n = ([100, 101, 112, 114, 101, 99, 97, 116, 101, 100] : Str) then (p == 3 || p == 4) || p == 5
  else false
/-- a place in the program's and in the reference's numbers -/
def plR : Nat → Int × Int
  | 0 => (1, 1)
  | 1 => (2, 2)
  | 2 => (4, 3)
  | 3 => (8, 4)
  | 4 => (16, 5)
  | _ => (0, 6)
theorem may_eq (n : Str) (i : Nat) : mayF n (plR i).2 = match ruleF n with | some r => atP r.places (plR i).1 | none => false := by
  by_cases e0 : n = ([107, 101, 121] : Str)
  · subst e0
    match i with
    | 0 => rfl
    | 1 => rfl
    | 2 => rfl
    | 3 => rfl
    | 4 => rfl
    | k + 5 => rw [show plR (k + 5) = (0, 6) from rfl]; rfl
  by_cases e1 : n = ([101, 120, 116, 101, 114, 110, 97, 108] : Str)
  · subst e1
    match i with
    | 0 => rfl
    | 1 => rfl
    | 2 => rfl
    | 3 => rfl
    | 4 => rfl
    | k + 5 => rw [show plR (k + 5) = (0, 6) from rfl]; rfl
  by_cases e2 : n = ([115, 104, 97, 114, 101, 97, 98, 108, 101] : Str)
  · subst e2
    match i with
    | 0 => rfl
    | 1 => rfl
    | 2 => rfl
    | 3 => rfl
    | 4 => rfl
    | k + 5 => rw [show plR (k + 5) = (0, 6) from rfl]; rfl
  by_cases e3 : n = ([105, 110, 97, 99, 99, 101, 115, 115, 105, 98, 108, 101] : Str)
  · subst e3
    match i with
    | 0 => rfl
    | 1 => rfl
    | 2 => rfl
    | 3 => rfl
    | 4 => rfl
    | k + 5 => rw [show plR (k + 5) = (0, 6) from rfl]; rfl
  by_cases e4 : n = ([114, 101, 113, 117, 105, 114, 101, 115] : Str)
  · subst e4
    match i with
    | 0 => rfl
    | 1 => rfl
    | 2 => rfl
    | 3 => rfl
    | 4 => rfl
    | k + 5 => rw [show plR (k + 5) = (0, 6) from rfl]; rfl
  by_cases e5 : n = ([112, 114, 111, 118, 105, 100, 101, 115] : Str)
  · subst e5
    match i with
    | 0 => rfl
    | 1 => rfl
    | 2 => rfl
    | 3 => rfl
    | 4 => rfl
    | k + 5 => rw [show plR (k + 5) = (0, 6) from rfl]; rfl
  by_cases e6 : n = ([116, 97, 103] : Str)
  · subst e6
    match i with
    | 0 => rfl
    | 1 => rfl
    | 2 => rfl
    | 3 => rfl
    | 4 => rfl
    | k + 5 => rw [show plR (k + 5) = (0, 6) from rfl]; rfl
  by_cases e7 : n = ([97, 117, 116, 104, 101, 110, 116, 105, 99, 97, 116, 101, 100] : Str)
  · subst e7
    match i with
    | 0 => rfl
    | 1 => rfl
    | 2 => rfl
    | 3 => rfl
    | 4 => rfl
    | k + 5 => rw [show plR (k + 5) = (0, 6) from rfl]; rfl
  by_cases e8 : n = ([115, 99, 111, 112, 101, 115] : Str)
  · subst e8
    match i with
    | 0 => rfl
    | 1 => rfl
    | 2 => rfl
    | 3 => rfl
    | 4 => rfl
    | k + 5 => rw [show plR (k + 5) = (0, 6) from rfl]; rfl
  by_cases e9 : n = ([99, 111, 115, 116] : Str)
  · subst e9
    match i with
    | 0 => rfl
    | 1 => rfl
    | 2 => rfl
    | 3 => rfl
    | 4 => rfl
    | k + 5 => rw [show plR (k + 5) = (0, 6) from rfl]; rfl
  by_cases e10 : n = ([108, 105, 115, 116, 83, 105, 122, 101] : Str)
  · subst e10
    match i with
    | 0 => rfl
    | 1 => rfl
    | 2 => rfl
    | 3 => rfl
    | 4 => rfl
    | k + 5 => rw [show plR (k + 5) = (0, 6) from rfl]; rfl
  by_cases e11 : n = ([99, 97, 99, 104, 101, 67, 111, 110, 116, 114, 111, 108] : Str)
  · subst e11
    match i with
    | 0 => rfl
    | 1 => rfl
    | 2 => rfl
    | 3 => rfl
    | 4 => rfl
    | k + 5 => rw [show plR (k + 5) = (0, 6) from rfl]; rfl
  by_cases e12 : n = ([100, 101, 112, 114, 101, 99, 97, 116, 101, 100] : Str)
  · subst e12
    match i with
    | 0 => rfl
    | 1 => rfl
    | 2 => rfl
    | 3 => rfl
    | 4 => rfl
    | k + 5 => rw [show plR (k + 5) = (0, 6) from rfl]; rfl
  simp only [mayF, ruleF, e0, e1, e2, e3, e4, e5, e6, e7, e8, e9, e10, e11, e12, if_false, or_false]
def codeR (pre : List Dir) (x : Dir) (p : Int) : Int :=
  if mayF x.name p = false then 29 else if ((hasD x.name pre && x.name != ([107, 101, 121] : Str)) && x.name != ([116, 97, 103] : Str)) = true then 7 else argsR x.name x.args
theorem again_eq {n : Str} {r : Rule} (h : ruleF n = some r) (b : Bool) : ((b && n != ([107, 101, 121] : Str)) && n != ([116, 97, 103] : Str)) = (!r.again && b) := by
  rcases ruleF_some h with ⟨rfl, rfl⟩ | ⟨rfl, rfl⟩ | ⟨rfl, rfl⟩ | ⟨rfl, rfl⟩ | ⟨rfl, rfl⟩ | ⟨rfl, rfl⟩ | ⟨rfl, rfl⟩ | ⟨rfl, rfl⟩ | ⟨rfl, rfl⟩ | ⟨rfl, rfl⟩ | ⟨rfl, rfl⟩ | ⟨rfl, rfl⟩ | ⟨rfl, rfl⟩
  all_goals (cases b <;> rfl)
theorem code_eq (pre : List Dir) (x : Dir) (i : Nat) : codeR pre x (plR i).2 = judgeF pre x (plR i).1 := by
  unfold codeR judgeF
  rw [may_eq]
  cases h : ruleF x.name with
  | none => simp
  | some r =>
    simp only []
    rw [again_eq h, argsR_eq h]
end Go.GB.C23


/-
  F23B: directives: violations of documents, and their laws.
-/
namespace Go.GB.C23
open Go.GB Go.GB.C11
set_option linter.unusedSimpArgs false
set_option linter.unusedVariables false
set_option maxRecDepth 100000
set_option maxHeartbeats 2000000

def argL (at_ : Str) : List Input → List Fault
  | [] => []
  | a :: r => usesF 0 (at_ ++ [40] ++ a.name ++ [41]) [] a.dirs ++ argL at_ r
def fldL (n : Str) (pl : Int) : List Field → List Fault
  | [] => []
  | f :: r => (usesF pl (n ++ [46] ++ f.name) [] f.dirs ++ argL (n ++ [46] ++ f.name) f.args) ++ fldL n pl r
def memL (n : Str) (pl : Int) : List Member → List Fault
  | [] => []
  | m :: r => usesF pl (n ++ [46] ++ m.name) [] m.dirs ++ memL n pl r
def inpL (n : Str) : List Input → List Fault
  | [] => []
  | a :: r => usesF 0 (n ++ [46] ++ a.name) [] a.dirs ++ inpL n r
def ownP (k : Int) : Int := if k = 1 then 1 else 2
def partL (t : Def) : List Fault :=
  if t.kind = 1 then fldL t.name 4 t.fields
  else if t.kind = 2 then fldL t.name 8 t.fields
  else if t.kind = 3 then memL t.name 0 t.members
  else if t.kind = 4 then memL t.name 16 t.members
  else if t.kind = 5 then inpL t.name t.inputs
  else []
def defL (t : Def) : List Fault := usesF (ownP t.kind) t.name [] t.dirs ++ partL t
def chkD : List Def → List Fault
  | [] => []
  | t :: r => defL t ++ chkD r
theorem usesF_len (pl : Int) (at_ : Str) : ∀ (l pre : List Dir), (usesF pl at_ pre l).length ≤ l.length
  | [], _ => by simp [usesF]
  | x :: r, pre => by
    have := usesF_len pl at_ r (pre ++ [x])
    simp only [usesF, List.length_append, List.length_cons]
    split <;> simp <;> omega

/- without the directives of subgraphs -/
end Go.GB.C23


/-
  D11T: contracts of chapter 11's functions: inputs that contain themselves.
-/
namespace Go.GB.C11
open Go.GB
set_option linter.unusedSimpArgs false
set_option linter.unusedVariables false
set_option maxRecDepth 100000
set_option maxHeartbeats 2000000
variable {P : Program}

theorem findDef_name {n : Str} : ∀ {l : List Def} {d : Def}, findDef n l = some d → d.name = n
  | [], d, h => by simp [findDef] at h
  | x :: r, d, h => by
    simp only [findDef] at h
    split at h
    · rename_i hx; cases h; simpa using hx
    · exact findDef_name h
theorem has_ok (H : Pr P) (l : List Str) (hl : l.length ≤ 140737488355328) (s : Str) : FnOk P 124 [.t (.lst (l.map sE)), .t (.str s)] ⟨[], 0⟩ { v := .t (.bool (decide (s ∈ l))) } := by
  refine FnOk.run H.i124 H.mixed rfl rfl ?_
  refine fR rfl ?_
  refine rList l (fun i (_ : Unit) => { env := [(0, .t (.lst (l.map sE))), (1, .t (.str s)), (5, .t (.int .i64 i))], s := ⟨[], 0⟩ }) (fun r i _ => decide (s ∈ l) = decide (s ∈ r)) 0 () rfl rfl rfl rfl rfl ?_ ?_
  · intro _ hinv
    refine fR rfl ?_
    refine lM rfl rfl rfl ?_
    refine fM rfl ?_
    refine Run.condF rfl rfl (by simp) ?_
    refine fR rfl ?_
    refine Run.fin rfl (EndOk.go ?_); exact .t (by rw [hinv]; simp)
  · intro i x r _ h1 hi hd hinv ih
    refine fR rfl ?_
    refine lM rfl rfl rfl ?_
    refine fM rfl ?_
    refine Run.condT rfl rfl (by simp; omega) ?_
    refine fR rfl ?_
    refine Mid.elemMap rfl rfl rfl h1 rfl rfl ?_
    refine fM rfl ?_
    refine Run.cond rfl rfl (fun h => ?_) (fun h => ?_)
    · have h' : x = s := by simpa using h
      refine fR rfl ?_
      refine Run.fin rfl (EndOk.go ?_); exact .t (by rw [hinv]; simp [h'])
    · have h' : ¬ x = s := by simpa using h
      have h2 : ¬ s = x := fun e => h' e.symm
      refine fR rfl ?_
      refine aL rfl rfl rfl rfl rfl ?_
      refine fM rfl ?_
      exact rWeak 0 rfl (ih () (by rw [hinv]; simp [h2])) rfl rfl rfl
def dirF : List Int → Bool
  | [] => false
  | w :: r => ((w :: r).length : Int) == 1 && w == 1
theorem direct_ok (H : Pr P) (t : Ref) : FnOk P 134 [t.v] ⟨[], 0⟩ { v := .t (.bool (dirF t.wraps)) } := by
  obtain ⟨n, ws⟩ := t
  match ws with
  | [] =>
    refine FnOk.run H.i134 H.mixed rfl rfl ?_
    refine fR rfl ?_
    refine lM rfl rfl rfl ?_
    refine fM rfl ?_
    refine Mid.grdF rfl rfl rfl rfl rfl ?_
    refine Mid.grdF rfl rfl rfl rfl rfl ?_
    refine Mid.grdF rfl rfl rfl rfl rfl ?_
    refine fM rfl ?_
    refine Run.fin rfl (EndOk.go ?_); exact .t rfl
  | w :: r =>
    have h1 : (w :: r)[0]? = some w := rfl
    refine FnOk.run H.i134 H.mixed rfl rfl ?_
    refine fR rfl ?_
    refine lM rfl rfl rfl ?_
    refine fM rfl ?_
    refine gr rfl ?_
    refine fM rfl ?_
    refine Run.fin rfl (EndOk.go ?_); exact .t rfl
def nextC (ds : List Def) (nm : Str) (x : Input) (l : List Str) : Bool :=
  dirF x.ty.wraps && (x.ty.name == nm || ((findDef x.ty.name ds).isSome && ((findDef x.ty.name ds).getD Def.zero).kind == 5)) && !decide (x.ty.name ∈ l)
def nextF (ds : List Def) (nm : Str) : List Input → List Str → List Str
  | [], l => l
  | x :: r, l => nextF ds nm r (if nextC ds nm x l = true then l ++ [x.ty.name] else l)
theorem next0_ok (H : Pr P) (ds : List Def) (hD : DocOk ds) (d : Def) (hd : d.Ok) (nm : Str) (hl : d.inputs.length ≤ 4398046511104) :
    FnOk P 123 [docV ds, d.v, .t (.str nm), .nils] ⟨[], 0⟩ { v := .own 2 1 ((nextF ds nm d.inputs []).map sE), ob := [(2, .arr (nextF ds nm d.inputs []).length)], n := 3 } := by
  refine FnOk.run H.i123 H.mixed rfl rfl ?_
  refine fR rfl ?_
  refine rList d.inputs (fun i (B : List Str) => { env := [(2, .t (.str nm)), (3, .own 2 1 (B.map sE)), (4, .ptr 0 0), (5, .ptr 1 0), (9, .t (.int .i64 i))], s := ⟨[(0, .cells [.t (.lst (ds.map Def.enc))]), (1, .cells [.t (.int .i64 d.kind), .t (.str d.name), .t (.lst (d.implements.map sE)), .t (.lst (d.dirs.map Dir.enc)), .t (.lst (d.fields.map Field.enc)), .t (.lst (d.members.map Member.enc)), .t (.lst (d.inputs.map Input.enc))]), (2, .arr B.length)], 3⟩ }) (fun r i B => B.length + r.length ≤ 4398046511104 ∧ nextF ds nm d.inputs [] = nextF ds nm r B) 2 [] rfl ⟨by simpa using hl, rfl⟩ rfl rfl rfl ?_ ?_
  · rintro B ⟨_, hB⟩
    have hB' : nextF ds nm d.inputs [] = B := hB
    rw [hB']
    refine fR rfl ?_
    refine lM rfl rfl rfl ?_
    refine fM rfl ?_
    refine Run.condF rfl rfl (by simp) ?_
    refine fR rfl ?_
    refine Run.fin rfl (EndOk.chg rfl rfl ?_ ?_)
    · exact .le (.same rfl)
    · exact (by repeat' (first | exact trivial | exact LeX.t | exact LeX.top | exact LeX.nilOwn (Nat.le_of_ble_eq_true rfl) (Nat.le_of_ble_eq_true rfl) | exact LeX.ownT | exact LeX.nilT | exact LeX.same rfl | exact LeX.tEq (by simp) | exact LeX.ownEq (by simp) (Nat.le_of_ble_eq_true rfl) | exact LeX.tEq (by congr 1 <;> omega) | exact Or.inr ⟨Nat.le_of_ble_eq_true rfl, Nat.le_of_ble_eq_true rfl, rfl⟩ | refine Or.inl ⟨Nat.le_of_ble_eq_true rfl, _, rfl, ?_⟩ | refine LeO.cells ?_ | exact LeO.arr rfl | exact LeO.arr (by simp) | exact LeO.mE (by first | rfl | simp) (by first | exact Or.inl rfl | exact Or.inr rfl) | exact LeO.cE (by first | rfl | simp) | exact LeXs.cE (by first | rfl | simp) | refine LeO.map (by first | rfl | simp) ?_ (by first | exact Or.inl rfl | exact Or.inr rfl) | exact LeO.iter (by first | rfl | simp) (Nat.le_of_ble_eq_true rfl) | refine LeXs.cons ?_ ?_ | exact LeXs.nil | refine And.intro ?_ ?_))
  · rintro i x r B h1 hi hdr ⟨hlB, hB⟩ ih
    simp only [List.length_cons] at hlB
    have hx := hd.n x (List.mem_of_getElem? h1)
    refine fR rfl ?_
    refine lM rfl rfl rfl ?_
    refine fM rfl ?_
    refine Run.condT rfl rfl (by simp; omega) ?_
    refine fR rfl ?_
    refine Mid.elemMap rfl rfl rfl h1 rfl rfl ?_
    refine fM rfl ?_
    refine Mid.call (rFind_ok H ds hD.l x.ty.name) rfl rfl rfl rfl ?_
    refine fM rfl ?_
    refine Mid.call (direct_ok H x.ty) rfl rfl rfl rfl ?_
    refine fM rfl ?_
    refine caG rfl rfl (fun hg => ⟨_, rfl, has_ok H B (by omega) x.ty.name, rfl⟩) rfl rfl ?_
    refine fM rfl ?_
    refine Run.cond rfl rfl (fun hc => ?_) (fun hc => ?_)
    · have e : nextC ds nm x B = true := hc
      refine fR rfl ?_
      refine apM sE B [x.ty.name] rfl rfl rfl rfl rfl ?_ (h1 := by first | omega | (simp; omega) | (simp; done)) (h2 := by first | omega | (simp; omega) | (simp; done))
      refine fM rfl ?_
      refine aL rfl rfl rfl rfl rfl ?_
      refine fM rfl ?_
      exact rWeak 3 rfl (ih (B ++ [x.ty.name]) ⟨by simp; omega, by rw [hB]; simp only [nextF]; rw [if_pos e]⟩) rfl rfl rfl
    · have e : ¬ nextC ds nm x B = true := by rw [show nextC ds nm x B = false from hc]; simp
      refine fR rfl ?_
      refine aL rfl rfl rfl rfl rfl ?_
      refine fM rfl ?_
      exact rWeak 3 rfl (ih B ⟨by omega, by rw [hB]; simp only [nextF]; rw [if_neg e]⟩) rfl rfl rfl
theorem next_ok (H : Pr P) (ds : List Def) (hD : DocOk ds) (d : Def) (hd : d.Ok) (nm : Str) (l : List Str) (hl : l.length + d.inputs.length ≤ 4398046511104) :
    FnOk P 123 [docV ds, d.v, .t (.str nm), .own 0 1 (l.map sE)] ⟨[(0, .arr l.length)], 1⟩ { v := .own 0 1 ((nextF ds nm d.inputs l).map sE), ob := [(0, .arr (nextF ds nm d.inputs l).length)], rd := true } := by
  refine FnOk.run H.i123 H.mixed rfl rfl ?_
  refine fR rfl ?_
  refine rList d.inputs (fun i (B : List Str) => { env := [(2, .t (.str nm)), (3, .own 0 1 (B.map sE)), (4, .ptr 1 0), (5, .ptr 2 0), (9, .t (.int .i64 i))], s := ⟨[(0, .arr B.length), (1, .cells [.t (.lst (ds.map Def.enc))]), (2, .cells [.t (.int .i64 d.kind), .t (.str d.name), .t (.lst (d.implements.map sE)), .t (.lst (d.dirs.map Dir.enc)), .t (.lst (d.fields.map Field.enc)), .t (.lst (d.members.map Member.enc)), .t (.lst (d.inputs.map Input.enc))])], 3⟩ }) (fun r i B => B.length + r.length ≤ 4398046511104 ∧ nextF ds nm d.inputs l = nextF ds nm r B) 3 l rfl ⟨by exact hl, rfl⟩ rfl rfl rfl ?_ ?_
  · rintro B ⟨_, hB⟩
    have hB' : nextF ds nm d.inputs l = B := hB
    rw [hB']
    refine fR rfl ?_
    refine lM rfl rfl rfl ?_
    refine fM rfl ?_
    refine Run.condF rfl rfl (by simp) ?_
    refine fR rfl ?_
    refine Run.fin rfl (EndOk.chg rfl rfl ?_ ?_)
    · exact .le (.same rfl)
    · exact (by repeat' (first | exact trivial | exact LeX.t | exact LeX.top | exact LeX.nilOwn (Nat.le_of_ble_eq_true rfl) (Nat.le_of_ble_eq_true rfl) | exact LeX.ownT | exact LeX.nilT | exact LeX.same rfl | exact LeX.tEq (by simp) | exact LeX.ownEq (by simp) (Nat.le_of_ble_eq_true rfl) | exact LeX.tEq (by congr 1 <;> omega) | exact Or.inr ⟨Nat.le_of_ble_eq_true rfl, Nat.le_of_ble_eq_true rfl, rfl⟩ | refine Or.inl ⟨Nat.le_of_ble_eq_true rfl, _, rfl, ?_⟩ | refine LeO.cells ?_ | exact LeO.arr rfl | exact LeO.arr (by simp) | exact LeO.mE (by first | rfl | simp) (by first | exact Or.inl rfl | exact Or.inr rfl) | exact LeO.cE (by first | rfl | simp) | exact LeXs.cE (by first | rfl | simp) | refine LeO.map (by first | rfl | simp) ?_ (by first | exact Or.inl rfl | exact Or.inr rfl) | exact LeO.iter (by first | rfl | simp) (Nat.le_of_ble_eq_true rfl) | refine LeXs.cons ?_ ?_ | exact LeXs.nil | refine And.intro ?_ ?_))
  · rintro i x r B h1 hi hdr ⟨hlB, hB⟩ ih
    simp only [List.length_cons] at hlB
    have hx := hd.n x (List.mem_of_getElem? h1)
    refine fR rfl ?_
    refine lM rfl rfl rfl ?_
    refine fM rfl ?_
    refine Run.condT rfl rfl (by simp; omega) ?_
    refine fR rfl ?_
    refine Mid.elemMap rfl rfl rfl h1 rfl rfl ?_
    refine fM rfl ?_
    refine Mid.call (rFind_ok H ds hD.l x.ty.name) rfl rfl rfl rfl ?_
    refine fM rfl ?_
    refine Mid.call (direct_ok H x.ty) rfl rfl rfl rfl ?_
    refine fM rfl ?_
    refine caG rfl rfl (fun hg => ⟨_, rfl, has_ok H B (by omega) x.ty.name, rfl⟩) rfl rfl ?_
    refine fM rfl ?_
    refine Run.cond rfl rfl (fun hc => ?_) (fun hc => ?_)
    · have e : nextC ds nm x B = true := hc
      refine fR rfl ?_
      refine apM sE B [x.ty.name] rfl rfl rfl rfl rfl ?_ (h1 := by first | omega | (simp; omega) | (simp; done)) (h2 := by first | omega | (simp; omega) | (simp; done))
      refine fM rfl ?_
      refine aL rfl rfl rfl rfl rfl ?_
      refine fM rfl ?_
      exact rWeak 3 rfl (ih (B ++ [x.ty.name]) ⟨by simp; omega, by rw [hB]; simp only [nextF]; rw [if_pos e]⟩) rfl rfl rfl
    · have e : ¬ nextC ds nm x B = true := by rw [show nextC ds nm x B = false from hc]; simp
      refine fR rfl ?_
      refine aL rfl rfl rfl rfl rfl ?_
      refine fM rfl ?_
      exact rWeak 3 rfl (ih B ⟨by omega, by rw [hB]; simp only [nextF]; rw [if_neg e]⟩) rfl rfl rfl

theorem nextF_le (ds : List Def) (nm : Str) : ∀ (ins : List Input) (l : List Str), l.length ≤ (nextF ds nm ins l).length
  | [], l => Nat.le_refl _
  | x :: r, l => by
    simp only [nextF]
    refine Nat.le_trans ?_ (nextF_le ds nm r _)
    split <;> simp
/- the closure -/
def circF (ds : List Def) (nm : Str) : Nat → Nat → List Str → List Str
  | 0, _, l => l
  | k + 1, i, l => match l[i]? with
    | none => l
    | some n => circF ds nm k (i + 1) (nextF ds nm ((findDef n ds).getD Def.zero).inputs l)
def circB (ds : List Def) (d : Def) : Bool := d.kind == 5 && decide (d.name ∈ circF ds d.name (ds.length + 2) 0 (nextF ds d.name d.inputs []))
structure LOk (ds : List Def) (nm : Str) (l : List Str) : Prop where
  nd : l.Nodup
  mem : ∀ x, x ∈ l → x ∈ nm :: ds.map (fun o => o.name)
theorem nodup_len {α : Type} [BEq α] [LawfulBEq α] : ∀ {l m : List α}, l.Nodup → (∀ x, x ∈ l → x ∈ m) → l.length ≤ m.length
  | [], _, _, _ => by simp
  | a :: r, m, hn, hs => by
    have ha : a ∈ m := hs a (by simp)
    obtain ⟨hn1, hn2⟩ := List.nodup_cons.1 hn
    have h1 := nodup_len (l := r) (m := m.erase a) hn2 (fun x hx => by
      have hne : x ≠ a := by rintro rfl; exact hn1 hx
      exact (List.mem_erase_of_ne hne).2 (hs x (List.mem_cons_of_mem _ hx)))
    have h2 := List.length_erase_of_mem ha
    have h3 : 0 < m.length := List.length_pos_of_mem ha
    simp only [List.length_cons]; omega
theorem LOk.len {ds : List Def} {nm : Str} {l : List Str} (h : LOk ds nm l) : l.length ≤ ds.length + 1 := by
  have := nodup_len h.nd h.mem
  simpa using this
theorem nextF_ok {ds : List Def} {nm : Str} : ∀ {ins : List Input} {l : List Str}, LOk ds nm l → LOk ds nm (nextF ds nm ins l)
  | [], l, h => h
  | x :: r, l, h => by
    simp only [nextF]
    split
    · rename_i hc
      refine nextF_ok ⟨?_, ?_⟩
      · unfold nextC at hc
        simp only [Bool.and_eq_true] at hc
        have hn : ¬ x.ty.name ∈ l := by simpa using hc.2
        rw [List.nodup_append]
        exact ⟨h.nd, by simp, fun a ha b hb e => by simp at hb; subst hb; subst e; exact hn ha⟩
      · intro y hy
        rcases List.mem_append.1 hy with hy | hy
        · exact h.mem y hy
        · simp at hy; subst hy
          unfold nextC at hc
          simp only [Bool.and_eq_true, Bool.or_eq_true, beq_iff_eq] at hc
          rcases hc.1.2 with e | e
          · rw [e]; simp
          · cases hf : findDef x.ty.name ds with
            | none => rw [hf] at e; simp at e
            | some o =>
              have h1 := findDef_mem hf
              have h2 := findDef_name hf
              rw [← h2]
              exact List.mem_cons_of_mem _ (List.mem_map.2 ⟨o, h1, rfl⟩)
    · exact nextF_ok h
theorem circular_ok (H : Pr P) (ds : List Def) (hD : DocOk ds) (d : Def) (hd : d.Ok) (hil : ∀ o, o ∈ d :: ds → o.inputs.length ≤ 2199023255552) : FnOk P 100 [docV ds, d.v] ⟨[], 0⟩ { v := .t (.bool (circB ds d)) } := by
  have hlb := hD.lb
  have hz : ∀ n, ((findDef n ds).getD Def.zero).inputs.length ≤ 2199023255552 := by
    intro n
    cases hf : findDef n ds with
    | none => simp [Def.zero]
    | some o => exact hil o (List.mem_cons_of_mem _ (findDef_mem hf))
  refine FnOk.run H.i100 H.mixed rfl rfl ?_
  refine fR rfl ?_
  refine Run.cond rfl rfl (fun hk => ?_) (fun hk => ?_)
  · have e : circB ds d = false := by unfold circB; rw [show (d.kind == 5) = false from by simpa using hk]; rfl
    refine fR rfl ?_
    refine Run.fin rfl (EndOk.go ?_); exact .t (by rw [e])
  · have hk' : (d.kind == 5) = true := by simpa using hk
    refine fR rfl ?_
    have h0 : LOk ds d.name (nextF ds d.name d.inputs []) := nextF_ok ⟨List.nodup_nil, by simp⟩
    refine Mid.callO [] (next0_ok H ds hD d hd d.name (by have := hil d (by simp); omega)) rfl rfl rfl rfl (by simp [stoBd]) (by repeat' (first | exact trivial | exact rfl | refine And.intro ?_ ?_ | exact (congrArg some (AObj.ren_mE _ _ _ _ _ _)).symm | exact (congrArg some (AObj.ren_cE _ _ _)).symm)) rfl rfl (ob' := [(4, .arr (nextF ds d.name d.inputs []).length)]) (rfl) rfl rfl ?_
    refine fM rfl ?_
    have eB : circB ds d = decide (d.name ∈ circF ds d.name (ds.length + 2) 0 (nextF ds d.name d.inputs [])) := by unfold circB; rw [hk']; rfl
    generalize hC : circF ds d.name (ds.length + 2) 0 (nextF ds d.name d.inputs []) = C at eB
    have hN : ∀ (i : Nat) (l : List Str), LOk ds d.name l → i ≤ l.length → ds.length + 2 - i = (ds.length + 1 - i) + 1 := by
      intro i l hl hi
      have := hl.len; omega
    refine rLoopM (β := Nat × List Str) (fun b => { env := [(2, .ptr 0 0), (3, .ptr 1 0), (5, .own 4 1 (b.2.map sE)), (6, .t (.int .i64 b.1))], s := ⟨[(0, .cells [.t (.lst (ds.map Def.enc))]), (1, .cells [.t (.int .i64 d.kind), .t (.str d.name), .t (.lst (d.implements.map sE)), .t (.lst (d.dirs.map Dir.enc)), .t (.lst (d.fields.map Field.enc)), .t (.lst (d.members.map Member.enc)), .t (.lst (d.inputs.map Input.enc))]), (4, .arr b.2.length)], 5⟩ })
      (fun b => LOk ds d.name b.2 ∧ b.1 ≤ b.2.length ∧ C = circF ds d.name (ds.length + 2 - b.1) b.1 b.2) (fun b => ds.length + 2 - b.1) 5 (0, nextF ds d.name d.inputs []) rfl ⟨h0, by simp, hC.symm⟩ rfl rfl rfl ?_
    rintro ⟨i, l⟩ ⟨hl, hi, hinv⟩ ih
    dsimp only at hl hi hinv ih ⊢
    have hlen := hl.len
    have hN' := hN i l hl hi
    rw [hN'] at hinv
    refine fR rfl ?_
    refine lM rfl rfl rfl ?_
    refine fM rfl ?_
    by_cases hlt : i < l.length
    · refine Run.condT rfl rfl (by simp; omega) ?_
      have hg : l[i]? = some l[i] := List.getElem?_eq_getElem hlt
      generalize l[i] = n at hg
      have hF := docFind hD n
      have hnx : LOk ds d.name (nextF ds d.name ((findDef n ds).getD Def.zero).inputs l) := nextF_ok hl
      simp only [circF, hg] at hinv
      have hzn := hz n
      refine fR rfl ?_
      refine Mid.elemMap rfl rfl rfl hg rfl rfl ?_
      refine fM rfl ?_
      refine Mid.call (rFind_ok H ds hD.l n) rfl rfl rfl rfl ?_
      refine fM rfl ?_
      refine Mid.callO [4] (next_ok H ds hD ((findDef n ds).getD Def.zero) hF d.name l (by omega)) rfl rfl rfl rfl (by simp [stoBd]; simp [AObj.bd]) (by repeat' (first | exact trivial | exact rfl | refine And.intro ?_ ?_ | exact (congrArg some (AObj.ren_mE _ _ _ _ _ _)).symm | exact (congrArg some (AObj.ren_cE _ _ _)).symm)) rfl rfl (ob' := [(4, .arr (nextF ds d.name ((findDef n ds).getD Def.zero).inputs l).length)]) (rfl) rfl rfl ?_
      refine fM rfl ?_
      refine aL rfl rfl rfl rfl rfl ?_
      refine fM rfl ?_
      exact rWeak 5 rfl (ih (i + 1, nextF ds d.name ((findDef n ds).getD Def.zero).inputs l) (by simp only; omega) ⟨hnx, by simp only; have := nextF_le ds d.name ((findDef n ds).getD Def.zero).inputs l; omega, by rw [hinv]; simp only; congr 1; omega⟩) rfl rfl rfl
    · refine Run.condF rfl rfl (by simp; omega) ?_
      have hg : l[i]? = none := List.getElem?_eq_none (by omega)
      simp only [circF, hg] at hinv
      refine fR rfl ?_
      refine Mid.call (has_ok H l (by omega) d.name) rfl rfl rfl rfl ?_
      refine fM rfl ?_
      refine Run.fin rfl (EndOk.go ?_); exact .t (by rw [eB, hinv])
end Go.GB.C11

