/-
  YtachaigkgjadpaaP6: lemmas of this proof (part 6). No conditions.
-/
import Derived.Test.YtachaigkgjadpaaP3
import Derived.Test.YtachaigkgjadpaaP4
import Derived.Test.YtachaigkgjadpaaP5

/-
  C18Code: the code of chapter 18's functions as abstract code (printed by program).
-/
namespace Go.GB.C11
open Go.GB
/- 3 supergraph supergraphlaw18.CollectIncluded -/
def c3_0 : ACode :=
  (.seq (.region true [⟨some 24, none, .mv (.s 0)⟩,
    ⟨some 25, none, .len (.s 24)⟩,
    ⟨some 26, none, .bin .gtr (.s 25) (.c (.t (.int .i64 50)))⟩,
    ⟨some 27, none, .mv (.s 26)⟩,
    ⟨some 28, some (27, false), .mv (.s 0)⟩,
    ⟨some 29, some (27, false), .ld true 5 (.s 3)⟩,
    ⟨some 30, some (27, false), .call 9 [(.s 28), (.s 29)]⟩,
    ⟨some 31, some (27, false), .mv (.s 0)⟩,
    ⟨some 32, some (27, false), .ld true 5 (.s 3)⟩,
    ⟨some 33, some (27, false), .call 10 [(.s 31), (.s 32)]⟩,
    ⟨some 34, some (27, false), .eqb false (.s 30) (.s 33)⟩,
    ⟨some 35, none, .pick (.s 27) (.c (.t (.bool true))) (.s 34)⟩,
    ⟨some 36, none, .mv (.s 35)⟩,
    ⟨some 37, some (36, true), .call 8 []⟩,
    ⟨some 38, none, .pick (.s 36) (.s 37) (.c (.t (.bool false)))⟩,
    ⟨some 4, none, .mv (.s 38)⟩] [[], [0], [1], [2], [3], [3], [4, 5, 3, 3], [3], [3], [7, 8, 6, 3], [6, 9, 3], [3, 10], [11, 9], [12, 12], [12, 13], [14, 13, 0, 1, 2, 3, 4, 5, 6, 7, 8, 9, 10, 11, 12, 13, 14]] [4]) .ret)
def c3_1 : ACode :=
  (.region false [⟨some 14, none, .mv (.s 5)⟩,
    ⟨some 15, none, .bin .add (.s 14) (.c (.t (.int .i64 1)))⟩,
    ⟨some 5, none, .mv (.s 15)⟩] [] [0, 3, 5])
def c3_2 : ACode :=
  (.seq (.region false [⟨some 23, none, .call 8 []⟩,
    ⟨some 4, none, .mv (.s 23)⟩] [] [4]) .ret)
def c3_3 : ACode :=
  (.cond (.s 22) c3_2 .skip)
def c3_4 : ACode :=
  (.seq (.region false [⟨some 16, none, .mv (.s 0)⟩,
    ⟨some 17, none, .mv (.s 5)⟩,
    ⟨some 18, none, .ia 2 (.s 16) (.s 17)⟩,
    ⟨some 19, none, .fa 1 (.s 18)⟩,
    ⟨some 20, none, .ld false 1 (.s 19)⟩,
    ⟨some 21, none, .len (.s 20)⟩,
    ⟨some 22, none, .bin .gtr (.s 21) (.c (.t (.int .i64 50)))⟩] [] [0, 3, 5, 22]) c3_3)
def c3_5 : ACode :=
  (.seq (.block 1 c3_4) c3_1)
def c3_6 : ACode :=
  (.cond (.s 13) .skip (.exit 0))
def c3_7 : ACode :=
  (.seq (.seq (.region false [⟨some 6, none, .mv (.s 5)⟩,
    ⟨some 7, none, .mv (.s 0)⟩,
    ⟨some 8, none, .len (.s 7)⟩,
    ⟨some 9, none, .bin .lss (.s 6) (.s 8)⟩,
    ⟨some 10, none, .mv (.s 9)⟩,
    ⟨some 11, some (10, true), .mv (.s 5)⟩,
    ⟨some 12, some (10, true), .bin .leq (.s 11) (.c (.t (.int .i64 50)))⟩,
    ⟨some 13, none, .pick (.s 10) (.s 12) (.c (.t (.bool false)))⟩] [] [0, 3, 5, 13]) c3_6) c3_5)
def c3_8 : ACode :=
  (.loop c3_7)
def c3_9 : ACode :=
  (.block 0 c3_8)
def c3_10 : ACode :=
  (.seq (.seq (.region false [⟨some 5, none, .cst (.t (.int .i64 0))⟩] [] [0, 3, 5]) c3_9) c3_0)
def c3 : ACode :=
  (.seq (.region false [⟨some 3, none, .box 5 (.s 1)⟩,
    ⟨some 4, none, .cst (.t (.bool false))⟩] [] [0, 3]) c3_10)
def r3 : List ARes := [.tmp 4]
def n3 : Nat := 39
/- 4 supergraph supergraphlaw18.CollectFields -/
def c4_0 : ACode :=
  (.seq (.region false [⟨some 96, none, .call 8 []⟩,
    ⟨some 4, none, .mv (.s 96)⟩] [] [4]) .ret)
def c4_1 : ACode :=
  (.region false [⟨some 43, none, .mv (.s 7)⟩,
    ⟨some 44, none, .bin .add (.s 43) (.c (.t (.int .i64 1)))⟩,
    ⟨some 7, none, .mv (.s 44)⟩] [] [5, 6, 7])
def c4_2 : ACode :=
  (.region false [⟨some 83, none, .mv (.s 8)⟩,
    ⟨some 84, none, .bin .add (.s 83) (.c (.t (.int .i64 1)))⟩,
    ⟨some 8, none, .mv (.s 84)⟩] [] [5, 6, 7, 8])
def c4_3 : ACode :=
  (.seq (.region false [⟨some 4, none, .cst (.t (.bool false))⟩] [] [4]) .ret)
def c4_4 : ACode :=
  (.cond (.s 95) c4_3 .skip)
def c4_5 : ACode :=
  (.seq (.region true [⟨some 85, none, .mv (.s 5)⟩,
    ⟨some 86, none, .mv (.s 8)⟩,
    ⟨some 87, none, .ia 2 (.s 85) (.s 86)⟩,
    ⟨some 88, none, .fa 0 (.s 87)⟩,
    ⟨some 89, none, .ld false 1 (.s 88)⟩,
    ⟨some 90, none, .mv (.s 5)⟩,
    ⟨some 91, none, .mv (.s 7)⟩,
    ⟨some 92, none, .ia 2 (.s 90) (.s 91)⟩,
    ⟨some 93, none, .fa 0 (.s 92)⟩,
    ⟨some 94, none, .ld false 1 (.s 93)⟩,
    ⟨some 95, none, .bin .eql (.s 89) (.s 94)⟩] [[], [], [0, 1], [2], [3], [], [], [5, 6], [7], [8], [4, 9]] [5, 6, 7, 8, 95]) c4_4)
def c4_6 : ACode :=
  (.seq (.block 3 c4_5) c4_2)
def c4_7 : ACode :=
  (.cond (.s 82) .skip (.exit 2))
def c4_8 : ACode :=
  (.seq (.seq (.region false [⟨some 80, none, .mv (.s 8)⟩,
    ⟨some 81, none, .mv (.s 7)⟩,
    ⟨some 82, none, .bin .lss (.s 80) (.s 81)⟩] [] [5, 6, 7, 8, 82]) c4_7) c4_6)
def c4_9 : ACode :=
  (.loop c4_8)
def c4_10 : ACode :=
  (.block 2 c4_9)
def c4_11 : ACode :=
  (.seq (.region false [⟨some 8, none, .cst (.t (.int .i64 0))⟩] [] [5, 6, 7, 8]) c4_10)
def c4_12 : ACode :=
  (.seq (.region false [⟨some 4, none, .cst (.t (.bool false))⟩] [] [4]) .ret)
def c4_13 : ACode :=
  (.cond (.s 79) c4_12 .skip)
def c4_14 : ACode :=
  (.seq (.seq (.region true [⟨some 45, none, .mv (.s 5)⟩,
    ⟨some 46, none, .mv (.s 7)⟩,
    ⟨some 47, none, .ia 2 (.s 45) (.s 46)⟩,
    ⟨some 48, none, .fa 0 (.s 47)⟩,
    ⟨some 49, none, .ld false 1 (.s 48)⟩,
    ⟨some 50, none, .mv (.s 6)⟩,
    ⟨some 51, none, .mv (.s 7)⟩,
    ⟨some 52, none, .ia 2 (.s 50) (.s 51)⟩,
    ⟨some 53, none, .fa 0 (.s 52)⟩,
    ⟨some 54, none, .ld false 1 (.s 53)⟩,
    ⟨some 55, none, .bin .neq (.s 49) (.s 54)⟩,
    ⟨some 56, none, .mv (.s 55)⟩,
    ⟨some 57, some (56, false), .mv (.s 5)⟩,
    ⟨some 58, some (56, false), .mv (.s 7)⟩,
    ⟨some 59, some (56, false), .ia 2 (.s 57) (.s 58)⟩,
    ⟨some 60, some (56, false), .fa 1 (.s 59)⟩,
    ⟨some 61, some (56, false), .ld false 1 (.s 60)⟩,
    ⟨some 62, some (56, false), .call 16 [(.s 61)]⟩,
    ⟨some 63, some (56, false), .mv (.s 6)⟩,
    ⟨some 64, some (56, false), .mv (.s 7)⟩,
    ⟨some 65, some (56, false), .ia 2 (.s 63) (.s 64)⟩,
    ⟨some 66, some (56, false), .fa 1 (.s 65)⟩,
    ⟨some 67, some (56, false), .ld false 1 (.s 66)⟩,
    ⟨some 68, some (56, false), .call 15 [(.s 62), (.s 67)]⟩,
    ⟨some 69, some (56, false), .un .not (.s 68)⟩,
    ⟨some 70, none, .pick (.s 56) (.c (.t (.bool true))) (.s 69)⟩,
    ⟨some 71, none, .mv (.s 70)⟩,
    ⟨some 72, some (71, false), .mv (.s 5)⟩,
    ⟨some 73, some (71, false), .mv (.s 7)⟩,
    ⟨some 74, some (71, false), .ia 2 (.s 72) (.s 73)⟩,
    ⟨some 75, some (71, false), .fa 1 (.s 74)⟩,
    ⟨some 76, some (71, false), .ld false 1 (.s 75)⟩,
    ⟨some 77, some (71, false), .len (.s 76)⟩,
    ⟨some 78, some (71, false), .bin .eql (.s 77) (.c (.t (.int .i64 0)))⟩,
    ⟨some 79, none, .pick (.s 71) (.c (.t (.bool true))) (.s 78)⟩] [[], [], [0, 1], [2], [3], [], [], [5, 6], [7], [8], [4, 9], [10], [11], [11], [12, 13, 11], [14, 11], [15, 11], [16, 11, 11], [11], [11], [18, 19, 11], [20, 11], [21, 11], [17, 22, 17, 11], [23, 11], [11, 24], [25, 23], [26], [26], [27, 28, 26], [29, 26], [30, 26], [31, 26], [32, 26], [26, 33]] [5, 6, 7, 79]) c4_13) c4_11)
def c4_15 : ACode :=
  (.seq (.block 1 c4_14) c4_1)
def c4_16 : ACode :=
  (.cond (.s 42) .skip (.exit 0))
def c4_17 : ACode :=
  (.seq (.seq (.region false [⟨some 39, none, .mv (.s 7)⟩,
    ⟨some 40, none, .mv (.s 5)⟩,
    ⟨some 41, none, .len (.s 40)⟩,
    ⟨some 42, none, .bin .lss (.s 39) (.s 41)⟩] [] [5, 6, 7, 42]) c4_16) c4_15)
def c4_18 : ACode :=
  (.loop c4_17)
def c4_19 : ACode :=
  (.block 0 c4_18)
def c4_20 : ACode :=
  (.seq (.seq (.region false [⟨some 7, none, .cst (.t (.int .i64 0))⟩] [] [5, 6, 7]) c4_19) c4_0)
def c4_21 : ACode :=
  (.seq (.region false [⟨some 4, none, .cst (.t (.bool false))⟩] [] [4]) .ret)
def c4_22 : ACode :=
  (.cond (.s 38) c4_21 .skip)
def c4_23 : ACode :=
  (.seq (.seq (.region false [⟨some 34, none, .mv (.s 5)⟩,
    ⟨some 35, none, .len (.s 34)⟩,
    ⟨some 36, none, .mv (.s 6)⟩,
    ⟨some 37, none, .len (.s 36)⟩,
    ⟨some 38, none, .bin .neq (.s 35) (.s 37)⟩] [] [5, 6, 38]) c4_22) c4_20)
def c4_24 : ACode :=
  (.seq (.region false [⟨some 24, none, .fa 0 (.s 2)⟩,
    ⟨some 25, none, .ld true 1 (.s 24)⟩,
    ⟨some 26, none, .fa 1 (.s 2)⟩,
    ⟨some 27, none, .ld true 2 (.s 26)⟩,
    ⟨some 28, none, .fa 3 (.s 2)⟩,
    ⟨some 29, none, .ld false 1 (.s 28)⟩,
    ⟨some 30, none, .fa 4 (.s 2)⟩,
    ⟨some 31, none, .ld false 1 (.s 30)⟩,
    ⟨some 32, none, .ld true 5 (.s 3)⟩,
    ⟨some 33, none, .call 14 [(.s 25), (.s 27), (.s 29), (.s 31), (.s 32)]⟩,
    ⟨some 6, none, .mv (.s 33)⟩] [] [5, 6]) c4_23)
def c4_25 : ACode :=
  (.seq (.region true [⟨some 13, none, .fa 0 (.s 2)⟩,
    ⟨some 14, none, .ld true 1 (.s 13)⟩,
    ⟨some 15, none, .fa 1 (.s 2)⟩,
    ⟨some 16, none, .ld true 2 (.s 15)⟩,
    ⟨some 17, none, .fa 3 (.s 2)⟩,
    ⟨some 18, none, .ld false 1 (.s 17)⟩,
    ⟨some 19, none, .fa 4 (.s 2)⟩,
    ⟨some 20, none, .ld false 1 (.s 19)⟩,
    ⟨some 21, none, .call 13 [(.s 20)]⟩,
    ⟨some 22, none, .ld true 5 (.s 3)⟩,
    ⟨some 23, none, .call 12 [(.s 14), (.s 16), (.s 18), (.s 21), (.s 22)]⟩,
    ⟨some 5, none, .mv (.s 23)⟩] [[], [0], [], [2], [], [4], [], [6], [7], [], [1, 3, 5, 8, 9, 8], [10, 10, 0, 1, 2, 3, 4, 5, 6, 7, 8, 9, 10]] [2, 3, 5]) c4_24)
def c4_26 : ACode :=
  (.seq (.region false [⟨some 12, none, .call 8 []⟩,
    ⟨some 4, none, .mv (.s 12)⟩] [] [4]) .ret)
def c4_27 : ACode :=
  (.cond (.s 11) c4_26 .skip)
def c4_28 : ACode :=
  (.seq (.seq (.region false [⟨some 9, none, .ld true 5 (.s 2)⟩,
    ⟨some 10, none, .call 11 [(.s 9)]⟩,
    ⟨some 11, none, .un .not (.s 10)⟩] [] [2, 3, 11]) c4_27) c4_25)
def c4 : ACode :=
  (.seq (.region false [⟨some 2, none, .box 5 (.s 0)⟩,
    ⟨some 3, none, .box 5 (.s 1)⟩,
    ⟨some 4, none, .cst (.t (.bool false))⟩] [] [2, 3]) c4_28)
def r4 : List ARes := [.tmp 4]
def n4 : Nat := 97
/- 5 supergraph supergraphlaw18.CollectLabel -/
/- 6 supergraph supergraphlaw18.CollectLists -/
def c6_0 : ACode :=
  (.seq (.region false [⟨some 105, none, .call 8 []⟩,
    ⟨some 6, none, .mv (.s 105)⟩] [] [6]) .ret)
def c6_1 : ACode :=
  (.region false [⟨some 94, none, .mv (.s 12)⟩,
    ⟨some 95, none, .bin .add (.s 94) (.c (.t (.int .i64 1)))⟩,
    ⟨some 12, none, .mv (.s 95)⟩] [] [8, 11, 12])
def c6_2 : ACode :=
  (.seq (.region false [⟨some 6, none, .cst (.t (.bool false))⟩] [] [6]) .ret)
def c6_3 : ACode :=
  (.cond (.s 104) c6_2 .skip)
def c6_4 : ACode :=
  (.seq (.region true [⟨some 96, none, .mv (.s 11)⟩,
    ⟨some 97, none, .mv (.s 12)⟩,
    ⟨some 98, none, .ia 1 (.s 96) (.s 97)⟩,
    ⟨some 99, none, .ld false 1 (.s 98)⟩,
    ⟨some 100, none, .mv (.s 8)⟩,
    ⟨some 101, none, .mv (.s 12)⟩,
    ⟨some 102, none, .ia 1 (.s 100) (.s 101)⟩,
    ⟨some 103, none, .ld false 1 (.s 102)⟩,
    ⟨some 104, none, .bin .neq (.s 99) (.s 103)⟩] [[], [], [0, 1], [2], [], [], [4, 5], [6], [3, 7]] [8, 11, 12, 104]) c6_3)
def c6_5 : ACode :=
  (.seq (.block 3 c6_4) c6_1)
def c6_6 : ACode :=
  (.cond (.s 93) .skip (.exit 2))
def c6_7 : ACode :=
  (.seq (.seq (.region false [⟨some 90, none, .mv (.s 12)⟩,
    ⟨some 91, none, .mv (.s 11)⟩,
    ⟨some 92, none, .len (.s 91)⟩,
    ⟨some 93, none, .bin .lss (.s 90) (.s 92)⟩] [] [8, 11, 12, 93]) c6_6) c6_5)
def c6_8 : ACode :=
  (.loop c6_7)
def c6_9 : ACode :=
  (.block 2 c6_8)
def c6_10 : ACode :=
  (.seq (.seq (.region false [⟨some 12, none, .cst (.t (.int .i64 0))⟩] [] [8, 11, 12]) c6_9) c6_0)
def c6_11 : ACode :=
  (.seq (.region false [⟨some 6, none, .cst (.t (.bool false))⟩] [] [6]) .ret)
def c6_12 : ACode :=
  (.cond (.s 89) c6_11 .skip)
def c6_13 : ACode :=
  (.seq (.seq (.region false [⟨some 85, none, .mv (.s 11)⟩,
    ⟨some 86, none, .len (.s 85)⟩,
    ⟨some 87, none, .mv (.s 8)⟩,
    ⟨some 88, none, .len (.s 87)⟩,
    ⟨some 89, none, .bin .neq (.s 86) (.s 88)⟩] [] [8, 11, 89]) c6_12) c6_10)
def c6_14 : ACode :=
  (.seq (.region false [⟨some 75, none, .fa 0 (.s 3)⟩,
    ⟨some 76, none, .ld true 1 (.s 75)⟩,
    ⟨some 77, none, .fa 1 (.s 3)⟩,
    ⟨some 78, none, .ld true 2 (.s 77)⟩,
    ⟨some 79, none, .fa 3 (.s 3)⟩,
    ⟨some 80, none, .ld false 1 (.s 79)⟩,
    ⟨some 81, none, .mv (.s 7)⟩,
    ⟨some 82, none, .ld true 5 (.s 5)⟩,
    ⟨some 83, none, .call 12 [(.s 76), (.s 78), (.s 80), (.s 81), (.s 82)]⟩,
    ⟨some 84, none, .call 19 [(.s 83)]⟩,
    ⟨some 11, none, .mv (.s 84)⟩] [] [8, 11]) c6_13)
def c6_15 : ACode :=
  (.region false [⟨some 59, none, .mv (.s 10)⟩,
    ⟨some 60, none, .bin .add (.s 59) (.c (.t (.int .i64 1)))⟩,
    ⟨some 10, none, .mv (.s 60)⟩] [] [3, 5, 7, 8, 9, 10])
def c6_16 : ACode :=
  (.region false [⟨some 68, none, .mv (.s 8)⟩,
    ⟨some 69, none, .mv (.s 9)⟩,
    ⟨some 70, none, .mv (.s 10)⟩,
    ⟨some 71, none, .ia 1 (.s 69) (.s 70)⟩,
    ⟨some 72, none, .ld false 1 (.s 71)⟩,
    ⟨some 73, none, .bsl false 1 [[.str []]] [(0, (.s 72))]⟩,
    ⟨some 74, none, .app 1 16 (.s 68) (.s 73)⟩,
    ⟨some 8, none, .mv (.s 74)⟩] [] [3, 5, 7, 8, 9, 10])
def c6_17 : ACode :=
  (.cond (.s 67) c6_16 .skip)
def c6_18 : ACode :=
  (.seq (.region false [⟨some 61, none, .mv (.s 8)⟩,
    ⟨some 62, none, .mv (.s 9)⟩,
    ⟨some 63, none, .mv (.s 10)⟩,
    ⟨some 64, none, .ia 1 (.s 62) (.s 63)⟩,
    ⟨some 65, none, .ld false 1 (.s 64)⟩,
    ⟨some 66, none, .call 20 [(.s 61), (.s 65)]⟩,
    ⟨some 67, none, .un .not (.s 66)⟩] [] [3, 5, 7, 8, 9, 10, 67]) c6_17)
def c6_19 : ACode :=
  (.seq (.block 1 c6_18) c6_15)
def c6_20 : ACode :=
  (.cond (.s 58) .skip (.exit 0))
def c6_21 : ACode :=
  (.seq (.seq (.region false [⟨some 55, none, .mv (.s 10)⟩,
    ⟨some 56, none, .mv (.s 9)⟩,
    ⟨some 57, none, .len (.s 56)⟩,
    ⟨some 58, none, .bin .lss (.s 55) (.s 57)⟩] [] [3, 5, 7, 8, 9, 10, 58]) c6_20) c6_19)
def c6_22 : ACode :=
  (.loop c6_21)
def c6_23 : ACode :=
  (.block 0 c6_22)
def c6_24 : ACode :=
  (.seq (.seq (.region false [⟨some 10, none, .cst (.t (.int .i64 0))⟩] [] [3, 5, 7, 8, 9, 10]) c6_23) c6_14)
def c6_25 : ACode :=
  (.seq (.region true [⟨some 43, none, .fa 0 (.s 3)⟩,
    ⟨some 44, none, .ld true 1 (.s 43)⟩,
    ⟨some 45, none, .fa 1 (.s 3)⟩,
    ⟨some 46, none, .ld true 2 (.s 45)⟩,
    ⟨some 47, none, .fa 3 (.s 3)⟩,
    ⟨some 48, none, .ld false 1 (.s 47)⟩,
    ⟨some 49, none, .mv (.s 7)⟩,
    ⟨some 50, none, .mv (.s 1)⟩,
    ⟨some 51, none, .sll 8 (.s 49) (some (.s 50)) none⟩,
    ⟨some 52, none, .ld true 5 (.s 5)⟩,
    ⟨some 53, none, .call 12 [(.s 44), (.s 46), (.s 48), (.s 51), (.s 52)]⟩,
    ⟨some 54, none, .call 19 [(.s 53)]⟩,
    ⟨some 9, none, .mv (.s 54)⟩] [[], [0], [], [2], [], [4], [], [], [6, 7], [], [1, 3, 5, 8, 9], [10, 10], [11, 11, 0, 1, 2, 3, 4, 5, 6, 7, 8, 9, 10, 11]] [3, 5, 7, 8, 9]) c6_24)
def c6_26 : ACode :=
  (.seq (.region true [⟨some 31, none, .fa 0 (.s 3)⟩,
    ⟨some 32, none, .ld true 1 (.s 31)⟩,
    ⟨some 33, none, .fa 1 (.s 3)⟩,
    ⟨some 34, none, .ld true 2 (.s 33)⟩,
    ⟨some 35, none, .fa 3 (.s 3)⟩,
    ⟨some 36, none, .ld false 1 (.s 35)⟩,
    ⟨some 37, none, .mv (.s 7)⟩,
    ⟨some 38, none, .mv (.s 1)⟩,
    ⟨some 39, none, .sll 8 (.s 37) none (some (.s 38))⟩,
    ⟨some 40, none, .ld true 5 (.s 5)⟩,
    ⟨some 41, none, .call 12 [(.s 32), (.s 34), (.s 36), (.s 39), (.s 40)]⟩,
    ⟨some 42, none, .call 19 [(.s 41)]⟩,
    ⟨some 8, none, .mv (.s 42)⟩] [[], [0], [], [2], [], [4], [], [], [6, 7], [], [1, 3, 5, 8, 9], [10, 10], [11, 11, 0, 1, 2, 3, 4, 5, 6, 7, 8, 9, 10, 11]] [1, 3, 5, 7, 8]) c6_25)
def c6_27 : ACode :=
  (.seq (.region false [⟨some 28, none, .fa 4 (.s 3)⟩,
    ⟨some 29, none, .ld false 1 (.s 28)⟩,
    ⟨some 30, none, .call 13 [(.s 29)]⟩,
    ⟨some 7, none, .mv (.s 30)⟩] [] [1, 3, 5, 7]) c6_26)
def c6_28 : ACode :=
  (.seq (.region false [⟨some 27, none, .call 8 []⟩,
    ⟨some 6, none, .mv (.s 27)⟩] [] [6]) .ret)
def c6_29 : ACode :=
  (.cond (.s 26) c6_28 .skip)
def c6_30 : ACode :=
  (.seq (.seq (.region false [⟨some 13, none, .ld true 5 (.s 3)⟩,
    ⟨some 14, none, .call 11 [(.s 13)]⟩,
    ⟨some 15, none, .un .not (.s 14)⟩,
    ⟨some 16, none, .mv (.s 15)⟩,
    ⟨some 17, some (16, false), .mv (.s 1)⟩,
    ⟨some 18, some (16, false), .bin .lss (.s 17) (.c (.t (.int .i64 0)))⟩,
    ⟨some 19, none, .pick (.s 16) (.c (.t (.bool true))) (.s 18)⟩,
    ⟨some 20, none, .mv (.s 19)⟩,
    ⟨some 21, some (20, false), .mv (.s 1)⟩,
    ⟨some 22, some (20, false), .fa 4 (.s 3)⟩,
    ⟨some 23, some (20, false), .ld false 1 (.s 22)⟩,
    ⟨some 24, some (20, false), .len (.s 23)⟩,
    ⟨some 25, some (20, false), .bin .gtr (.s 21) (.s 24)⟩,
    ⟨some 26, none, .pick (.s 20) (.c (.t (.bool true))) (.s 25)⟩] [] [1, 3, 5, 26]) c6_29) c6_27)
def c6 : ACode :=
  (.seq (.region false [⟨some 3, none, .box 5 (.s 0)⟩,
    ⟨some 5, none, .box 5 (.s 2)⟩,
    ⟨some 6, none, .cst (.t (.bool false))⟩] [] [1, 3, 5]) c6_30)
def r6 : List ARes := [.tmp 6]
def n6 : Nat := 106
/- 7 supergraph supergraphlaw18.CollectTypes -/
/- 8 supergraph supergraphlaw18.knows -/
def c8_0 : ACode :=
  (.seq (.region false [⟨some 84, none, .mv (.s 3)⟩,
    ⟨some 85, none, .ia 2 (.s 84) (.c (.t (.int .i64 0)))⟩,
    ⟨some 86, none, .ld true 2 (.s 85)⟩,
    ⟨some 87, none, .call 17 [(.s 86)]⟩,
    ⟨some 88, none, .bin .eql (.s 87) (.c (.t (.str [])))⟩,
    ⟨some 89, none, .mv (.s 88)⟩,
    ⟨some 90, some (89, true), .mv (.s 3)⟩,
    ⟨some 91, some (89, true), .ia 2 (.s 90) (.c (.t (.int .i64 1)))⟩,
    ⟨some 92, some (89, true), .ld true 2 (.s 91)⟩,
    ⟨some 93, some (89, true), .call 17 [(.s 92)]⟩,
    ⟨some 94, some (89, true), .bin .eql (.s 93) (.c (.t (.str [120])))⟩,
    ⟨some 95, none, .pick (.s 89) (.s 94) (.c (.t (.bool false)))⟩,
    ⟨some 96, none, .mv (.s 95)⟩,
    ⟨some 97, some (96, true), .mv (.s 4)⟩,
    ⟨some 98, some (96, true), .ld true 5 (.s 5)⟩,
    ⟨some 99, some (96, true), .call 9 [(.s 97), (.s 98)]⟩,
    ⟨some 100, some (96, true), .un .not (.s 99)⟩,
    ⟨some 101, none, .pick (.s 96) (.s 100) (.c (.t (.bool false)))⟩,
    ⟨some 102, none, .mv (.s 101)⟩,
    ⟨some 103, some (102, true), .mv (.s 4)⟩,
    ⟨some 104, some (102, true), .build [.t (.int .i64 0), .t (.int .i64 0), .t (.str []), .nils, .nils] []⟩,
    ⟨some 105, some (102, true), .call 9 [(.s 103), (.s 104)]⟩,
    ⟨some 106, none, .pick (.s 102) (.s 105) (.c (.t (.bool false)))⟩,
    ⟨some 0, none, .mv (.s 106)⟩] [] [0]) .ret)
def c8_1 : ACode :=
  (.seq (.region false [⟨some 0, none, .cst (.t (.bool false))⟩] [] [0]) .ret)
def c8_2 : ACode :=
  (.cond (.s 83) c8_1 .skip)
def c8_3 : ACode :=
  (.seq (.seq (.region false [⟨some 40, none, .mv (.s 3)⟩,
    ⟨some 41, none, .len (.s 40)⟩,
    ⟨some 42, none, .bin .neq (.s 41) (.c (.t (.int .i64 2)))⟩,
    ⟨some 43, none, .mv (.s 42)⟩,
    ⟨some 44, some (43, false), .mv (.s 3)⟩,
    ⟨some 45, some (43, false), .ia 2 (.s 44) (.c (.t (.int .i64 0)))⟩,
    ⟨some 46, some (43, false), .fa 0 (.s 45)⟩,
    ⟨some 47, some (43, false), .ld false 1 (.s 46)⟩,
    ⟨some 48, some (43, false), .bin .neq (.s 47) (.c (.t (.str [97])))⟩,
    ⟨some 49, none, .pick (.s 43) (.c (.t (.bool true))) (.s 48)⟩,
    ⟨some 50, none, .mv (.s 49)⟩,
    ⟨some 51, some (50, false), .mv (.s 3)⟩,
    ⟨some 52, some (50, false), .ia 2 (.s 51) (.c (.t (.int .i64 0)))⟩,
    ⟨some 53, some (50, false), .fa 1 (.s 52)⟩,
    ⟨some 54, some (50, false), .ld false 1 (.s 53)⟩,
    ⟨some 55, some (50, false), .len (.s 54)⟩,
    ⟨some 56, some (50, false), .bin .neq (.s 55) (.c (.t (.int .i64 2)))⟩,
    ⟨some 57, none, .pick (.s 50) (.c (.t (.bool true))) (.s 56)⟩,
    ⟨some 58, none, .mv (.s 57)⟩,
    ⟨some 59, some (58, false), .mv (.s 3)⟩,
    ⟨some 60, some (58, false), .ia 2 (.s 59) (.c (.t (.int .i64 1)))⟩,
    ⟨some 61, some (58, false), .fa 0 (.s 60)⟩,
    ⟨some 62, some (58, false), .ld false 1 (.s 61)⟩,
    ⟨some 63, some (58, false), .bin .neq (.s 62) (.c (.t (.str [98])))⟩,
    ⟨some 64, none, .pick (.s 58) (.c (.t (.bool true))) (.s 63)⟩,
    ⟨some 65, none, .mv (.s 64)⟩,
    ⟨some 66, some (65, false), .mv (.s 3)⟩,
    ⟨some 67, some (65, false), .ia 2 (.s 66) (.c (.t (.int .i64 1)))⟩,
    ⟨some 68, some (65, false), .fa 1 (.s 67)⟩,
    ⟨some 69, some (65, false), .ld false 1 (.s 68)⟩,
    ⟨some 70, some (65, false), .len (.s 69)⟩,
    ⟨some 71, some (65, false), .bin .neq (.s 70) (.c (.t (.int .i64 1)))⟩,
    ⟨some 72, none, .pick (.s 65) (.c (.t (.bool true))) (.s 71)⟩,
    ⟨some 73, none, .mv (.s 72)⟩,
    ⟨some 74, some (73, false), .mv (.s 3)⟩,
    ⟨some 75, some (73, false), .ia 2 (.s 74) (.c (.t (.int .i64 1)))⟩,
    ⟨some 76, some (73, false), .fa 1 (.s 75)⟩,
    ⟨some 77, some (73, false), .ld false 1 (.s 76)⟩,
    ⟨some 78, some (73, false), .ia 8 (.s 77) (.c (.t (.int .i64 0)))⟩,
    ⟨some 79, some (73, false), .fa 0 (.s 78)⟩,
    ⟨some 80, some (73, false), .fa 2 (.s 79)⟩,
    ⟨some 81, some (73, false), .ld false 1 (.s 80)⟩,
    ⟨some 82, some (73, false), .bin .neq (.s 81) (.c (.t (.str [99])))⟩,
    ⟨some 83, none, .pick (.s 73) (.c (.t (.bool true))) (.s 82)⟩] [] [3, 4, 5, 83]) c8_2) c8_0)
def c8_4 : ACode :=
  (.seq (.region false [⟨some 36, none, .bsl true 1 [[.str []]] [(0, (.c (.t (.str [98]))))]⟩,
    ⟨some 37, none, .build [.t (.int .i64 0), .t (.int .i64 0), .t (.str []), .nils, .nils] [(0, 1, (.c (.t (.int .i64 1)))), (1, 1, (.c (.t (.int .i64 1))))]⟩,
    ⟨some 38, none, .bsl true 5 [[.int .i64 0, .int .i64 0, .str [], .lst [], .lst []]] [(0, (.s 37))]⟩,
    ⟨some 39, none, .build [.t (.int .i64 0), .t (.int .i64 0), .t (.str []), .nils, .nils] [(0, 1, (.c (.t (.int .i64 6)))), (4, 1, (.s 36)), (3, 1, (.s 38))]⟩,
    ⟨some 5, none, .alloc [.t (.int .i64 0), .t (.int .i64 0), .t (.str []), .nils, .nils]⟩,
    ⟨none, none, .st 5 (.s 5) (.s 39)⟩] [] [3, 4, 5]) c8_3)
def c8_5 : ACode :=
  (.seq (.region false [⟨some 31, none, .build [.t (.int .i64 0), .t (.int .i64 0), .t (.str []), .nils, .nils] [(0, 1, (.c (.t (.int .i64 7)))), (2, 1, (.c (.t (.str [98]))))]⟩,
    ⟨some 32, none, .build [.t (.str []), .t (.int .i64 0), .t (.int .i64 0), .t (.str []), .nils, .nils] [(0, 1, (.c (.t (.str [105, 102])))), (1, 5, (.s 31))]⟩,
    ⟨some 33, none, .bsl true 6 [[.str [], .int .i64 0, .int .i64 0, .str [], .lst [], .lst []]] [(0, (.s 32))]⟩,
    ⟨some 34, none, .build [.t (.str []), .nils] [(0, 1, (.c (.t (.str [115, 107, 105, 112])))), (1, 1, (.s 33))]⟩,
    ⟨some 35, none, .bsl true 2 [[.str [], .lst []]] [(0, (.s 34))]⟩,
    ⟨some 4, none, .mv (.s 35)⟩] [] [3, 4]) c8_4)
def c8_6 : ACode :=
  (.seq (.region false [⟨some 26, none, .ld true 1 (.s 1)⟩,
    ⟨some 27, none, .build [.nils, .nils] []⟩,
    ⟨some 28, none, .mv (.s 2)⟩,
    ⟨some 29, none, .build [.t (.int .i64 0), .t (.int .i64 0), .t (.str []), .nils, .nils] []⟩,
    ⟨some 30, none, .call 12 [(.s 26), (.s 27), (.c (.t (.str [84]))), (.s 28), (.s 29)]⟩,
    ⟨some 3, none, .mv (.s 30)⟩] [] [3]) c8_5)
def c8_7 : ACode :=
  (.seq (.region false [⟨some 10, none, .call 22 [(.c (.t (.str []))), (.c (.t (.str [97])))]⟩,
    ⟨some 11, none, .build [.t (.int .i64 0), .t (.str []), .t (.str []), .t (.str []), .nils, .nils, .nils, .t (.str [])] [(0, 7, (.s 10))]⟩,
    ⟨some 12, none, .call 24 [(.c (.t (.str [108, 97, 98, 101, 108]))), (.c (.t (.str [120])))]⟩,
    ⟨some 13, none, .bsl true 6 [[.str [], .int .i64 0, .int .i64 0, .str [], .lst [], .lst []]] [(0, (.s 12))]⟩,
    ⟨some 14, none, .build [.t (.str []), .nils] [(0, 1, (.c (.t (.str [100, 101, 102, 101, 114])))), (1, 1, (.s 13))]⟩,
    ⟨some 15, none, .bsl true 2 [[.str [], .lst []]] [(0, (.s 14))]⟩,
    ⟨some 16, none, .call 22 [(.c (.t (.str [98]))), (.c (.t (.str [99])))]⟩,
    ⟨some 17, none, .call 22 [(.c (.t (.str []))), (.c (.t (.str [97])))]⟩,
    ⟨some 18, none, .bsl true 7 [[.int .i64 0, .str [], .str [], .str [], .lst [], .lst [], .lst []], [.int .i64 0, .str [], .str [], .str [], .lst [], .lst [], .lst []]] [(0, (.s 16)), (1, (.s 17))]⟩,
    ⟨some 19, none, .build [.t (.int .i64 0), .t (.str []), .t (.str []), .t (.str []), .nils, .nils, .nils] [(0, 1, (.c (.t (.int .i64 3)))), (3, 1, (.c (.t (.str [84])))), (5, 1, (.s 15)), (6, 1, (.s 18))]⟩,
    ⟨some 20, none, .build [.t (.int .i64 0), .t (.str []), .t (.str []), .t (.str []), .nils, .nils, .nils, .t (.str [])] [(0, 7, (.s 19))]⟩,
    ⟨some 21, none, .call 22 [(.c (.t (.str []))), (.c (.t (.str [100])))]⟩,
    ⟨some 22, none, .bsl true 7 [[.int .i64 0, .str [], .str [], .str [], .lst [], .lst [], .lst []]] [(0, (.s 21))]⟩,
    ⟨some 23, none, .build [.t (.int .i64 0), .t (.str []), .t (.str []), .t (.str []), .nils, .nils, .nils] [(0, 1, (.c (.t (.int .i64 3)))), (3, 1, (.c (.t (.str [85])))), (6, 1, (.s 22))]⟩,
    ⟨some 24, none, .build [.t (.int .i64 0), .t (.str []), .t (.str []), .t (.str []), .nils, .nils, .nils, .t (.str [])] [(0, 7, (.s 23))]⟩,
    ⟨some 25, none, .bsl true 8 [[.int .i64 0, .str [], .str [], .str [], .lst [], .lst [], .lst [], .str []], [.int .i64 0, .str [], .str [], .str [], .lst [], .lst [], .lst [], .str []], [.int .i64 0, .str [], .str [], .str [], .lst [], .lst [], .lst [], .str []]] [(0, (.s 11)), (1, (.s 20)), (2, (.s 24))]⟩,
    ⟨some 2, none, .mv (.s 25)⟩] [] [1, 2]) c8_6)
def c8_8 : ACode :=
  (.seq (.region false [⟨some 6, none, .build [.t (.int .i64 0), .t (.str []), .nils, .nils, .nils, .nils, .nils] [(0, 1, (.c (.t (.int .i64 1)))), (1, 1, (.c (.t (.str [84]))))]⟩,
    ⟨some 7, none, .build [.t (.int .i64 0), .t (.str []), .nils, .nils, .nils, .nils, .nils] [(0, 1, (.c (.t (.int .i64 3)))), (1, 1, (.c (.t (.str [85]))))]⟩,
    ⟨some 8, none, .bsl true 7 [[.int .i64 0, .str [], .lst [], .lst [], .lst [], .lst [], .lst []], [.int .i64 0, .str [], .lst [], .lst [], .lst [], .lst [], .lst []]] [(0, (.s 6)), (1, (.s 7))]⟩,
    ⟨some 9, none, .build [.nils] [(0, 1, (.s 8))]⟩,
    ⟨some 1, none, .alloc [.nils]⟩,
    ⟨none, none, .st 1 (.s 1) (.s 9)⟩] [] [1]) c8_7)
def c8 : ACode :=
  (.seq (.region false [⟨some 0, none, .cst (.t (.bool false))⟩] [] []) c8_8)
def r8 : List ARes := [.tmp 0]
def n8 : Nat := 107
/- 9 supergraph collect.Included -/
def c9_0 : ACode :=
  (.seq (.region false [⟨some 4, none, .cst (.t (.bool true))⟩] [] [4]) .ret)
def c9_1 : ACode :=
  (.region false [⟨some 32, none, .bin .add (.s 9) (.c (.t (.int .i64 1)))⟩,
    ⟨some 9, none, .mv (.s 32)⟩] [] [3, 7, 8, 9])
def c9_2 : ACode :=
  (.seq (.region false [⟨some 4, none, .cst (.t (.bool false))⟩] [] [4]) .ret)
def c9_3 : ACode :=
  (.cond (.s 31) c9_2 .skip)
def c9_4 : ACode :=
  (.seq (.region false [⟨some 13, none, .fa 0 (.s 6)⟩,
    ⟨some 14, none, .ld false 1 (.s 13)⟩,
    ⟨some 15, none, .bin .eql (.s 14) (.c (.t (.str [115, 107, 105, 112])))⟩,
    ⟨some 16, none, .mv (.s 15)⟩,
    ⟨some 17, some (16, true), .ld true 2 (.s 6)⟩,
    ⟨some 18, some (16, true), .ld true 5 (.s 3)⟩,
    ⟨some 19, some (16, true), .call 25 [(.s 17), (.s 18)]⟩,
    ⟨some 20, none, .pick (.s 16) (.s 19) (.c (.t (.bool false)))⟩,
    ⟨some 21, none, .mv (.s 20)⟩,
    ⟨some 22, some (21, false), .fa 0 (.s 6)⟩,
    ⟨some 23, some (21, false), .ld false 1 (.s 22)⟩,
    ⟨some 24, some (21, false), .bin .eql (.s 23) (.c (.t (.str [105, 110, 99, 108, 117, 100, 101])))⟩,
    ⟨some 25, some (21, false), .mv (.s 24)⟩,
    ⟨some 26, some (25, true), .ld true 2 (.s 6)⟩,
    ⟨some 27, some (25, true), .ld true 5 (.s 3)⟩,
    ⟨some 28, some (25, true), .call 25 [(.s 26), (.s 27)]⟩,
    ⟨some 29, some (25, true), .un .not (.s 28)⟩,
    ⟨some 30, some (21, false), .pick (.s 25) (.s 29) (.c (.t (.bool false)))⟩,
    ⟨some 31, none, .pick (.s 21) (.c (.t (.bool true))) (.s 30)⟩] [] [3, 7, 8, 9, 31]) c9_3)
def c9_5 : ACode :=
  (.seq (.region false [⟨some 11, none, .ia 2 (.s 7) (.s 9)⟩,
    ⟨some 12, none, .ld true 2 (.s 11)⟩,
    ⟨some 6, none, .alloc [.t (.str []), .nils]⟩,
    ⟨none, none, .st 2 (.s 6) (.s 12)⟩] [] [3, 6, 7, 8, 9]) c9_4)
def c9_6 : ACode :=
  (.seq (.block 1 c9_5) c9_1)
def c9_7 : ACode :=
  (.seq (.cond (.s 10) .skip (.exit 0)) c9_6)
def c9_8 : ACode :=
  (.seq (.region false [⟨some 10, none, .bin .lss (.s 9) (.s 8)⟩] [] [3, 7, 8, 9, 10]) c9_7)
def c9_9 : ACode :=
  (.loop c9_8)
def c9_10 : ACode :=
  (.block 0 c9_9)
def c9_11 : ACode :=
  (.seq (.seq (.region false [⟨some 7, none, .mv (.s 0)⟩,
    ⟨some 8, none, .len (.s 7)⟩,
    ⟨some 9, none, .cst (.t (.int .i64 0))⟩] [] [3, 7, 8, 9]) c9_10) c9_0)
def c9 : ACode :=
  (.seq (.region false [⟨some 3, none, .box 5 (.s 1)⟩,
    ⟨some 4, none, .cst (.t (.bool false))⟩] [] [0, 3]) c9_11)
def r9 : List ARes := [.tmp 4]
def n9 : Nat := 33
/- 10 supergraph supergraphref18.Included -/
/- 11 supergraph supergraphlaw18.few -/
def c11_0 : ACode :=
  (.seq (.region false [⟨some 25, none, .fa 0 (.s 1)⟩,
    ⟨some 26, none, .ld true 1 (.s 25)⟩,
    ⟨some 27, none, .call 21 [(.s 26)]⟩,
    ⟨some 28, none, .un .not (.s 27)⟩,
    ⟨some 29, none, .mv (.s 28)⟩,
    ⟨some 30, some (29, true), .fa 1 (.s 1)⟩,
    ⟨some 31, some (29, true), .ld true 2 (.s 30)⟩,
    ⟨some 32, some (29, true), .call 27 [(.s 31)]⟩,
    ⟨some 33, some (29, true), .un .not (.s 32)⟩,
    ⟨some 34, none, .pick (.s 29) (.s 33) (.c (.t (.bool false)))⟩,
    ⟨some 35, none, .mv (.s 34)⟩,
    ⟨some 36, some (35, true), .fa 4 (.s 1)⟩,
    ⟨some 37, some (35, true), .ld false 1 (.s 36)⟩,
    ⟨some 38, some (35, true), .len (.s 37)⟩,
    ⟨some 39, some (35, true), .bin .leq (.s 38) (.c (.t (.int .i64 100)))⟩,
    ⟨some 40, none, .pick (.s 35) (.s 39) (.c (.t (.bool false)))⟩,
    ⟨some 41, none, .mv (.s 40)⟩,
    ⟨some 42, some (41, true), .mv (.s 3)⟩,
    ⟨some 43, some (41, true), .build [.t (.int .i64 0), .t (.str []), .nils, .nils] [(3, 1, (.s 42))]⟩,
    ⟨some 44, some (41, true), .bsl true 4 [[.int .i64 0, .str [], .lst [], .lst []]] [(0, (.s 43))]⟩,
    ⟨some 45, some (41, true), .build [.nils, .nils] [(0, 1, (.s 44))]⟩,
    ⟨some 46, some (41, true), .call 27 [(.s 45)]⟩,
    ⟨some 47, some (41, true), .un .not (.s 46)⟩,
    ⟨some 48, none, .pick (.s 41) (.s 47) (.c (.t (.bool false)))⟩,
    ⟨some 2, none, .mv (.s 48)⟩] [] [2]) .ret)
def c11_1 : ACode :=
  (.region false [⟨some 14, none, .mv (.s 4)⟩,
    ⟨some 15, none, .bin .add (.s 14) (.c (.t (.int .i64 1)))⟩,
    ⟨some 4, none, .mv (.s 15)⟩] [] [1, 3, 4])
def c11_2 : ACode :=
  (.region false [⟨some 16, none, .mv (.s 3)⟩,
    ⟨some 17, none, .fa 4 (.s 1)⟩,
    ⟨some 18, none, .ld false 1 (.s 17)⟩,
    ⟨some 19, none, .mv (.s 4)⟩,
    ⟨some 20, none, .ia 8 (.s 18) (.s 19)⟩,
    ⟨some 21, none, .fa 0 (.s 20)⟩,
    ⟨some 22, none, .ld true 7 (.s 21)⟩,
    ⟨some 23, none, .bsl false 7 [[.int .i64 0, .str [], .str [], .str [], .lst [], .lst [], .lst []]] [(0, (.s 22))]⟩,
    ⟨some 24, none, .app 7 128 (.s 16) (.s 23)⟩,
    ⟨some 3, none, .mv (.s 24)⟩] [] [1, 3, 4])
def c11_3 : ACode :=
  (.seq (.block 1 c11_2) c11_1)
def c11_4 : ACode :=
  (.cond (.s 13) .skip (.exit 0))
def c11_5 : ACode :=
  (.seq (.seq (.region false [⟨some 5, none, .mv (.s 4)⟩,
    ⟨some 6, none, .fa 4 (.s 1)⟩,
    ⟨some 7, none, .ld false 1 (.s 6)⟩,
    ⟨some 8, none, .len (.s 7)⟩,
    ⟨some 9, none, .bin .lss (.s 5) (.s 8)⟩,
    ⟨some 10, none, .mv (.s 9)⟩,
    ⟨some 11, some (10, true), .mv (.s 4)⟩,
    ⟨some 12, some (10, true), .bin .leq (.s 11) (.c (.t (.int .i64 100)))⟩,
    ⟨some 13, none, .pick (.s 10) (.s 12) (.c (.t (.bool false)))⟩] [] [1, 3, 4, 13]) c11_4) c11_3)
def c11_6 : ACode :=
  (.loop c11_5)
def c11_7 : ACode :=
  (.block 0 c11_6)
def c11_8 : ACode :=
  (.seq (.seq (.region false [⟨some 4, none, .cst (.t (.int .i64 0))⟩] [] [1, 3, 4]) c11_7) c11_0)
def c11_9 : ACode :=
  (.seq (.region false [⟨some 3, none, .cst (.nils)⟩] [] [1, 3]) c11_8)
def c11 : ACode :=
  (.seq (.region false [⟨some 1, none, .box 5 (.s 0)⟩,
    ⟨some 2, none, .cst (.t (.bool false))⟩] [] [1]) c11_9)
def r11 : List ARes := [.tmp 2]
def n11 : Nat := 49
/- 12 supergraph collect.Fields -/
def c12_0 : ACode :=
  (.seq (.region false [⟨some 31, none, .mv (.s 11)⟩,
    ⟨some 32, none, .nilck (.s 31)⟩,
    ⟨some 33, none, .fa 9 (.s 32)⟩,
    ⟨some 34, none, .ld false 1 (.s 33)⟩,
    ⟨some 10, none, .mv (.s 34)⟩] [] [10]) .ret)
def c12_1 : ACode :=
  (.region false [⟨some 30, none, .bin .add (.s 23) (.c (.t (.int .i64 1)))⟩,
    ⟨some 23, none, .mv (.s 30)⟩] [] [11, 21, 22, 23])
def c12_2 : ACode :=
  (.region false [⟨some 27, none, .mv (.s 11)⟩,
    ⟨some 28, none, .ld true 8 (.s 13)⟩,
    ⟨some 29, none, .call 28 [(.s 27), (.s 28)]⟩] [] [11, 21, 22, 23])
def c12_3 : ACode :=
  (.seq (.region false [⟨some 25, none, .ia 8 (.s 21) (.s 23)⟩,
    ⟨some 26, none, .ld true 8 (.s 25)⟩,
    ⟨some 13, none, .alloc [.t (.int .i64 0), .t (.str []), .t (.str []), .t (.str []), .nils, .nils, .nils, .t (.str [])]⟩,
    ⟨none, none, .st 8 (.s 13) (.s 26)⟩] [] [11, 13, 21, 22, 23]) c12_2)
def c12_4 : ACode :=
  (.seq (.block 1 c12_3) c12_1)
def c12_5 : ACode :=
  (.seq (.cond (.s 24) .skip (.exit 0)) c12_4)
def c12_6 : ACode :=
  (.seq (.region false [⟨some 24, none, .bin .lss (.s 23) (.s 22)⟩] [] [11, 21, 22, 23, 24]) c12_5)
def c12_7 : ACode :=
  (.loop c12_6)
def c12_8 : ACode :=
  (.block 0 c12_7)
def c12_9 : ACode :=
  (.seq (.seq (.region false [⟨some 21, none, .mv (.s 3)⟩,
    ⟨some 22, none, .len (.s 21)⟩,
    ⟨some 23, none, .cst (.t (.int .i64 0))⟩] [] [11, 21, 22, 23]) c12_8) c12_0)
def c12_10 : ACode :=
  (.seq (.region false [⟨some 14, none, .ld true 1 (.s 5)⟩,
    ⟨some 15, none, .ld true 2 (.s 6)⟩,
    ⟨some 16, none, .mv (.s 2)⟩,
    ⟨some 17, none, .ld true 5 (.s 9)⟩,
    ⟨some 18, none, .mkmap true false⟩,
    ⟨some 19, none, .build [.nils, .nils, .nils, .t (.str []), .t (.int .i64 0), .t (.int .i64 0), .t (.str []), .nils, .nils, .nils, .t (.nilm)] [(0, 1, (.s 14)), (1, 2, (.s 15)), (3, 1, (.s 16)), (4, 5, (.s 17)), (10, 1, (.s 18))]⟩,
    ⟨some 20, none, .box 11 (.s 19)⟩,
    ⟨some 11, none, .mv (.s 20)⟩] [] [3, 11]) c12_9)
def c12 : ACode :=
  (.seq (.region false [⟨some 5, none, .box 1 (.s 0)⟩,
    ⟨some 6, none, .box 2 (.s 1)⟩,
    ⟨some 9, none, .box 5 (.s 4)⟩,
    ⟨some 10, none, .cst (.nils)⟩] [] [2, 3, 5, 6, 9]) c12_10)
def r12 : List ARes := [.tmp 10]
def n12 : Nat := 35
/- 13 supergraph supergraphlaw18.entries -/
def c13_0 : ACode :=
  (.seq (.region false [⟨some 25, none, .mv (.s 3)⟩,
    ⟨some 2, none, .mv (.s 25)⟩] [] [2]) .ret)
def c13_1 : ACode :=
  (.region false [⟨some 9, none, .mv (.s 4)⟩,
    ⟨some 10, none, .bin .add (.s 9) (.c (.t (.int .i64 1)))⟩,
    ⟨some 4, none, .mv (.s 10)⟩] [] [0, 3, 4])
def c13_2 : ACode :=
  (.region true [⟨some 11, none, .mv (.s 3)⟩,
    ⟨some 12, none, .mv (.s 0)⟩,
    ⟨some 13, none, .mv (.s 4)⟩,
    ⟨some 14, none, .ia 8 (.s 12) (.s 13)⟩,
    ⟨some 15, none, .fa 0 (.s 14)⟩,
    ⟨some 16, none, .ld true 7 (.s 15)⟩,
    ⟨some 17, none, .mv (.s 0)⟩,
    ⟨some 18, none, .mv (.s 4)⟩,
    ⟨some 19, none, .ia 8 (.s 17) (.s 18)⟩,
    ⟨some 20, none, .fa 7 (.s 19)⟩,
    ⟨some 21, none, .ld false 1 (.s 20)⟩,
    ⟨some 22, none, .build [.t (.int .i64 0), .t (.str []), .t (.str []), .t (.str []), .nils, .nils, .nils, .t (.str [])] [(0, 7, (.s 16)), (7, 1, (.s 21))]⟩,
    ⟨some 23, none, .bsl false 8 [[.int .i64 0, .str [], .str [], .str [], .lst [], .lst [], .lst [], .str []]] [(0, (.s 22))]⟩,
    ⟨some 24, none, .app 8 144 (.s 11) (.s 23)⟩,
    ⟨some 3, none, .mv (.s 24)⟩] [[], [], [], [1, 2], [3], [4], [], [], [6, 7], [8], [9], [5, 10], [11], [0, 12], [13, 13, 0, 1, 2, 3, 4, 5, 6, 7, 8, 9, 10, 11, 12, 13]] [0, 3, 4])
def c13_3 : ACode :=
  (.seq (.block 1 c13_2) c13_1)
def c13_4 : ACode :=
  (.cond (.s 8) .skip (.exit 0))
def c13_5 : ACode :=
  (.seq (.seq (.region false [⟨some 5, none, .mv (.s 4)⟩,
    ⟨some 6, none, .mv (.s 0)⟩,
    ⟨some 7, none, .len (.s 6)⟩,
    ⟨some 8, none, .bin .lss (.s 5) (.s 7)⟩] [] [0, 3, 4, 8]) c13_4) c13_3)
def c13_6 : ACode :=
  (.loop c13_5)
def c13_7 : ACode :=
  (.block 0 c13_6)
def c13_8 : ACode :=
  (.seq (.seq (.region false [⟨some 4, none, .cst (.t (.int .i64 0))⟩] [] [0, 3, 4]) c13_7) c13_0)
def c13_9 : ACode :=
  (.seq (.region false [⟨some 3, none, .cst (.nils)⟩] [] [0, 3]) c13_8)
def c13 : ACode :=
  (.seq (.region false [⟨some 2, none, .cst (.nils)⟩] [] [0]) c13_9)
def r13 : List ARes := [.tmp 2]
def n13 : Nat := 26
/- 14 supergraph supergraphref18.Fields -/
/- 15 supergraph supergraphref18.Same -/
/- 16 supergraph supergraphlaw18.plain -/
/- 17 supergraph collect.Label -/
def c17_0 : ACode :=
  (.seq (.region false [⟨some 12, none, .fa 1 (.s 1)⟩,
    ⟨some 13, none, .ld false 1 (.s 12)⟩,
    ⟨some 14, none, .ia 8 (.s 13) (.c (.t (.int .i64 0)))⟩,
    ⟨some 15, none, .fa 7 (.s 14)⟩,
    ⟨some 16, none, .ld false 1 (.s 15)⟩,
    ⟨some 2, none, .mv (.s 16)⟩] [] [2]) .ret)
def c17_1 : ACode :=
  (.seq (.region false [⟨some 2, none, .cst (.t (.str []))⟩] [] [2]) .ret)
def c17_2 : ACode :=
  (.cond (.s 11) c17_1 .skip)
def c17_3 : ACode :=
  (.seq (.seq (.region false [⟨some 3, none, .fa 1 (.s 1)⟩,
    ⟨some 4, none, .ld false 1 (.s 3)⟩,
    ⟨some 5, none, .len (.s 4)⟩,
    ⟨some 6, none, .bin .eql (.s 5) (.c (.t (.int .i64 0)))⟩,
    ⟨some 7, none, .mv (.s 6)⟩,
    ⟨some 8, some (7, false), .fa 1 (.s 1)⟩,
    ⟨some 9, some (7, false), .ld false 1 (.s 8)⟩,
    ⟨some 10, some (7, false), .call 31 [(.s 9), (.c (.t (.fn 32)))]⟩,
    ⟨some 11, none, .pick (.s 7) (.c (.t (.bool true))) (.s 10)⟩] [] [1, 11]) c17_2) c17_0)
def c17 : ACode :=
  (.seq (.region false [⟨some 1, none, .box 2 (.s 0)⟩,
    ⟨some 2, none, .cst (.t (.str []))⟩] [] [1]) c17_3)
def r17 : List ARes := [.tmp 2]
def n17 : Nat := 17
/- 18 supergraph supergraphref18.Label -/
/- 19 supergraph supergraphlaw18.keys -/
def c19_0 : ACode :=
  (.seq (.region false [⟨some 19, none, .mv (.s 3)⟩,
    ⟨some 2, none, .mv (.s 19)⟩] [] [2]) .ret)
def c19_1 : ACode :=
  (.region false [⟨some 9, none, .mv (.s 4)⟩,
    ⟨some 10, none, .bin .add (.s 9) (.c (.t (.int .i64 1)))⟩,
    ⟨some 4, none, .mv (.s 10)⟩] [] [0, 3, 4])
def c19_2 : ACode :=
  (.region false [⟨some 11, none, .mv (.s 3)⟩,
    ⟨some 12, none, .mv (.s 0)⟩,
    ⟨some 13, none, .mv (.s 4)⟩,
    ⟨some 14, none, .ia 2 (.s 12) (.s 13)⟩,
    ⟨some 15, none, .fa 0 (.s 14)⟩,
    ⟨some 16, none, .ld false 1 (.s 15)⟩,
    ⟨some 17, none, .bsl false 1 [[.str []]] [(0, (.s 16))]⟩,
    ⟨some 18, none, .app 1 16 (.s 11) (.s 17)⟩,
    ⟨some 3, none, .mv (.s 18)⟩] [] [0, 3, 4])
def c19_3 : ACode :=
  (.seq (.block 1 c19_2) c19_1)
def c19_4 : ACode :=
  (.cond (.s 8) .skip (.exit 0))
def c19_5 : ACode :=
  (.seq (.seq (.region false [⟨some 5, none, .mv (.s 4)⟩,
    ⟨some 6, none, .mv (.s 0)⟩,
    ⟨some 7, none, .len (.s 6)⟩,
    ⟨some 8, none, .bin .lss (.s 5) (.s 7)⟩] [] [0, 3, 4, 8]) c19_4) c19_3)
def c19_6 : ACode :=
  (.loop c19_5)
def c19_7 : ACode :=
  (.block 0 c19_6)
def c19_8 : ACode :=
  (.seq (.seq (.region false [⟨some 4, none, .cst (.t (.int .i64 0))⟩] [] [0, 3, 4]) c19_7) c19_0)
def c19_9 : ACode :=
  (.seq (.region false [⟨some 3, none, .cst (.nils)⟩] [] [0, 3]) c19_8)
def c19 : ACode :=
  (.seq (.region false [⟨some 2, none, .cst (.nils)⟩] [] [0]) c19_9)
def r19 : List ARes := [.tmp 2]
def n19 : Nat := 20
/- 20 supergraph supergraphlaw18.has -/
def c20_0 : ACode :=
  (.seq (.region false [⟨some 4, none, .cst (.t (.bool false))⟩] [] [4]) .ret)
def c20_1 : ACode :=
  (.region false [⟨some 10, none, .mv (.s 5)⟩,
    ⟨some 11, none, .bin .add (.s 10) (.c (.t (.int .i64 1)))⟩,
    ⟨some 5, none, .mv (.s 11)⟩] [] [0, 1, 5])
def c20_2 : ACode :=
  (.seq (.region false [⟨some 4, none, .cst (.t (.bool true))⟩] [] [4]) .ret)
def c20_3 : ACode :=
  (.cond (.s 17) c20_2 .skip)
def c20_4 : ACode :=
  (.seq (.region false [⟨some 12, none, .mv (.s 0)⟩,
    ⟨some 13, none, .mv (.s 5)⟩,
    ⟨some 14, none, .ia 1 (.s 12) (.s 13)⟩,
    ⟨some 15, none, .ld false 1 (.s 14)⟩,
    ⟨some 16, none, .mv (.s 1)⟩,
    ⟨some 17, none, .bin .eql (.s 15) (.s 16)⟩] [] [0, 1, 5, 17]) c20_3)
def c20_5 : ACode :=
  (.seq (.block 1 c20_4) c20_1)
def c20_6 : ACode :=
  (.cond (.s 9) .skip (.exit 0))
def c20_7 : ACode :=
  (.seq (.seq (.region false [⟨some 6, none, .mv (.s 5)⟩,
    ⟨some 7, none, .mv (.s 0)⟩,
    ⟨some 8, none, .len (.s 7)⟩,
    ⟨some 9, none, .bin .lss (.s 6) (.s 8)⟩] [] [0, 1, 5, 9]) c20_6) c20_5)
def c20_8 : ACode :=
  (.loop c20_7)
def c20_9 : ACode :=
  (.block 0 c20_8)
def c20_10 : ACode :=
  (.seq (.seq (.region false [⟨some 5, none, .cst (.t (.int .i64 0))⟩] [] [0, 1, 5]) c20_9) c20_0)
def c20 : ACode :=
  (.seq (.region false [⟨some 4, none, .cst (.t (.bool false))⟩] [] [0, 1]) c20_10)
def r20 : List ARes := [.tmp 4]
def n20 : Nat := 18
/- 21 supergraph supergraphref10.Large -/
def c21_0 : ACode :=
  (.seq (.region false [⟨some 69, none, .mv (.s 3)⟩,
    ⟨some 70, none, .bin .gtr (.s 69) (.c (.t (.int .i64 1000)))⟩,
    ⟨some 2, none, .mv (.s 70)⟩] [] [2]) .ret)
def c21_1 : ACode :=
  (.region false [⟨some 16, none, .mv (.s 4)⟩,
    ⟨some 17, none, .bin .add (.s 16) (.c (.t (.int .i64 1)))⟩,
    ⟨some 4, none, .mv (.s 17)⟩] [] [1, 3, 4])
def c21_2 : ACode :=
  (.region false [⟨some 50, none, .mv (.s 6)⟩,
    ⟨some 51, none, .bin .add (.s 50) (.c (.t (.int .i64 1)))⟩,
    ⟨some 6, none, .mv (.s 51)⟩] [] [1, 3, 4, 5, 6])
def c21_3 : ACode :=
  (.region true [⟨some 52, none, .mv (.s 3)⟩,
    ⟨some 53, none, .fa 4 (.s 5)⟩,
    ⟨some 54, none, .ld false 1 (.s 53)⟩,
    ⟨some 55, none, .mv (.s 6)⟩,
    ⟨some 56, none, .ia 5 (.s 54) (.s 55)⟩,
    ⟨some 57, none, .fa 1 (.s 56)⟩,
    ⟨some 58, none, .ld false 1 (.s 57)⟩,
    ⟨some 59, none, .len (.s 58)⟩,
    ⟨some 60, none, .fa 4 (.s 5)⟩,
    ⟨some 61, none, .ld false 1 (.s 60)⟩,
    ⟨some 62, none, .mv (.s 6)⟩,
    ⟨some 63, none, .ia 5 (.s 61) (.s 62)⟩,
    ⟨some 64, none, .fa 4 (.s 63)⟩,
    ⟨some 65, none, .ld false 1 (.s 64)⟩,
    ⟨some 66, none, .len (.s 65)⟩,
    ⟨some 67, none, .bin .add (.s 59) (.s 66)⟩,
    ⟨some 68, none, .bin .add (.s 52) (.s 67)⟩,
    ⟨some 3, none, .mv (.s 68)⟩] [[], [], [1], [], [2, 3], [4], [5], [6], [], [8], [], [9, 10], [11], [12], [13], [7, 14], [0, 15], [16, 0, 1, 2, 3, 4, 5, 6, 7, 8, 9, 10, 11, 12, 13, 14, 15, 16]] [1, 3, 4, 5, 6])
def c21_4 : ACode :=
  (.seq (.block 3 c21_3) c21_2)
def c21_5 : ACode :=
  (.cond (.s 49) .skip (.exit 2))
def c21_6 : ACode :=
  (.seq (.seq (.region false [⟨some 45, none, .mv (.s 6)⟩,
    ⟨some 46, none, .fa 4 (.s 5)⟩,
    ⟨some 47, none, .ld false 1 (.s 46)⟩,
    ⟨some 48, none, .len (.s 47)⟩,
    ⟨some 49, none, .bin .lss (.s 45) (.s 48)⟩] [] [1, 3, 4, 5, 6, 49]) c21_5) c21_4)
def c21_7 : ACode :=
  (.loop c21_6)
def c21_8 : ACode :=
  (.block 2 c21_7)
def c21_9 : ACode :=
  (.seq (.region false [⟨some 6, none, .cst (.t (.int .i64 0))⟩] [] [1, 3, 4, 5, 6]) c21_8)
def c21_10 : ACode :=
  (.seq (.region false [⟨some 23, none, .mv (.s 3)⟩,
    ⟨some 24, none, .fa 4 (.s 5)⟩,
    ⟨some 25, none, .ld false 1 (.s 24)⟩,
    ⟨some 26, none, .len (.s 25)⟩,
    ⟨some 27, none, .bin .add (.c (.t (.int .i64 1))) (.s 26)⟩,
    ⟨some 28, none, .fa 5 (.s 5)⟩,
    ⟨some 29, none, .ld false 1 (.s 28)⟩,
    ⟨some 30, none, .len (.s 29)⟩,
    ⟨some 31, none, .bin .add (.s 27) (.s 30)⟩,
    ⟨some 32, none, .fa 6 (.s 5)⟩,
    ⟨some 33, none, .ld false 1 (.s 32)⟩,
    ⟨some 34, none, .len (.s 33)⟩,
    ⟨some 35, none, .bin .add (.s 31) (.s 34)⟩,
    ⟨some 36, none, .fa 3 (.s 5)⟩,
    ⟨some 37, none, .ld false 1 (.s 36)⟩,
    ⟨some 38, none, .len (.s 37)⟩,
    ⟨some 39, none, .bin .add (.s 35) (.s 38)⟩,
    ⟨some 40, none, .fa 2 (.s 5)⟩,
    ⟨some 41, none, .ld false 1 (.s 40)⟩,
    ⟨some 42, none, .len (.s 41)⟩,
    ⟨some 43, none, .bin .add (.s 39) (.s 42)⟩,
    ⟨some 44, none, .bin .add (.s 23) (.s 43)⟩,
    ⟨some 3, none, .mv (.s 44)⟩] [] [1, 3, 4, 5]) c21_9)
def c21_11 : ACode :=
  (.seq (.region false [⟨some 18, none, .fa 0 (.s 1)⟩,
    ⟨some 19, none, .ld false 1 (.s 18)⟩,
    ⟨some 20, none, .mv (.s 4)⟩,
    ⟨some 21, none, .ia 7 (.s 19) (.s 20)⟩,
    ⟨some 22, none, .ld true 7 (.s 21)⟩,
    ⟨some 5, none, .alloc [.t (.int .i64 0), .t (.str []), .nils, .nils, .nils, .nils, .nils]⟩,
    ⟨none, none, .st 7 (.s 5) (.s 22)⟩] [] [1, 3, 4, 5]) c21_10)
def c21_12 : ACode :=
  (.seq (.block 1 c21_11) c21_1)
def c21_13 : ACode :=
  (.cond (.s 15) .skip (.exit 0))
def c21_14 : ACode :=
  (.seq (.seq (.region false [⟨some 11, none, .mv (.s 4)⟩,
    ⟨some 12, none, .fa 0 (.s 1)⟩,
    ⟨some 13, none, .ld false 1 (.s 12)⟩,
    ⟨some 14, none, .len (.s 13)⟩,
    ⟨some 15, none, .bin .lss (.s 11) (.s 14)⟩] [] [1, 3, 4, 15]) c21_13) c21_12)
def c21_15 : ACode :=
  (.loop c21_14)
def c21_16 : ACode :=
  (.block 0 c21_15)
def c21_17 : ACode :=
  (.seq (.seq (.region false [⟨some 4, none, .cst (.t (.int .i64 0))⟩] [] [1, 3, 4]) c21_16) c21_0)
def c21_18 : ACode :=
  (.seq (.region false [⟨some 3, none, .cst (.t (.int .i64 0))⟩] [] [1, 3]) c21_17)
def c21_19 : ACode :=
  (.seq (.region false [⟨some 2, none, .cst (.t (.bool true))⟩] [] [2]) .ret)
def c21_20 : ACode :=
  (.cond (.s 10) c21_19 .skip)
def c21_21 : ACode :=
  (.seq (.seq (.region false [⟨some 7, none, .fa 0 (.s 1)⟩,
    ⟨some 8, none, .ld false 1 (.s 7)⟩,
    ⟨some 9, none, .len (.s 8)⟩,
    ⟨some 10, none, .bin .gtr (.s 9) (.c (.t (.int .i64 70)))⟩] [] [1, 10]) c21_20) c21_18)
def c21 : ACode :=
  (.seq (.region false [⟨some 1, none, .box 1 (.s 0)⟩,
    ⟨some 2, none, .cst (.t (.bool false))⟩] [] [1]) c21_21)
def r21 : List ARes := [.tmp 2]
def n21 : Nat := 71
/- 22 supergraph supergraphlaw18.field -/
def c22_0 : ACode :=
  (.seq (.region false [⟨some 5, none, .mv (.s 0)⟩,
    ⟨some 6, none, .mv (.s 1)⟩,
    ⟨some 7, none, .build [.t (.int .i64 0), .t (.str []), .t (.str []), .t (.str []), .nils, .nils, .nils] [(0, 1, (.c (.t (.int .i64 1)))), (1, 1, (.s 5)), (2, 1, (.s 6))]⟩,
    ⟨none, none, .st 7 (.s 4) (.s 7)⟩] [] [4]) .ret)
def c22 : ACode :=
  (.seq (.region false [⟨some 4, none, .alloc [.t (.int .i64 0), .t (.str []), .t (.str []), .t (.str []), .nils, .nils, .nils]⟩] [] [0, 1, 4]) c22_0)
def r22 : List ARes := [.cell 4 true 7]
def n22 : Nat := 8
/- 23 supergraph abstract.Is -/
def c23_0 : ACode :=
  (.seq (.region false [⟨some 7, none, .ld true 1 (.s 3)⟩,
    ⟨some 8, none, .mv (.s 2)⟩,
    ⟨some 9, none, .call 34 [(.s 7), (.s 8)]⟩,
    ⟨some 10, none, .mv (.s 1)⟩,
    ⟨some 11, none, .call 33 [(.s 9), (.s 10)]⟩,
    ⟨some 6, none, .mv (.s 11)⟩] [] [6]) .ret)
def c23 : ACode :=
  (.seq (.region false [⟨some 3, none, .box 1 (.s 0)⟩,
    ⟨some 6, none, .cst (.t (.bool false))⟩] [] [1, 2, 3]) c23_0)
def r23 : List ARes := [.tmp 6]
def n23 : Nat := 12
/- 24 supergraph supergraphlaw18.text -/
def c24_0 : ACode :=
  (.seq (.region false [⟨some 5, none, .mv (.s 0)⟩,
    ⟨some 6, none, .mv (.s 1)⟩,
    ⟨some 7, none, .build [.t (.int .i64 0), .t (.int .i64 0), .t (.str []), .nils, .nils] [(0, 1, (.c (.t (.int .i64 3)))), (2, 1, (.s 6))]⟩,
    ⟨some 8, none, .build [.t (.str []), .t (.int .i64 0), .t (.int .i64 0), .t (.str []), .nils, .nils] [(0, 1, (.s 5)), (1, 5, (.s 7))]⟩,
    ⟨none, none, .st 6 (.s 4) (.s 8)⟩] [] [4]) .ret)
def c24 : ACode :=
  (.seq (.region false [⟨some 4, none, .alloc [.t (.str []), .t (.int .i64 0), .t (.int .i64 0), .t (.str []), .nils, .nils]⟩] [] [0, 1, 4]) c24_0)
def r24 : List ARes := [.cell 4 true 6]
def n24 : Nat := 9
/- 25 supergraph collect.holds -/
def c25_0 : ACode :=
  (.seq (.region false [⟨some 22, none, .fa 0 (.s 5)⟩,
    ⟨some 23, none, .ld false 1 (.s 22)⟩,
    ⟨some 24, none, .bin .eql (.s 23) (.c (.t (.int .i64 1)))⟩,
    ⟨some 25, none, .mv (.s 24)⟩,
    ⟨some 26, some (25, true), .fa 1 (.s 5)⟩,
    ⟨some 27, some (25, true), .ld false 1 (.s 26)⟩,
    ⟨some 28, some (25, true), .bin .eql (.s 27) (.c (.t (.int .i64 1)))⟩,
    ⟨some 29, none, .pick (.s 25) (.s 28) (.c (.t (.bool false)))⟩,
    ⟨some 4, none, .mv (.s 29)⟩] [] [4]) .ret)
def c25_1 : ACode :=
  (.region false [⟨some 16, none, .ld true 5 (.s 3)⟩,
    ⟨some 17, none, .fa 2 (.s 5)⟩,
    ⟨some 18, none, .ld false 1 (.s 17)⟩,
    ⟨some 19, none, .call 36 [(.s 16), (.s 18)]⟩,
    ⟨some 15, none, .mv (.s 19)⟩,
    ⟨some 20, none, .ext (.s 15) 0⟩,
    ⟨some 21, none, .ext (.s 15) 1⟩,
    ⟨none, none, .st 5 (.s 5) (.s 20)⟩] [] [5])
def c25_2 : ACode :=
  (.cond (.s 14) c25_1 .skip)
def c25_3 : ACode :=
  (.seq (.seq (.region false [⟨some 12, none, .fa 0 (.s 5)⟩,
    ⟨some 13, none, .ld false 1 (.s 12)⟩,
    ⟨some 14, none, .bin .eql (.s 13) (.c (.t (.int .i64 7)))⟩] [] [3, 5, 14]) c25_2) c25_0)
def c25_4 : ACode :=
  (.seq (.region false [⟨some 8, none, .ld true 2 (.s 2)⟩,
    ⟨some 9, none, .call 35 [(.s 8), (.c (.t (.str [105, 102])))]⟩,
    ⟨some 7, none, .mv (.s 9)⟩,
    ⟨some 10, none, .ext (.s 7) 0⟩,
    ⟨some 11, none, .ext (.s 7) 1⟩,
    ⟨some 5, none, .alloc [.t (.int .i64 0), .t (.int .i64 0), .t (.str []), .nils, .nils]⟩,
    ⟨none, none, .st 5 (.s 5) (.s 10)⟩,
    ⟨some 6, none, .mv (.s 11)⟩] [] [3, 5]) c25_3)
def c25 : ACode :=
  (.seq (.region false [⟨some 2, none, .box 2 (.s 0)⟩,
    ⟨some 3, none, .box 5 (.s 1)⟩,
    ⟨some 4, none, .cst (.t (.bool false))⟩] [] [2, 3]) c25_4)
def r25 : List ARes := [.tmp 4]
def n25 : Nat := 30
/- 26 supergraph supergraphref18.holds -/
/- 27 supergraph supergraphref08.Large -/
def c27_0 : ACode :=
  (.seq (.region false [⟨some 61, none, .mv (.s 3)⟩,
    ⟨some 62, none, .bin .gtr (.s 61) (.c (.t (.int .i64 600)))⟩,
    ⟨some 2, none, .mv (.s 62)⟩] [] [2]) .ret)
def c27_1 : ACode :=
  (.region false [⟨some 50, none, .mv (.s 5)⟩,
    ⟨some 51, none, .bin .add (.s 50) (.c (.t (.int .i64 1)))⟩,
    ⟨some 5, none, .mv (.s 51)⟩] [] [1, 3, 5])
def c27_2 : ACode :=
  (.region false [⟨some 52, none, .mv (.s 3)⟩,
    ⟨some 53, none, .fa 1 (.s 1)⟩,
    ⟨some 54, none, .ld false 1 (.s 53)⟩,
    ⟨some 55, none, .mv (.s 5)⟩,
    ⟨some 56, none, .ia 3 (.s 54) (.s 55)⟩,
    ⟨some 57, none, .fa 2 (.s 56)⟩,
    ⟨some 58, none, .ld false 1 (.s 57)⟩,
    ⟨some 59, none, .call 39 [(.s 58), (.c (.t (.int .i64 600)))]⟩,
    ⟨some 60, none, .bin .add (.s 52) (.s 59)⟩,
    ⟨some 3, none, .mv (.s 60)⟩] [] [1, 3, 5])
def c27_3 : ACode :=
  (.seq (.block 3 c27_2) c27_1)
def c27_4 : ACode :=
  (.cond (.s 49) .skip (.exit 2))
def c27_5 : ACode :=
  (.seq (.seq (.region false [⟨some 41, none, .mv (.s 5)⟩,
    ⟨some 42, none, .fa 1 (.s 1)⟩,
    ⟨some 43, none, .ld false 1 (.s 42)⟩,
    ⟨some 44, none, .len (.s 43)⟩,
    ⟨some 45, none, .bin .lss (.s 41) (.s 44)⟩,
    ⟨some 46, none, .mv (.s 45)⟩,
    ⟨some 47, some (46, true), .mv (.s 3)⟩,
    ⟨some 48, some (46, true), .bin .leq (.s 47) (.c (.t (.int .i64 600)))⟩,
    ⟨some 49, none, .pick (.s 46) (.s 48) (.c (.t (.bool false)))⟩] [] [1, 3, 5, 49]) c27_4) c27_3)
def c27_6 : ACode :=
  (.loop c27_5)
def c27_7 : ACode :=
  (.block 2 c27_6)
def c27_8 : ACode :=
  (.seq (.seq (.region false [⟨some 5, none, .cst (.t (.int .i64 0))⟩] [] [1, 3, 5]) c27_7) c27_0)
def c27_9 : ACode :=
  (.region false [⟨some 22, none, .mv (.s 4)⟩,
    ⟨some 23, none, .bin .add (.s 22) (.c (.t (.int .i64 1)))⟩,
    ⟨some 4, none, .mv (.s 23)⟩] [] [1, 3, 4])
def c27_10 : ACode :=
  (.region true [⟨some 24, none, .mv (.s 3)⟩,
    ⟨some 25, none, .fa 0 (.s 1)⟩,
    ⟨some 26, none, .ld false 1 (.s 25)⟩,
    ⟨some 27, none, .mv (.s 4)⟩,
    ⟨some 28, none, .ia 4 (.s 26) (.s 27)⟩,
    ⟨some 29, none, .fa 2 (.s 28)⟩,
    ⟨some 30, none, .ld false 1 (.s 29)⟩,
    ⟨some 31, none, .len (.s 30)⟩,
    ⟨some 32, none, .bin .add (.s 24) (.s 31)⟩,
    ⟨some 33, none, .fa 0 (.s 1)⟩,
    ⟨some 34, none, .ld false 1 (.s 33)⟩,
    ⟨some 35, none, .mv (.s 4)⟩,
    ⟨some 36, none, .ia 4 (.s 34) (.s 35)⟩,
    ⟨some 37, none, .fa 3 (.s 36)⟩,
    ⟨some 38, none, .ld false 1 (.s 37)⟩,
    ⟨some 39, none, .call 39 [(.s 38), (.c (.t (.int .i64 600)))]⟩,
    ⟨some 40, none, .bin .add (.s 32) (.s 39)⟩,
    ⟨some 3, none, .mv (.s 40)⟩] [[], [], [1], [], [2, 3], [4], [5], [6], [0, 7], [], [9], [], [10, 11], [12], [13], [14], [8, 15], [16, 15, 0, 1, 2, 3, 4, 5, 6, 7, 8, 9, 10, 11, 12, 13, 14, 15, 16]] [1, 3, 4])
def c27_11 : ACode :=
  (.seq (.block 1 c27_10) c27_9)
def c27_12 : ACode :=
  (.cond (.s 21) .skip (.exit 0))
def c27_13 : ACode :=
  (.seq (.seq (.region false [⟨some 13, none, .mv (.s 4)⟩,
    ⟨some 14, none, .fa 0 (.s 1)⟩,
    ⟨some 15, none, .ld false 1 (.s 14)⟩,
    ⟨some 16, none, .len (.s 15)⟩,
    ⟨some 17, none, .bin .lss (.s 13) (.s 16)⟩,
    ⟨some 18, none, .mv (.s 17)⟩,
    ⟨some 19, some (18, true), .mv (.s 3)⟩,
    ⟨some 20, some (18, true), .bin .leq (.s 19) (.c (.t (.int .i64 600)))⟩,
    ⟨some 21, none, .pick (.s 18) (.s 20) (.c (.t (.bool false)))⟩] [] [1, 3, 4, 21]) c27_12) c27_11)
def c27_14 : ACode :=
  (.loop c27_13)
def c27_15 : ACode :=
  (.block 0 c27_14)
def c27_16 : ACode :=
  (.seq (.seq (.region false [⟨some 4, none, .cst (.t (.int .i64 0))⟩] [] [1, 3, 4]) c27_15) c27_8)
def c27_17 : ACode :=
  (.seq (.region false [⟨some 6, none, .fa 0 (.s 1)⟩,
    ⟨some 7, none, .ld false 1 (.s 6)⟩,
    ⟨some 8, none, .len (.s 7)⟩,
    ⟨some 9, none, .fa 1 (.s 1)⟩,
    ⟨some 10, none, .ld false 1 (.s 9)⟩,
    ⟨some 11, none, .len (.s 10)⟩,
    ⟨some 12, none, .bin .add (.s 8) (.s 11)⟩,
    ⟨some 3, none, .mv (.s 12)⟩] [] [1, 3]) c27_16)
def c27 : ACode :=
  (.seq (.region false [⟨some 1, none, .box 2 (.s 0)⟩,
    ⟨some 2, none, .cst (.t (.bool false))⟩] [] [1]) c27_17)
def r27 : List ARes := [.tmp 2]
def n27 : Nat := 63
/- 28 (*supergraph collect.collector).entry -/
def c28_0 : ACode :=
  (.region true [⟨some 42, none, .mv (.s 0)⟩,
    ⟨some 43, none, .fa 0 (.s 3)⟩,
    ⟨some 44, none, .fa 6 (.s 43)⟩,
    ⟨some 45, none, .ld false 1 (.s 44)⟩,
    ⟨some 46, none, .fa 0 (.s 3)⟩,
    ⟨some 47, none, .fa 5 (.s 46)⟩,
    ⟨some 48, none, .ld false 1 (.s 47)⟩,
    ⟨some 49, none, .fa 7 (.s 3)⟩,
    ⟨some 50, none, .ld false 1 (.s 49)⟩,
    ⟨some 51, none, .call 41 [(.s 48), (.s 50)]⟩,
    ⟨some 52, none, .call 40 [(.s 42), (.s 45), (.s 51)]⟩] [[], [], [1], [2], [], [4], [5], [], [7], [6, 8], [0, 3, 9, 9]] [])
def c28_1 : ACode :=
  (.cond (.s 41) c28_0 .skip)
def c28_2 : ACode :=
  (.seq (.region true [⟨some 24, none, .fa 0 (.s 3)⟩,
    ⟨some 25, none, .fa 3 (.s 24)⟩,
    ⟨some 26, none, .ld false 1 (.s 25)⟩,
    ⟨some 27, none, .bin .eql (.s 26) (.c (.t (.str [])))⟩,
    ⟨some 28, none, .mv (.s 27)⟩,
    ⟨some 29, some (28, false), .mv (.s 0)⟩,
    ⟨some 30, some (28, false), .nilck (.s 29)⟩,
    ⟨some 31, some (28, false), .fa 0 (.s 30)⟩,
    ⟨some 32, some (28, false), .ld true 1 (.s 31)⟩,
    ⟨some 33, some (28, false), .mv (.s 0)⟩,
    ⟨some 34, some (28, false), .nilck (.s 33)⟩,
    ⟨some 35, some (28, false), .fa 3 (.s 34)⟩,
    ⟨some 36, some (28, false), .ld false 1 (.s 35)⟩,
    ⟨some 37, some (28, false), .fa 0 (.s 3)⟩,
    ⟨some 38, some (28, false), .fa 3 (.s 37)⟩,
    ⟨some 39, some (28, false), .ld false 1 (.s 38)⟩,
    ⟨some 40, some (28, false), .call 23 [(.s 32), (.s 36), (.s 39)]⟩,
    ⟨some 41, none, .pick (.s 28) (.c (.t (.bool true))) (.s 40)⟩] [[], [0], [1], [2], [3], [4], [5, 4], [6, 4], [7, 4], [4], [9, 4], [10, 4], [11, 4], [4], [13, 4], [14, 4], [8, 12, 15, 4, 4], [4, 16]] [0, 3, 41]) c28_1)
def c28_3 : ACode :=
  (.region false [⟨some 104, none, .mv (.s 0)⟩,
    ⟨some 105, none, .fa 2 (.s 4)⟩,
    ⟨some 106, none, .ld false 1 (.s 105)⟩,
    ⟨some 107, none, .fa 1 (.s 6)⟩,
    ⟨some 108, none, .ld false 1 (.s 107)⟩,
    ⟨some 109, none, .call 40 [(.s 104), (.s 106), (.s 108)]⟩] [] [])
def c28_4 : ACode :=
  (.seq (.region true [⟨some 99, none, .mv (.s 0)⟩,
    ⟨some 100, none, .nilck (.s 99)⟩,
    ⟨some 101, none, .fa 10 (.s 100)⟩,
    ⟨some 102, none, .ld false 1 (.s 101)⟩,
    ⟨some 103, none, .ld true 2 (.s 6)⟩,
    ⟨none, none, .nw (.mupd [.str, .str] true (.s 102) (.s 103) (.c (.t (.bool true))))⟩] [[], [0], [1], [2], [], [3, 4, 0, 1, 2, 3, 4]] [0, 4, 6]) c28_3)
def c28_5 : ACode :=
  (.cond (.s 98) c28_4 .skip)
def c28_6 : ACode :=
  (.seq (.region true [⟨some 76, none, .mv (.s 5)⟩,
    ⟨some 77, none, .mv (.s 76)⟩,
    ⟨some 78, some (77, true), .mv (.s 0)⟩,
    ⟨some 79, some (77, true), .nilck (.s 78)⟩,
    ⟨some 80, some (77, true), .fa 0 (.s 79)⟩,
    ⟨some 81, some (77, true), .ld true 1 (.s 80)⟩,
    ⟨some 82, some (77, true), .mv (.s 0)⟩,
    ⟨some 83, some (77, true), .nilck (.s 82)⟩,
    ⟨some 84, some (77, true), .fa 3 (.s 83)⟩,
    ⟨some 85, some (77, true), .ld false 1 (.s 84)⟩,
    ⟨some 86, some (77, true), .fa 1 (.s 4)⟩,
    ⟨some 87, some (77, true), .ld false 1 (.s 86)⟩,
    ⟨some 88, some (77, true), .call 23 [(.s 81), (.s 85), (.s 87)]⟩,
    ⟨some 89, none, .pick (.s 77) (.s 88) (.c (.t (.bool false)))⟩,
    ⟨some 90, none, .mv (.s 89)⟩,
    ⟨some 91, some (90, true), .mv (.s 0)⟩,
    ⟨some 92, some (90, true), .nilck (.s 91)⟩,
    ⟨some 93, some (90, true), .fa 10 (.s 92)⟩,
    ⟨some 94, some (90, true), .ld false 1 (.s 93)⟩,
    ⟨some 95, some (90, true), .ld true 2 (.s 6)⟩,
    ⟨some 96, some (90, true), .nw (.lookup [.str, .str] true (.t (.bool false)) false (.s 94) (.s 95))⟩,
    ⟨some 97, some (90, true), .un .not (.s 96)⟩,
    ⟨some 98, none, .pick (.s 90) (.s 97) (.c (.t (.bool false)))⟩] [[], [0], [1], [2, 1], [3, 1], [4, 1], [1], [6, 1], [7, 1], [8, 1], [1], [10, 1], [5, 9, 11, 1, 1], [1, 12], [13, 12], [14], [15, 14], [16, 14], [17, 14], [14], [18, 19, 14], [20, 14], [14, 21]] [0, 4, 6, 98]) c28_5)
def c28_7 : ACode :=
  (.seq (.region true [⟨some 66, none, .fa 0 (.s 3)⟩,
    ⟨some 67, none, .fa 2 (.s 66)⟩,
    ⟨some 68, none, .ld false 1 (.s 67)⟩,
    ⟨some 69, none, .fa 0 (.s 3)⟩,
    ⟨some 70, none, .fa 5 (.s 69)⟩,
    ⟨some 71, none, .ld false 1 (.s 70)⟩,
    ⟨some 72, none, .fa 7 (.s 3)⟩,
    ⟨some 73, none, .ld false 1 (.s 72)⟩,
    ⟨some 74, none, .call 41 [(.s 71), (.s 73)]⟩,
    ⟨some 75, none, .build [.t (.str []), .t (.str [])] [(0, 1, (.s 68)), (1, 1, (.s 74))]⟩,
    ⟨some 6, none, .alloc [.t (.str []), .t (.str [])]⟩,
    ⟨none, none, .st 2 (.s 6) (.s 75)⟩] [[], [0], [1], [], [3], [4], [], [6], [5, 7], [2, 8], [], [10, 9, 8, 0, 1, 2, 3, 4, 5, 6, 7, 8, 9, 10]] [0, 4, 5, 6]) c28_6)
def c28_8 : ACode :=
  (.seq (.region true [⟨some 56, none, .mv (.s 0)⟩,
    ⟨some 57, none, .nilck (.s 56)⟩,
    ⟨some 58, none, .fa 1 (.s 57)⟩,
    ⟨some 59, none, .ld true 2 (.s 58)⟩,
    ⟨some 60, none, .fa 0 (.s 3)⟩,
    ⟨some 61, none, .fa 2 (.s 60)⟩,
    ⟨some 62, none, .ld false 1 (.s 61)⟩,
    ⟨some 63, none, .call 42 [(.s 59), (.s 62)]⟩,
    ⟨some 55, none, .mv (.s 63)⟩,
    ⟨some 64, none, .ext (.s 55) 0⟩,
    ⟨some 65, none, .ext (.s 55) 1⟩,
    ⟨some 4, none, .alloc [.t (.str []), .t (.str []), .nils]⟩,
    ⟨none, none, .st 3 (.s 4) (.s 64)⟩,
    ⟨some 5, none, .mv (.s 65)⟩] [[], [0], [1], [2], [], [4], [5], [3, 6], [7], [8], [8], [], [11, 9, 7, 0, 1, 2, 3, 4, 5, 6, 7, 8, 9, 11], [10, 12, 0, 1, 2, 3, 4, 5, 6, 7, 8, 9, 10, 11, 12]] [0, 3, 4, 5]) c28_7)
def c28_9 : ACode :=
  (.region false [⟨some 19, none, .mv (.s 0)⟩,
    ⟨some 20, none, .ld true 8 (.s 3)⟩,
    ⟨some 21, none, .call 43 [(.s 19), (.s 20)]⟩] [] [])
def c28_10 : ACode :=
  (.cond (.s 53) c28_8 c28_9)
def c28_11 : ACode :=
  (.seq (.region false [⟨some 54, none, .bin .eql (.s 18) (.c (.t (.int .i64 2)))⟩,
    ⟨some 53, none, .mv (.s 54)⟩] [] [0, 3, 53]) c28_10)
def c28_12 : ACode :=
  (.cond (.s 22) c28_2 c28_11)
def c28_13 : ACode :=
  (.seq (.region false [⟨some 23, none, .bin .eql (.s 18) (.c (.t (.int .i64 3)))⟩,
    ⟨some 22, none, .mv (.s 23)⟩] [] [0, 3, 18, 22]) c28_12)
def c28_14 : ACode :=
  (.block 0 c28_13)
def c28_15 : ACode :=
  (.seq (.region false [⟨some 16, none, .fa 0 (.s 3)⟩,
    ⟨some 17, none, .fa 0 (.s 16)⟩,
    ⟨some 18, none, .ld false 1 (.s 17)⟩] [] [0, 3, 18]) c28_14)
def c28_16 : ACode :=
  (.cond (.s 15) .ret .skip)
def c28_17 : ACode :=
  (.seq (.seq (.region true [⟨some 7, none, .fa 0 (.s 3)⟩,
    ⟨some 8, none, .fa 5 (.s 7)⟩,
    ⟨some 9, none, .ld false 1 (.s 8)⟩,
    ⟨some 10, none, .mv (.s 0)⟩,
    ⟨some 11, none, .nilck (.s 10)⟩,
    ⟨some 12, none, .fa 4 (.s 11)⟩,
    ⟨some 13, none, .ld true 5 (.s 12)⟩,
    ⟨some 14, none, .call 9 [(.s 9), (.s 13)]⟩,
    ⟨some 15, none, .un .not (.s 14)⟩] [[], [0], [1], [], [3], [4], [5], [2, 6], [7]] [0, 3, 15]) c28_16) c28_15)
def c28 : ACode :=
  (.seq (.region false [⟨some 3, none, .box 8 (.s 1)⟩] [] [0, 3]) c28_17)
def r28 : List ARes := []
def n28 : Nat := 110
/- 29 (*supergraph supergraphref18.work).entry -/
/- 30 supergraph supergraphref08.SameSels -/
/- 31 slices.ContainsFunc[[]supergraph collect.Entry,supergraph collect.Entry] -/
def c31_0 : ACode :=
  (.seq (.region false [⟨some 5, none, .mv (.s 0)⟩,
    ⟨some 6, none, .mv (.s 1)⟩,
    ⟨some 7, none, .call 52 [(.s 5), (.s 6)]⟩,
    ⟨some 8, none, .bin .geq (.s 7) (.c (.t (.int .i64 0)))⟩,
    ⟨some 4, none, .mv (.s 8)⟩] [] [4]) .ret)
def c31 : ACode :=
  (.seq (.region false [⟨some 4, none, .cst (.t (.bool false))⟩] [] [0, 1]) c31_0)
def r31 : List ARes := [.tmp 4]
def n31 : Nat := 9
/- 32 supergraph collect.Label 1 -/
def c32_0 : ACode :=
  (.seq (.region false [⟨some 3, none, .fa 7 (.s 1)⟩,
    ⟨some 4, none, .ld false 1 (.s 3)⟩,
    ⟨some 5, none, .bin .eql (.s 4) (.c (.t (.str [])))⟩,
    ⟨some 2, none, .mv (.s 5)⟩] [] [2]) .ret)
def c32 : ACode :=
  (.seq (.region false [⟨some 1, none, .box 8 (.s 0)⟩,
    ⟨some 2, none, .cst (.t (.bool false))⟩] [] [1]) c32_0)
def r32 : List ARes := [.tmp 2]
def n32 : Nat := 6
/- 33 slices.Contains[[]string,string] -/
def c33_0 : ACode :=
  (.seq (.region false [⟨some 5, none, .mv (.s 0)⟩,
    ⟨some 6, none, .mv (.s 1)⟩,
    ⟨some 7, none, .call 53 [(.s 5), (.s 6)]⟩,
    ⟨some 8, none, .bin .geq (.s 7) (.c (.t (.int .i64 0)))⟩,
    ⟨some 4, none, .mv (.s 8)⟩] [] [4]) .ret)
def c33 : ACode :=
  (.seq (.region false [⟨some 4, none, .cst (.t (.bool false))⟩] [] [0, 1]) c33_0)
def r33 : List ARes := [.tmp 4]
def n33 : Nat := 9
/- 34 supergraph abstract.Possible -/
def c34_0 : ACode :=
  (.seq (.region false [⟨some 112, none, .mv (.s 15)⟩,
    ⟨some 4, none, .mv (.s 112)⟩] [] [4]) .ret)
def c34_1 : ACode :=
  (.region false [⟨some 111, none, .bin .add (.s 95) (.c (.t (.int .i64 1)))⟩,
    ⟨some 95, none, .mv (.s 111)⟩] [] [7, 15, 93, 94, 95])
def c34_2 : ACode :=
  (.region false [⟨some 108, none, .mv (.s 7)⟩,
    ⟨some 109, none, .fa 1 (.s 17)⟩,
    ⟨some 110, none, .ld false 1 (.s 109)⟩,
    ⟨none, none, .nw (.mdel [.str] false (.s 108) (.s 110))⟩] [] [7, 15, 93, 94, 95])
def c34_3 : ACode :=
  (.seq (.region false [⟨some 103, none, .mv (.s 15)⟩,
    ⟨some 104, none, .fa 1 (.s 17)⟩,
    ⟨some 105, none, .ld false 1 (.s 104)⟩,
    ⟨some 106, none, .bsl false 1 [[.str []]] [(0, (.s 105))]⟩,
    ⟨some 107, none, .app 1 16 (.s 103) (.s 106)⟩,
    ⟨some 15, none, .mv (.s 107)⟩] [] [7, 15, 17, 93, 94, 95]) c34_2)
def c34_4 : ACode :=
  (.cond (.s 102) c34_3 .skip)
def c34_5 : ACode :=
  (.seq (.region false [⟨some 99, none, .mv (.s 7)⟩,
    ⟨some 100, none, .fa 1 (.s 17)⟩,
    ⟨some 101, none, .ld false 1 (.s 100)⟩,
    ⟨some 102, none, .nw (.lookup [.str] false (.t (.bool false)) false (.s 99) (.s 101))⟩] [] [7, 15, 17, 93, 94, 95, 102]) c34_4)
def c34_6 : ACode :=
  (.seq (.region false [⟨some 97, none, .ia 7 (.s 93) (.s 95)⟩,
    ⟨some 98, none, .ld true 7 (.s 97)⟩,
    ⟨some 17, none, .alloc [.t (.int .i64 0), .t (.str []), .nils, .nils, .nils, .nils, .nils]⟩,
    ⟨none, none, .st 7 (.s 17) (.s 98)⟩] [] [7, 15, 17, 93, 94, 95]) c34_5)
def c34_7 : ACode :=
  (.seq (.block 8 c34_6) c34_1)
def c34_8 : ACode :=
  (.seq (.cond (.s 96) .skip (.exit 7)) c34_7)
def c34_9 : ACode :=
  (.seq (.region false [⟨some 96, none, .bin .lss (.s 95) (.s 94)⟩] [] [7, 15, 93, 94, 95, 96]) c34_8)
def c34_10 : ACode :=
  (.loop c34_9)
def c34_11 : ACode :=
  (.block 7 c34_10)
def c34_12 : ACode :=
  (.seq (.seq (.region false [⟨some 92, none, .fa 0 (.s 2)⟩,
    ⟨some 93, none, .ld false 1 (.s 92)⟩,
    ⟨some 94, none, .len (.s 93)⟩,
    ⟨some 95, none, .cst (.t (.int .i64 0))⟩] [] [7, 15, 93, 94, 95]) c34_11) c34_0)
def c34_13 : ACode :=
  (.seq (.region false [⟨some 15, none, .cst (.nils)⟩] [] [2, 7, 15]) c34_12)
def c34_14 : ACode :=
  (.region false [⟨some 90, none, .mv (.s 7)⟩,
    ⟨some 91, none, .mv (.s 12)⟩,
    ⟨none, none, .nw (.mdel [.str] false (.s 90) (.s 91))⟩] [] [1, 2, 5, 7, 61])
def c34_15 : ACode :=
  (.cond (.s 89) c34_14 .skip)
def c34_16 : ACode :=
  (.seq (.region false [⟨some 72, none, .mv (.s 14)⟩,
    ⟨some 73, none, .un .not (.s 72)⟩,
    ⟨some 74, none, .mv (.s 73)⟩,
    ⟨some 75, some (74, false), .fa 0 (.s 13)⟩,
    ⟨some 76, some (74, false), .ld false 1 (.s 75)⟩,
    ⟨some 77, some (74, false), .bin .neq (.s 76) (.c (.t (.int .i64 1)))⟩,
    ⟨some 78, none, .pick (.s 74) (.c (.t (.bool true))) (.s 77)⟩,
    ⟨some 79, none, .mv (.s 78)⟩,
    ⟨some 80, some (79, false), .fa 0 (.s 5)⟩,
    ⟨some 81, some (79, false), .ld false 1 (.s 80)⟩,
    ⟨some 82, some (79, false), .bin .eql (.s 81) (.c (.t (.int .i64 2)))⟩,
    ⟨some 83, some (79, false), .mv (.s 82)⟩,
    ⟨some 84, some (83, true), .ld true 7 (.s 13)⟩,
    ⟨some 85, some (83, true), .mv (.s 1)⟩,
    ⟨some 86, some (83, true), .call 55 [(.s 84), (.s 85)]⟩,
    ⟨some 87, some (83, true), .un .not (.s 86)⟩,
    ⟨some 88, some (79, false), .pick (.s 83) (.s 87) (.c (.t (.bool false)))⟩,
    ⟨some 89, none, .pick (.s 79) (.c (.t (.bool true))) (.s 88)⟩] [] [1, 2, 5, 7, 12, 61, 89]) c34_15)
def c34_17 : ACode :=
  (.seq (.region false [⟨some 67, none, .ld true 1 (.s 2)⟩,
    ⟨some 68, none, .mv (.s 12)⟩,
    ⟨some 69, none, .call 54 [(.s 67), (.s 68)]⟩,
    ⟨some 66, none, .mv (.s 69)⟩,
    ⟨some 70, none, .ext (.s 66) 0⟩,
    ⟨some 71, none, .ext (.s 66) 1⟩,
    ⟨some 13, none, .alloc [.t (.int .i64 0), .t (.str []), .nils, .nils, .nils, .nils, .nils]⟩,
    ⟨none, none, .st 7 (.s 13) (.s 70)⟩,
    ⟨some 14, none, .mv (.s 71)⟩] [] [1, 2, 5, 7, 12, 13, 14, 61]) c34_16)
def c34_18 : ACode :=
  (.seq (.region false [⟨some 64, none, .nw (.ient (.s 61))⟩,
    ⟨some 65, none, .ext (.s 64) 0⟩,
    ⟨some 12, none, .mv (.s 65)⟩] [] [1, 2, 5, 7, 12, 61]) c34_17)
def c34_19 : ACode :=
  (.block 6 c34_18)
def c34_20 : ACode :=
  (.seq (.cond (.s 63) .skip (.exit 5)) c34_19)
def c34_21 : ACode :=
  (.seq (.region false [⟨some 62, none, .nw (.nxt (.s 61))⟩,
    ⟨some 63, none, .ext (.s 62) 0⟩] [] [1, 2, 5, 7, 61, 63]) c34_20)
def c34_22 : ACode :=
  (.loop c34_21)
def c34_23 : ACode :=
  (.block 5 c34_22)
def c34_24 : ACode :=
  (.seq (.seq (.region false [⟨some 60, none, .mv (.s 7)⟩,
    ⟨some 61, none, .mrange (.s 60)⟩] [] [1, 2, 5, 7, 61]) c34_23) c34_13)
def c34_25 : ACode :=
  (.region false [⟨some 29, none, .mv (.s 7)⟩,
    ⟨some 30, none, .mv (.s 1)⟩,
    ⟨none, none, .nw (.mupd [.str] false (.s 29) (.s 30) (.c (.t (.bool true))))⟩] [] [1, 2, 5, 7])
def c34_26 : ACode :=
  (.region false [⟨some 46, none, .bin .add (.s 36) (.c (.t (.int .i64 1)))⟩,
    ⟨some 36, none, .mv (.s 46)⟩] [] [1, 2, 5, 7, 34, 35, 36])
def c34_27 : ACode :=
  (.region false [⟨some 43, none, .mv (.s 7)⟩,
    ⟨some 44, none, .fa 1 (.s 9)⟩,
    ⟨some 45, none, .ld false 1 (.s 44)⟩,
    ⟨none, none, .nw (.mupd [.str] false (.s 43) (.s 45) (.c (.t (.bool true))))⟩] [] [1, 2, 5, 7, 34, 35, 36])
def c34_28 : ACode :=
  (.cond (.s 42) c34_27 .skip)
def c34_29 : ACode :=
  (.seq (.region false [⟨some 40, none, .ld true 7 (.s 9)⟩,
    ⟨some 41, none, .mv (.s 1)⟩,
    ⟨some 42, none, .call 55 [(.s 40), (.s 41)]⟩] [] [1, 2, 5, 7, 9, 34, 35, 36, 42]) c34_28)
def c34_30 : ACode :=
  (.seq (.region false [⟨some 38, none, .ia 7 (.s 34) (.s 36)⟩,
    ⟨some 39, none, .ld true 7 (.s 38)⟩,
    ⟨some 9, none, .alloc [.t (.int .i64 0), .t (.str []), .nils, .nils, .nils, .nils, .nils]⟩,
    ⟨none, none, .st 7 (.s 9) (.s 39)⟩] [] [1, 2, 5, 7, 9, 34, 35, 36]) c34_29)
def c34_31 : ACode :=
  (.seq (.block 2 c34_30) c34_26)
def c34_32 : ACode :=
  (.seq (.cond (.s 37) .skip (.exit 1)) c34_31)
def c34_33 : ACode :=
  (.seq (.region false [⟨some 37, none, .bin .lss (.s 36) (.s 35)⟩] [] [1, 2, 5, 7, 34, 35, 36, 37]) c34_32)
def c34_34 : ACode :=
  (.loop c34_33)
def c34_35 : ACode :=
  (.block 1 c34_34)
def c34_36 : ACode :=
  (.seq (.region false [⟨some 33, none, .fa 0 (.s 2)⟩,
    ⟨some 34, none, .ld false 1 (.s 33)⟩,
    ⟨some 35, none, .len (.s 34)⟩,
    ⟨some 36, none, .cst (.t (.int .i64 0))⟩] [] [1, 2, 5, 7, 34, 35, 36]) c34_35)
def c34_37 : ACode :=
  (.region false [⟨some 59, none, .bin .add (.s 52) (.c (.t (.int .i64 1)))⟩,
    ⟨some 52, none, .mv (.s 59)⟩] [] [1, 2, 5, 7, 50, 51, 52])
def c34_38 : ACode :=
  (.region false [⟨some 56, none, .mv (.s 7)⟩,
    ⟨some 57, none, .fa 0 (.s 11)⟩,
    ⟨some 58, none, .ld false 1 (.s 57)⟩,
    ⟨none, none, .nw (.mupd [.str] false (.s 56) (.s 58) (.c (.t (.bool true))))⟩] [] [1, 2, 5, 7, 50, 51, 52])
def c34_39 : ACode :=
  (.seq (.region false [⟨some 54, none, .ia 2 (.s 50) (.s 52)⟩,
    ⟨some 55, none, .ld true 2 (.s 54)⟩,
    ⟨some 11, none, .alloc [.t (.str []), .nils]⟩,
    ⟨none, none, .st 2 (.s 11) (.s 55)⟩] [] [1, 2, 5, 7, 11, 50, 51, 52]) c34_38)
def c34_40 : ACode :=
  (.seq (.block 4 c34_39) c34_37)
def c34_41 : ACode :=
  (.seq (.cond (.s 53) .skip (.exit 3)) c34_40)
def c34_42 : ACode :=
  (.seq (.region false [⟨some 53, none, .bin .lss (.s 52) (.s 51)⟩] [] [1, 2, 5, 7, 50, 51, 52, 53]) c34_41)
def c34_43 : ACode :=
  (.loop c34_42)
def c34_44 : ACode :=
  (.block 3 c34_43)
def c34_45 : ACode :=
  (.seq (.region false [⟨some 49, none, .fa 5 (.s 5)⟩,
    ⟨some 50, none, .ld false 1 (.s 49)⟩,
    ⟨some 51, none, .len (.s 50)⟩,
    ⟨some 52, none, .cst (.t (.int .i64 0))⟩] [] [1, 2, 5, 7, 50, 51, 52]) c34_44)
def c34_46 : ACode :=
  (.cond (.s 47) c34_45 .skip)
def c34_47 : ACode :=
  (.seq (.region false [⟨some 48, none, .bin .eql (.s 26) (.c (.t (.int .i64 3)))⟩,
    ⟨some 47, none, .mv (.s 48)⟩] [] [1, 2, 5, 7, 47]) c34_46)
def c34_48 : ACode :=
  (.cond (.s 31) c34_36 c34_47)
def c34_49 : ACode :=
  (.seq (.region false [⟨some 32, none, .bin .eql (.s 26) (.c (.t (.int .i64 2)))⟩,
    ⟨some 31, none, .mv (.s 32)⟩] [] [1, 2, 5, 7, 26, 31]) c34_48)
def c34_50 : ACode :=
  (.cond (.s 27) c34_25 c34_49)
def c34_51 : ACode :=
  (.seq (.region false [⟨some 28, none, .bin .eql (.s 26) (.c (.t (.int .i64 1)))⟩,
    ⟨some 27, none, .mv (.s 28)⟩] [] [1, 2, 5, 7, 26, 27]) c34_50)
def c34_52 : ACode :=
  (.block 0 c34_51)
def c34_53 : ACode :=
  (.seq (.seq (.region false [⟨some 25, none, .fa 0 (.s 5)⟩,
    ⟨some 26, none, .ld false 1 (.s 25)⟩] [] [1, 2, 5, 7, 26]) c34_52) c34_24)
def c34_54 : ACode :=
  (.seq (.region false [⟨some 24, none, .mkmap false false⟩,
    ⟨some 7, none, .mv (.s 24)⟩] [] [1, 2, 5, 7]) c34_53)
def c34_55 : ACode :=
  (.seq (.region false [⟨some 19, none, .ld true 1 (.s 2)⟩,
    ⟨some 20, none, .mv (.s 1)⟩,
    ⟨some 21, none, .call 54 [(.s 19), (.s 20)]⟩,
    ⟨some 18, none, .mv (.s 21)⟩,
    ⟨some 22, none, .ext (.s 18) 0⟩,
    ⟨some 23, none, .ext (.s 18) 1⟩,
    ⟨some 5, none, .alloc [.t (.int .i64 0), .t (.str []), .nils, .nils, .nils, .nils, .nils]⟩,
    ⟨none, none, .st 7 (.s 5) (.s 22)⟩,
    ⟨some 6, none, .mv (.s 23)⟩] [] [1, 2, 5]) c34_54)
def c34 : ACode :=
  (.seq (.region false [⟨some 2, none, .box 1 (.s 0)⟩,
    ⟨some 4, none, .cst (.nils)⟩] [] [1, 2]) c34_55)
def r34 : List ARes := [.tmp 4]
def n34 : Nat := 113
/- 35 supergraph collect.argument -/
def c35_0 : ACode :=
  (.seq (.region false [⟨some 22, none, .build [.t (.int .i64 0), .t (.int .i64 0), .t (.str []), .nils, .nils] []⟩,
    ⟨none, none, .st 5 (.s 4) (.s 22)⟩,
    ⟨some 5, none, .cst (.t (.bool false))⟩] [] [4, 5]) .ret)
def c35_1 : ACode :=
  (.region false [⟨some 21, none, .bin .add (.s 11) (.c (.t (.int .i64 1)))⟩,
    ⟨some 11, none, .mv (.s 21)⟩] [] [1, 4, 9, 10, 11])
def c35_2 : ACode :=
  (.seq (.region false [⟨some 19, none, .fa 1 (.s 7)⟩,
    ⟨some 20, none, .ld true 5 (.s 19)⟩,
    ⟨none, none, .st 5 (.s 4) (.s 20)⟩,
    ⟨some 5, none, .cst (.t (.bool true))⟩] [] [4, 5]) .ret)
def c35_3 : ACode :=
  (.cond (.s 18) c35_2 .skip)
def c35_4 : ACode :=
  (.seq (.region false [⟨some 15, none, .fa 0 (.s 7)⟩,
    ⟨some 16, none, .ld false 1 (.s 15)⟩,
    ⟨some 17, none, .mv (.s 1)⟩,
    ⟨some 18, none, .bin .eql (.s 16) (.s 17)⟩] [] [1, 4, 7, 9, 10, 11, 18]) c35_3)
def c35_5 : ACode :=
  (.seq (.region false [⟨some 13, none, .ia 6 (.s 9) (.s 11)⟩,
    ⟨some 14, none, .ld true 6 (.s 13)⟩,
    ⟨some 7, none, .alloc [.t (.str []), .t (.int .i64 0), .t (.int .i64 0), .t (.str []), .nils, .nils]⟩,
    ⟨none, none, .st 6 (.s 7) (.s 14)⟩] [] [1, 4, 7, 9, 10, 11]) c35_4)
def c35_6 : ACode :=
  (.seq (.block 1 c35_5) c35_1)
def c35_7 : ACode :=
  (.seq (.cond (.s 12) .skip (.exit 0)) c35_6)
def c35_8 : ACode :=
  (.seq (.region false [⟨some 12, none, .bin .lss (.s 11) (.s 10)⟩] [] [1, 4, 9, 10, 11, 12]) c35_7)
def c35_9 : ACode :=
  (.loop c35_8)
def c35_10 : ACode :=
  (.block 0 c35_9)
def c35_11 : ACode :=
  (.seq (.seq (.region false [⟨some 8, none, .fa 1 (.s 2)⟩,
    ⟨some 9, none, .ld false 1 (.s 8)⟩,
    ⟨some 10, none, .len (.s 9)⟩,
    ⟨some 11, none, .cst (.t (.int .i64 0))⟩] [] [1, 4, 9, 10, 11]) c35_10) c35_0)
def c35 : ACode :=
  (.seq (.region false [⟨some 2, none, .box 2 (.s 0)⟩,
    ⟨some 4, none, .alloc [.t (.int .i64 0), .t (.int .i64 0), .t (.str []), .nils, .nils]⟩,
    ⟨some 5, none, .cst (.t (.bool false))⟩] [] [1, 2, 4]) c35_11)
def r35 : List ARes := [.cell 4 true 5, .tmp 5]
def n35 : Nat := 23
/- 36 supergraph value.Get -/
def c36_0 : ACode :=
  (.seq (.region false [⟨some 26, none, .fa 3 (.s 2)⟩,
    ⟨some 27, none, .ld false 1 (.s 26)⟩,
    ⟨some 28, none, .mv (.s 6)⟩,
    ⟨some 29, none, .ia 5 (.s 27) (.s 28)⟩,
    ⟨some 30, none, .ld true 5 (.s 29)⟩,
    ⟨some 31, none, .call 56 [(.s 30)]⟩,
    ⟨none, none, .st 5 (.s 4) (.s 31)⟩,
    ⟨some 5, none, .cst (.t (.bool true))⟩] [] [4, 5]) .ret)
def c36_1 : ACode :=
  (.seq (.region false [⟨some 25, none, .build [.t (.int .i64 0), .t (.int .i64 0), .t (.str []), .nils, .nils] []⟩,
    ⟨none, none, .st 5 (.s 4) (.s 25)⟩,
    ⟨some 5, none, .cst (.t (.bool false))⟩] [] [4, 5]) .ret)
def c36_2 : ACode :=
  (.cond (.s 24) c36_1 .skip)
def c36_3 : ACode :=
  (.seq (.seq (.region false [⟨some 11, none, .fa 0 (.s 2)⟩,
    ⟨some 12, none, .ld false 1 (.s 11)⟩,
    ⟨some 13, none, .bin .neq (.s 12) (.c (.t (.int .i64 6)))⟩,
    ⟨some 14, none, .mv (.s 13)⟩,
    ⟨some 15, some (14, false), .mv (.s 6)⟩,
    ⟨some 16, some (14, false), .bin .lss (.s 15) (.c (.t (.int .i64 0)))⟩,
    ⟨some 17, none, .pick (.s 14) (.c (.t (.bool true))) (.s 16)⟩,
    ⟨some 18, none, .mv (.s 17)⟩,
    ⟨some 19, some (18, false), .mv (.s 6)⟩,
    ⟨some 20, some (18, false), .fa 3 (.s 2)⟩,
    ⟨some 21, some (18, false), .ld false 1 (.s 20)⟩,
    ⟨some 22, some (18, false), .len (.s 21)⟩,
    ⟨some 23, some (18, false), .bin .geq (.s 19) (.s 22)⟩,
    ⟨some 24, none, .pick (.s 18) (.c (.t (.bool true))) (.s 23)⟩] [] [2, 4, 6, 24]) c36_2) c36_0)
def c36_4 : ACode :=
  (.seq (.region false [⟨some 7, none, .fa 4 (.s 2)⟩,
    ⟨some 8, none, .ld false 1 (.s 7)⟩,
    ⟨some 9, none, .mv (.s 1)⟩,
    ⟨some 10, none, .call 53 [(.s 8), (.s 9)]⟩,
    ⟨some 6, none, .mv (.s 10)⟩] [] [2, 4, 6]) c36_3)
def c36 : ACode :=
  (.seq (.region false [⟨some 2, none, .box 5 (.s 0)⟩,
    ⟨some 4, none, .alloc [.t (.int .i64 0), .t (.int .i64 0), .t (.str []), .nils, .nils]⟩,
    ⟨some 5, none, .cst (.t (.bool false))⟩] [] [1, 2, 4]) c36_4)
def r36 : List ARes := [.cell 4 true 5, .tmp 5]
def n36 : Nat := 32
/- 37 supergraph supergraphref18.argument -/
/- 38 supergraph supergraphref02.Get -/
/- 39 supergraph supergraphref08.weigh -/
def c39_0 : ACode :=
  (.seq (.region false [⟨some 73, none, .mv (.s 5)⟩,
    ⟨some 4, none, .mv (.s 73)⟩] [] [4]) .ret)
def c39_1 : ACode :=
  (.region false [⟨some 17, none, .mv (.s 6)⟩,
    ⟨some 18, none, .bin .add (.s 17) (.c (.t (.int .i64 1)))⟩,
    ⟨some 6, none, .mv (.s 18)⟩] [] [0, 1, 5, 6])
def c39_2 : ACode :=
  (.region false [⟨some 62, none, .mv (.s 5)⟩,
    ⟨some 63, none, .mv (.s 0)⟩,
    ⟨some 64, none, .mv (.s 6)⟩,
    ⟨some 65, none, .ia 7 (.s 63) (.s 64)⟩,
    ⟨some 66, none, .fa 6 (.s 65)⟩,
    ⟨some 67, none, .ld false 1 (.s 66)⟩,
    ⟨some 68, none, .mv (.s 1)⟩,
    ⟨some 69, none, .mv (.s 5)⟩,
    ⟨some 70, none, .bin .sub (.s 68) (.s 69)⟩,
    ⟨some 71, none, .call 39 [(.s 67), (.s 70)]⟩,
    ⟨some 72, none, .bin .add (.s 62) (.s 71)⟩,
    ⟨some 5, none, .mv (.s 72)⟩] [] [0, 1, 5, 6])
def c39_3 : ACode :=
  (.region false [⟨some 48, none, .mv (.s 7)⟩,
    ⟨some 49, none, .bin .add (.s 48) (.c (.t (.int .i64 1)))⟩,
    ⟨some 7, none, .mv (.s 49)⟩] [] [0, 1, 5, 6, 7])
def c39_4 : ACode :=
  (.region false [⟨some 50, none, .mv (.s 5)⟩,
    ⟨some 51, none, .mv (.s 0)⟩,
    ⟨some 52, none, .mv (.s 6)⟩,
    ⟨some 53, none, .ia 7 (.s 51) (.s 52)⟩,
    ⟨some 54, none, .fa 4 (.s 53)⟩,
    ⟨some 55, none, .ld false 1 (.s 54)⟩,
    ⟨some 56, none, .mv (.s 7)⟩,
    ⟨some 57, none, .ia 6 (.s 55) (.s 56)⟩,
    ⟨some 58, none, .fa 1 (.s 57)⟩,
    ⟨some 59, none, .ld true 5 (.s 58)⟩,
    ⟨some 60, none, .call 58 [(.s 59)]⟩,
    ⟨some 61, none, .bin .add (.s 50) (.s 60)⟩,
    ⟨some 5, none, .mv (.s 61)⟩] [] [0, 1, 5, 6, 7])
def c39_5 : ACode :=
  (.seq (.block 3 c39_4) c39_3)
def c39_6 : ACode :=
  (.cond (.s 47) .skip (.exit 2))
def c39_7 : ACode :=
  (.seq (.seq (.region false [⟨some 35, none, .mv (.s 7)⟩,
    ⟨some 36, none, .mv (.s 0)⟩,
    ⟨some 37, none, .mv (.s 6)⟩,
    ⟨some 38, none, .ia 7 (.s 36) (.s 37)⟩,
    ⟨some 39, none, .fa 4 (.s 38)⟩,
    ⟨some 40, none, .ld false 1 (.s 39)⟩,
    ⟨some 41, none, .len (.s 40)⟩,
    ⟨some 42, none, .bin .lss (.s 35) (.s 41)⟩,
    ⟨some 43, none, .mv (.s 42)⟩,
    ⟨some 44, some (43, true), .mv (.s 5)⟩,
    ⟨some 45, some (43, true), .mv (.s 1)⟩,
    ⟨some 46, some (43, true), .bin .leq (.s 44) (.s 45)⟩,
    ⟨some 47, none, .pick (.s 43) (.s 46) (.c (.t (.bool false)))⟩] [] [0, 1, 5, 6, 7, 47]) c39_6) c39_5)
def c39_8 : ACode :=
  (.loop c39_7)
def c39_9 : ACode :=
  (.block 2 c39_8)
def c39_10 : ACode :=
  (.seq (.seq (.region false [⟨some 7, none, .cst (.t (.int .i64 0))⟩] [] [0, 1, 5, 6, 7]) c39_9) c39_2)
def c39_11 : ACode :=
  (.seq (.region true [⟨some 19, none, .mv (.s 5)⟩,
    ⟨some 20, none, .bin .add (.s 19) (.c (.t (.int .i64 1)))⟩,
    ⟨some 21, none, .mv (.s 0)⟩,
    ⟨some 22, none, .mv (.s 6)⟩,
    ⟨some 23, none, .ia 7 (.s 21) (.s 22)⟩,
    ⟨some 24, none, .fa 4 (.s 23)⟩,
    ⟨some 25, none, .ld false 1 (.s 24)⟩,
    ⟨some 26, none, .len (.s 25)⟩,
    ⟨some 27, none, .bin .add (.s 20) (.s 26)⟩,
    ⟨some 28, none, .mv (.s 0)⟩,
    ⟨some 29, none, .mv (.s 6)⟩,
    ⟨some 30, none, .ia 7 (.s 28) (.s 29)⟩,
    ⟨some 31, none, .fa 5 (.s 30)⟩,
    ⟨some 32, none, .ld false 1 (.s 31)⟩,
    ⟨some 33, none, .len (.s 32)⟩,
    ⟨some 34, none, .bin .add (.s 27) (.s 33)⟩,
    ⟨some 5, none, .mv (.s 34)⟩] [[], [0], [], [], [2, 3], [4], [5], [6], [1, 7], [], [], [9, 10], [11], [12], [13], [8, 14], [15, 0, 1, 2, 3, 4, 5, 6, 7, 8, 9, 10, 11, 12, 13, 14, 15]] [0, 1, 5, 6]) c39_10)
def c39_12 : ACode :=
  (.seq (.block 1 c39_11) c39_1)
def c39_13 : ACode :=
  (.cond (.s 16) .skip (.exit 0))
def c39_14 : ACode :=
  (.seq (.seq (.region false [⟨some 8, none, .mv (.s 6)⟩,
    ⟨some 9, none, .mv (.s 0)⟩,
    ⟨some 10, none, .len (.s 9)⟩,
    ⟨some 11, none, .bin .lss (.s 8) (.s 10)⟩,
    ⟨some 12, none, .mv (.s 11)⟩,
    ⟨some 13, some (12, true), .mv (.s 5)⟩,
    ⟨some 14, some (12, true), .mv (.s 1)⟩,
    ⟨some 15, some (12, true), .bin .leq (.s 13) (.s 14)⟩,
    ⟨some 16, none, .pick (.s 12) (.s 15) (.c (.t (.bool false)))⟩] [] [0, 1, 5, 6, 16]) c39_13) c39_12)
def c39_15 : ACode :=
  (.loop c39_14)
def c39_16 : ACode :=
  (.block 0 c39_15)
def c39_17 : ACode :=
  (.seq (.seq (.region false [⟨some 6, none, .cst (.t (.int .i64 0))⟩] [] [0, 1, 5, 6]) c39_16) c39_0)
def c39_18 : ACode :=
  (.seq (.region false [⟨some 5, none, .cst (.t (.int .i64 0))⟩] [] [0, 1, 5]) c39_17)
def c39 : ACode :=
  (.seq (.region false [⟨some 4, none, .cst (.t (.int .i64 0))⟩] [] [0, 1]) c39_18)
def r39 : List ARes := [.tmp 4]
def n39 : Nat := 74
/- 40 (*supergraph collect.collector).sels -/
def c40_0 : ACode :=
  (.region false [⟨some 19, none, .bin .add (.s 10) (.c (.t (.int .i64 1)))⟩,
    ⟨some 10, none, .mv (.s 19)⟩] [] [0, 2, 8, 9, 10])
def c40_1 : ACode :=
  (.region false [⟨some 14, none, .mv (.s 0)⟩,
    ⟨some 15, none, .ld true 7 (.s 7)⟩,
    ⟨some 16, none, .mv (.s 2)⟩,
    ⟨some 17, none, .build [.t (.int .i64 0), .t (.str []), .t (.str []), .t (.str []), .nils, .nils, .nils, .t (.str [])] [(0, 7, (.s 15)), (7, 1, (.s 16))]⟩,
    ⟨some 18, none, .call 28 [(.s 14), (.s 17)]⟩] [] [0, 2, 8, 9, 10])
def c40_2 : ACode :=
  (.seq (.region false [⟨some 12, none, .ia 7 (.s 8) (.s 10)⟩,
    ⟨some 13, none, .ld true 7 (.s 12)⟩,
    ⟨some 7, none, .alloc [.t (.int .i64 0), .t (.str []), .t (.str []), .t (.str []), .nils, .nils, .nils]⟩,
    ⟨none, none, .st 7 (.s 7) (.s 13)⟩] [] [0, 2, 7, 8, 9, 10]) c40_1)
def c40_3 : ACode :=
  (.seq (.block 1 c40_2) c40_0)
def c40_4 : ACode :=
  (.seq (.cond (.s 11) .skip (.exit 0)) c40_3)
def c40_5 : ACode :=
  (.seq (.region false [⟨some 11, none, .bin .lss (.s 10) (.s 9)⟩] [] [0, 2, 8, 9, 10, 11]) c40_4)
def c40_6 : ACode :=
  (.loop c40_5)
def c40_7 : ACode :=
  (.block 0 c40_6)
def c40 : ACode :=
  (.seq (.region false [⟨some 8, none, .mv (.s 1)⟩,
    ⟨some 9, none, .len (.s 8)⟩,
    ⟨some 10, none, .cst (.t (.int .i64 0))⟩] [] [0, 2, 8, 9, 10]) c40_7)
def r40 : List ARes := []
def n40 : Nat := 20
/- 41 supergraph collect.label -/
def c41_0 : ACode :=
  (.seq (.region false [⟨some 37, none, .mv (.s 1)⟩,
    ⟨some 4, none, .mv (.s 37)⟩] [] [4]) .ret)
def c41_1 : ACode :=
  (.region false [⟨some 36, none, .bin .add (.s 11) (.c (.t (.int .i64 1)))⟩,
    ⟨some 11, none, .mv (.s 36)⟩] [] [1, 9, 10, 11])
def c41_2 : ACode :=
  (.seq (.region false [⟨some 34, none, .fa 2 (.s 7)⟩,
    ⟨some 35, none, .ld false 1 (.s 34)⟩,
    ⟨some 4, none, .mv (.s 35)⟩] [] [4]) .ret)
def c41_3 : ACode :=
  (.cond (.s 33) c41_2 .skip)
def c41_4 : ACode :=
  (.seq (.region false [⟨some 23, none, .mv (.s 8)⟩,
    ⟨some 24, none, .mv (.s 23)⟩,
    ⟨some 25, some (24, true), .fa 0 (.s 7)⟩,
    ⟨some 26, some (24, true), .ld false 1 (.s 25)⟩,
    ⟨some 27, some (24, true), .bin .eql (.s 26) (.c (.t (.int .i64 3)))⟩,
    ⟨some 28, none, .pick (.s 24) (.s 27) (.c (.t (.bool false)))⟩,
    ⟨some 29, none, .mv (.s 28)⟩,
    ⟨some 30, some (29, true), .fa 2 (.s 7)⟩,
    ⟨some 31, some (29, true), .ld false 1 (.s 30)⟩,
    ⟨some 32, some (29, true), .bin .neq (.s 31) (.c (.t (.str [])))⟩,
    ⟨some 33, none, .pick (.s 29) (.s 32) (.c (.t (.bool false)))⟩] [] [1, 7, 33]) c41_3)
def c41_5 : ACode :=
  (.seq (.seq (.region false [⟨some 19, none, .ld true 2 (.s 6)⟩,
    ⟨some 20, none, .call 35 [(.s 19), (.c (.t (.str [108, 97, 98, 101, 108])))]⟩,
    ⟨some 18, none, .mv (.s 20)⟩,
    ⟨some 21, none, .ext (.s 18) 0⟩,
    ⟨some 22, none, .ext (.s 18) 1⟩,
    ⟨some 7, none, .alloc [.t (.int .i64 0), .t (.int .i64 0), .t (.str []), .nils, .nils]⟩,
    ⟨none, none, .st 5 (.s 7) (.s 21)⟩,
    ⟨some 8, none, .mv (.s 22)⟩] [] [1, 7, 8]) c41_4) (.exit 0))
def c41_6 : ACode :=
  (.cond (.s 17) c41_5 .skip)
def c41_7 : ACode :=
  (.seq (.region false [⟨some 15, none, .fa 0 (.s 6)⟩,
    ⟨some 16, none, .ld false 1 (.s 15)⟩,
    ⟨some 17, none, .bin .eql (.s 16) (.c (.t (.str [100, 101, 102, 101, 114])))⟩] [] [1, 6, 9, 10, 11, 17]) c41_6)
def c41_8 : ACode :=
  (.seq (.region false [⟨some 13, none, .ia 2 (.s 9) (.s 11)⟩,
    ⟨some 14, none, .ld true 2 (.s 13)⟩,
    ⟨some 6, none, .alloc [.t (.str []), .nils]⟩,
    ⟨none, none, .st 2 (.s 6) (.s 14)⟩] [] [1, 6, 9, 10, 11]) c41_7)
def c41_9 : ACode :=
  (.seq (.block 1 c41_8) c41_1)
def c41_10 : ACode :=
  (.seq (.cond (.s 12) .skip (.exit 0)) c41_9)
def c41_11 : ACode :=
  (.seq (.region false [⟨some 12, none, .bin .lss (.s 11) (.s 10)⟩] [] [1, 9, 10, 11, 12]) c41_10)
def c41_12 : ACode :=
  (.loop c41_11)
def c41_13 : ACode :=
  (.block 0 c41_12)
def c41_14 : ACode :=
  (.seq (.seq (.region false [⟨some 9, none, .mv (.s 0)⟩,
    ⟨some 10, none, .len (.s 9)⟩,
    ⟨some 11, none, .cst (.t (.int .i64 0))⟩] [] [1, 9, 10, 11]) c41_13) c41_0)
def c41 : ACode :=
  (.seq (.region false [⟨some 4, none, .cst (.t (.str []))⟩] [] [0, 1]) c41_14)
def r41 : List ARes := [.tmp 4]
def n41 : Nat := 38
/- 42 supergraph fragment.Find -/
def c42_0 : ACode :=
  (.seq (.region false [⟨some 21, none, .build [.t (.str []), .t (.str []), .nils] []⟩,
    ⟨none, none, .st 3 (.s 4) (.s 21)⟩,
    ⟨some 5, none, .cst (.t (.bool false))⟩] [] [4, 5]) .ret)
def c42_1 : ACode :=
  (.region false [⟨some 20, none, .bin .add (.s 11) (.c (.t (.int .i64 1)))⟩,
    ⟨some 11, none, .mv (.s 20)⟩] [] [1, 4, 9, 10, 11])
def c42_2 : ACode :=
  (.seq (.region false [⟨some 19, none, .ld true 3 (.s 7)⟩,
    ⟨none, none, .st 3 (.s 4) (.s 19)⟩,
    ⟨some 5, none, .cst (.t (.bool true))⟩] [] [4, 5]) .ret)
def c42_3 : ACode :=
  (.cond (.s 18) c42_2 .skip)
def c42_4 : ACode :=
  (.seq (.region false [⟨some 15, none, .fa 0 (.s 7)⟩,
    ⟨some 16, none, .ld false 1 (.s 15)⟩,
    ⟨some 17, none, .mv (.s 1)⟩,
    ⟨some 18, none, .bin .eql (.s 16) (.s 17)⟩] [] [1, 4, 7, 9, 10, 11, 18]) c42_3)
def c42_5 : ACode :=
  (.seq (.region false [⟨some 13, none, .ia 3 (.s 9) (.s 11)⟩,
    ⟨some 14, none, .ld true 3 (.s 13)⟩,
    ⟨some 7, none, .alloc [.t (.str []), .t (.str []), .nils]⟩,
    ⟨none, none, .st 3 (.s 7) (.s 14)⟩] [] [1, 4, 7, 9, 10, 11]) c42_4)
def c42_6 : ACode :=
  (.seq (.block 1 c42_5) c42_1)
def c42_7 : ACode :=
  (.seq (.cond (.s 12) .skip (.exit 0)) c42_6)
def c42_8 : ACode :=
  (.seq (.region false [⟨some 12, none, .bin .lss (.s 11) (.s 10)⟩] [] [1, 4, 9, 10, 11, 12]) c42_7)
def c42_9 : ACode :=
  (.loop c42_8)
def c42_10 : ACode :=
  (.block 0 c42_9)
def c42_11 : ACode :=
  (.seq (.seq (.region false [⟨some 8, none, .fa 1 (.s 2)⟩,
    ⟨some 9, none, .ld false 1 (.s 8)⟩,
    ⟨some 10, none, .len (.s 9)⟩,
    ⟨some 11, none, .cst (.t (.int .i64 0))⟩] [] [1, 4, 9, 10, 11]) c42_10) c42_0)
def c42 : ACode :=
  (.seq (.region false [⟨some 2, none, .box 2 (.s 0)⟩,
    ⟨some 4, none, .alloc [.t (.str []), .t (.str []), .nils]⟩,
    ⟨some 5, none, .cst (.t (.bool false))⟩] [] [1, 2, 4]) c42_11)
def r42 : List ARes := [.cell 4 true 3, .tmp 5]
def n42 : Nat := 22
/- 43 (*supergraph collect.collector).field -/
def c43_0 : ACode :=
  (.region true [⟨some 38, none, .mv (.s 0)⟩,
    ⟨some 39, none, .nilck (.s 38)⟩,
    ⟨some 40, none, .fa 9 (.s 39)⟩,
    ⟨some 41, none, .ld false 1 (.s 40)⟩,
    ⟨some 42, none, .mv (.s 5)⟩,
    ⟨some 43, none, .mv (.s 0)⟩,
    ⟨some 44, none, .nilck (.s 43)⟩,
    ⟨some 45, none, .fa 9 (.s 44)⟩,
    ⟨some 46, none, .ld false 1 (.s 45)⟩,
    ⟨some 47, none, .mv (.s 5)⟩,
    ⟨some 48, none, .ia 2 (.s 46) (.s 47)⟩,
    ⟨some 49, none, .fa 1 (.s 48)⟩,
    ⟨some 50, none, .ld false 1 (.s 49)⟩,
    ⟨some 51, none, .ld true 8 (.s 3)⟩,
    ⟨some 52, none, .bsl false 8 [[.int .i64 0, .str [], .str [], .str [], .lst [], .lst [], .lst [], .str []]] [(0, (.s 51))]⟩,
    ⟨some 53, none, .app 8 144 (.s 50) (.s 52)⟩,
    ⟨some 54, none, .ia 2 (.s 41) (.s 42)⟩,
    ⟨some 55, none, .fa 1 (.s 54)⟩,
    ⟨none, none, .st 1 (.s 55) (.s 53)⟩] [[], [0], [1], [2], [], [], [5], [6], [7], [], [8, 9], [10], [11], [], [13], [12, 14], [3, 4, 0, 1, 2, 3, 4, 5, 6, 7, 8, 9, 10, 11, 12, 13, 14, 15], [16, 0, 1, 2, 3, 4, 5, 6, 7, 8, 9, 10, 11, 12, 13, 14, 15], [17, 15, 15, 0, 1, 2, 3, 4, 5, 6, 7, 8, 9, 10, 11, 12, 13, 14, 15]] [])
def c43_1 : ACode :=
  (.region true [⟨some 27, none, .mv (.s 0)⟩,
    ⟨some 28, none, .mv (.s 0)⟩,
    ⟨some 29, none, .nilck (.s 28)⟩,
    ⟨some 30, none, .fa 9 (.s 29)⟩,
    ⟨some 31, none, .ld false 1 (.s 30)⟩,
    ⟨some 32, none, .ld false 1 (.s 4)⟩,
    ⟨some 33, none, .build [.t (.str []), .nils] [(0, 1, (.s 32))]⟩,
    ⟨some 34, none, .bsl false 2 [[.str [], .lst []]] [(0, (.s 33))]⟩,
    ⟨some 35, none, .app 2 40 (.s 31) (.s 34)⟩,
    ⟨some 36, none, .nilck (.s 27)⟩,
    ⟨some 37, none, .fa 9 (.s 36)⟩,
    ⟨none, none, .st 1 (.s 37) (.s 35)⟩] [[], [], [1], [2], [3], [], [5], [6], [4, 7], [0, 0, 1, 2, 3, 4, 5, 6, 7, 8], [9, 0, 1, 2, 3, 4, 5, 6, 7, 8], [10, 8, 8, 0, 1, 2, 3, 4, 5, 6, 7, 8]] [0, 3, 5])
def c43_2 : ACode :=
  (.seq (.region false [⟨some 22, none, .mv (.s 0)⟩,
    ⟨some 23, none, .nilck (.s 22)⟩,
    ⟨some 24, none, .fa 9 (.s 23)⟩,
    ⟨some 25, none, .ld false 1 (.s 24)⟩,
    ⟨some 26, none, .len (.s 25)⟩,
    ⟨some 5, none, .mv (.s 26)⟩] [] [0, 3, 4, 5]) c43_1)
def c43_3 : ACode :=
  (.cond (.s 21) c43_2 .skip)
def c43_4 : ACode :=
  (.seq (.seq (.region false [⟨some 20, none, .mv (.s 5)⟩,
    ⟨some 21, none, .bin .lss (.s 20) (.c (.t (.int .i64 0)))⟩] [] [0, 3, 4, 5, 21]) c43_3) c43_0)
def c43_5 : ACode :=
  (.seq (.region false [⟨some 14, none, .mv (.s 0)⟩,
    ⟨some 15, none, .nilck (.s 14)⟩,
    ⟨some 16, none, .fa 9 (.s 15)⟩,
    ⟨some 17, none, .ld false 1 (.s 16)⟩,
    ⟨some 18, none, .mkfn 60 [(.s 4)]⟩,
    ⟨some 19, none, .call 59 [(.s 17), (.s 18)]⟩,
    ⟨some 5, none, .mv (.s 19)⟩] [] [0, 3, 4, 5]) c43_4)
def c43_6 : ACode :=
  (.region false [⟨some 11, none, .fa 0 (.s 3)⟩,
    ⟨some 12, none, .fa 2 (.s 11)⟩,
    ⟨some 13, none, .ld false 1 (.s 12)⟩,
    ⟨none, none, .st 1 (.s 4) (.s 13)⟩] [] [0, 3, 4])
def c43_7 : ACode :=
  (.cond (.s 10) c43_6 .skip)
def c43_8 : ACode :=
  (.seq (.seq (.region false [⟨some 9, none, .ld false 1 (.s 4)⟩,
    ⟨some 10, none, .bin .eql (.s 9) (.c (.t (.str [])))⟩] [] [0, 3, 4, 10]) c43_7) c43_5)
def c43_9 : ACode :=
  (.seq (.region false [⟨some 6, none, .fa 0 (.s 3)⟩,
    ⟨some 7, none, .fa 1 (.s 6)⟩,
    ⟨some 8, none, .ld false 1 (.s 7)⟩,
    ⟨some 4, none, .alloc [.t (.str [])]⟩,
    ⟨none, none, .st 1 (.s 4) (.s 8)⟩] [] [0, 3, 4]) c43_8)
def c43 : ACode :=
  (.seq (.region false [⟨some 3, none, .box 8 (.s 1)⟩] [] [0, 3]) c43_9)
def r43 : List ARes := []
def n43 : Nat := 56
/- 44 supergraph supergraphref18.label -/
/- 45 supergraph supergraphref11.Is -/
/- 46 (*supergraph supergraphref18.work).sels -/
/- 47 supergraph supergraphref13.Find -/
/- 48 (*supergraph supergraphref18.work).fresh -/
/- 49 (*supergraph supergraphref18.work).add -/
/- 50 supergraph supergraphref08.SameArgs -/
/- 51 supergraph supergraphref08.SameDirs -/
/- 52 slices.IndexFunc[[]supergraph collect.Entry,supergraph collect.Entry] -/
def c52_0 : ACode :=
  (.seq (.region false [⟨some 4, none, .cst (.t (.int .i64 (-1)))⟩] [] [4]) .ret)
def c52_1 : ACode :=
  (.region false [⟨some 18, none, .bin .add (.s 8) (.c (.t (.int .i64 1)))⟩,
    ⟨some 8, none, .mv (.s 18)⟩] [] [0, 1, 7, 8])
def c52_2 : ACode :=
  (.seq (.region false [⟨some 17, none, .mv (.s 5)⟩,
    ⟨some 4, none, .mv (.s 17)⟩] [] [4]) .ret)
def c52_3 : ACode :=
  (.cond (.s 16) c52_2 .skip)
def c52_4 : ACode :=
  (.seq (.region false [⟨some 11, none, .mv (.s 1)⟩,
    ⟨some 12, none, .mv (.s 0)⟩,
    ⟨some 13, none, .mv (.s 5)⟩,
    ⟨some 14, none, .ia 8 (.s 12) (.s 13)⟩,
    ⟨some 15, none, .ld true 8 (.s 14)⟩,
    ⟨some 16, none, .callv (.s 11) [(.s 15)]⟩] [] [0, 1, 5, 7, 8, 16]) c52_3)
def c52_5 : ACode :=
  (.seq (.region false [⟨some 10, none, .mv (.s 8)⟩,
    ⟨some 5, none, .mv (.s 10)⟩] [] [0, 1, 5, 7, 8]) c52_4)
def c52_6 : ACode :=
  (.seq (.block 1 c52_5) c52_1)
def c52_7 : ACode :=
  (.seq (.cond (.s 9) .skip (.exit 0)) c52_6)
def c52_8 : ACode :=
  (.seq (.region false [⟨some 9, none, .bin .lss (.s 8) (.s 7)⟩] [] [0, 1, 7, 8, 9]) c52_7)
def c52_9 : ACode :=
  (.loop c52_8)
def c52_10 : ACode :=
  (.block 0 c52_9)
def c52_11 : ACode :=
  (.seq (.seq (.region false [⟨some 6, none, .mv (.s 0)⟩,
    ⟨some 7, none, .len (.s 6)⟩,
    ⟨some 8, none, .cst (.t (.int .i64 0))⟩] [] [0, 1, 7, 8]) c52_10) c52_0)
def c52 : ACode :=
  (.seq (.region false [⟨some 4, none, .cst (.t (.int .i64 0))⟩] [] [0, 1]) c52_11)
def r52 : List ARes := [.tmp 4]
def n52 : Nat := 19
/- 53 slices.Index[[]string,string] -/
def c53_0 : ACode :=
  (.seq (.region false [⟨some 4, none, .cst (.t (.int .i64 (-1)))⟩] [] [4]) .ret)
def c53_1 : ACode :=
  (.region false [⟨some 18, none, .bin .add (.s 8) (.c (.t (.int .i64 1)))⟩,
    ⟨some 8, none, .mv (.s 18)⟩] [] [0, 1, 7, 8])
def c53_2 : ACode :=
  (.seq (.region false [⟨some 17, none, .mv (.s 5)⟩,
    ⟨some 4, none, .mv (.s 17)⟩] [] [4]) .ret)
def c53_3 : ACode :=
  (.cond (.s 16) c53_2 .skip)
def c53_4 : ACode :=
  (.seq (.region false [⟨some 11, none, .mv (.s 1)⟩,
    ⟨some 12, none, .mv (.s 0)⟩,
    ⟨some 13, none, .mv (.s 5)⟩,
    ⟨some 14, none, .ia 1 (.s 12) (.s 13)⟩,
    ⟨some 15, none, .ld false 1 (.s 14)⟩,
    ⟨some 16, none, .bin .eql (.s 11) (.s 15)⟩] [] [0, 1, 5, 7, 8, 16]) c53_3)
def c53_5 : ACode :=
  (.seq (.region false [⟨some 10, none, .mv (.s 8)⟩,
    ⟨some 5, none, .mv (.s 10)⟩] [] [0, 1, 5, 7, 8]) c53_4)
def c53_6 : ACode :=
  (.seq (.block 1 c53_5) c53_1)
def c53_7 : ACode :=
  (.seq (.cond (.s 9) .skip (.exit 0)) c53_6)
def c53_8 : ACode :=
  (.seq (.region false [⟨some 9, none, .bin .lss (.s 8) (.s 7)⟩] [] [0, 1, 7, 8, 9]) c53_7)
def c53_9 : ACode :=
  (.loop c53_8)
def c53_10 : ACode :=
  (.block 0 c53_9)
def c53_11 : ACode :=
  (.seq (.seq (.region false [⟨some 6, none, .mv (.s 0)⟩,
    ⟨some 7, none, .len (.s 6)⟩,
    ⟨some 8, none, .cst (.t (.int .i64 0))⟩] [] [0, 1, 7, 8]) c53_10) c53_0)
def c53 : ACode :=
  (.seq (.region false [⟨some 4, none, .cst (.t (.int .i64 0))⟩] [] [0, 1]) c53_11)
def r53 : List ARes := [.tmp 4]
def n53 : Nat := 19
/- 54 supergraph schema.Find -/
def c54_0 : ACode :=
  (.seq (.region false [⟨some 21, none, .build [.t (.int .i64 0), .t (.str []), .nils, .nils, .nils, .nils, .nils] []⟩,
    ⟨none, none, .st 7 (.s 4) (.s 21)⟩,
    ⟨some 5, none, .cst (.t (.bool false))⟩] [] [4, 5]) .ret)
def c54_1 : ACode :=
  (.region false [⟨some 20, none, .bin .add (.s 11) (.c (.t (.int .i64 1)))⟩,
    ⟨some 11, none, .mv (.s 20)⟩] [] [1, 4, 9, 10, 11])
def c54_2 : ACode :=
  (.seq (.region false [⟨some 19, none, .ld true 7 (.s 7)⟩,
    ⟨none, none, .st 7 (.s 4) (.s 19)⟩,
    ⟨some 5, none, .cst (.t (.bool true))⟩] [] [4, 5]) .ret)
def c54_3 : ACode :=
  (.cond (.s 18) c54_2 .skip)
def c54_4 : ACode :=
  (.seq (.region false [⟨some 15, none, .fa 1 (.s 7)⟩,
    ⟨some 16, none, .ld false 1 (.s 15)⟩,
    ⟨some 17, none, .mv (.s 1)⟩,
    ⟨some 18, none, .bin .eql (.s 16) (.s 17)⟩] [] [1, 4, 7, 9, 10, 11, 18]) c54_3)
def c54_5 : ACode :=
  (.seq (.region false [⟨some 13, none, .ia 7 (.s 9) (.s 11)⟩,
    ⟨some 14, none, .ld true 7 (.s 13)⟩,
    ⟨some 7, none, .alloc [.t (.int .i64 0), .t (.str []), .nils, .nils, .nils, .nils, .nils]⟩,
    ⟨none, none, .st 7 (.s 7) (.s 14)⟩] [] [1, 4, 7, 9, 10, 11]) c54_4)
def c54_6 : ACode :=
  (.seq (.block 1 c54_5) c54_1)
def c54_7 : ACode :=
  (.seq (.cond (.s 12) .skip (.exit 0)) c54_6)
def c54_8 : ACode :=
  (.seq (.region false [⟨some 12, none, .bin .lss (.s 11) (.s 10)⟩] [] [1, 4, 9, 10, 11, 12]) c54_7)
def c54_9 : ACode :=
  (.loop c54_8)
def c54_10 : ACode :=
  (.block 0 c54_9)
def c54_11 : ACode :=
  (.seq (.seq (.region false [⟨some 8, none, .fa 0 (.s 2)⟩,
    ⟨some 9, none, .ld false 1 (.s 8)⟩,
    ⟨some 10, none, .len (.s 9)⟩,
    ⟨some 11, none, .cst (.t (.int .i64 0))⟩] [] [1, 4, 9, 10, 11]) c54_10) c54_0)
def c54 : ACode :=
  (.seq (.region false [⟨some 2, none, .box 1 (.s 0)⟩,
    ⟨some 4, none, .alloc [.t (.int .i64 0), .t (.str []), .nils, .nils, .nils, .nils, .nils]⟩,
    ⟨some 5, none, .cst (.t (.bool false))⟩] [] [1, 2, 4]) c54_11)
def r54 : List ARes := [.cell 4 true 7, .tmp 5]
def n54 : Nat := 22
/- 55 supergraph abstract.implements -/
def c55_0 : ACode :=
  (.seq (.region false [⟨some 5, none, .fa 2 (.s 2)⟩,
    ⟨some 6, none, .ld false 1 (.s 5)⟩,
    ⟨some 7, none, .mv (.s 1)⟩,
    ⟨some 8, none, .call 33 [(.s 6), (.s 7)]⟩,
    ⟨some 4, none, .mv (.s 8)⟩] [] [4]) .ret)
def c55 : ACode :=
  (.seq (.region false [⟨some 2, none, .box 7 (.s 0)⟩,
    ⟨some 4, none, .cst (.t (.bool false))⟩] [] [1, 2]) c55_0)
def r55 : List ARes := [.tmp 4]
def n55 : Nat := 9
/- 56 supergraph value.Copy -/
def c56_0 : ACode :=
  (.seq (.region false [⟨some 11, none, .ld true 5 (.s 1)⟩,
    ⟨none, none, .st 5 (.s 2) (.s 11)⟩] [] [2]) .ret)
def c56_1 : ACode :=
  (.seq (.region false [⟨some 7, none, .fa 4 (.s 1)⟩,
    ⟨some 8, none, .ld false 1 (.s 7)⟩,
    ⟨some 9, none, .call 66 [(.s 8)]⟩,
    ⟨some 10, none, .fa 4 (.s 1)⟩,
    ⟨none, none, .st 1 (.s 10) (.s 9)⟩] [] [1, 2]) c56_0)
def c56_2 : ACode :=
  (.seq (.region false [⟨some 3, none, .fa 3 (.s 1)⟩,
    ⟨some 4, none, .ld false 1 (.s 3)⟩,
    ⟨some 5, none, .call 65 [(.s 4)]⟩,
    ⟨some 6, none, .fa 3 (.s 1)⟩,
    ⟨none, none, .st 1 (.s 6) (.s 5)⟩] [] [1, 2]) c56_1)
def c56 : ACode :=
  (.seq (.region false [⟨some 1, none, .box 5 (.s 0)⟩,
    ⟨some 2, none, .alloc [.t (.int .i64 0), .t (.int .i64 0), .t (.str []), .nils, .nils]⟩] [] [1, 2]) c56_2)
def r56 : List ARes := [.cell 2 true 5]
def n56 : Nat := 12
/- 57 supergraph supergraphref02.Copy -/
/- 58 supergraph supergraphref02.Size -/
def c58_0 : ACode :=
  (.seq (.region false [⟨some 20, none, .mv (.s 3)⟩,
    ⟨some 2, none, .mv (.s 20)⟩] [] [2]) .ret)
def c58_1 : ACode :=
  (.region false [⟨some 10, none, .mv (.s 4)⟩,
    ⟨some 11, none, .bin .add (.s 10) (.c (.t (.int .i64 1)))⟩,
    ⟨some 4, none, .mv (.s 11)⟩] [] [1, 3, 4])
def c58_2 : ACode :=
  (.region false [⟨some 12, none, .mv (.s 3)⟩,
    ⟨some 13, none, .fa 3 (.s 1)⟩,
    ⟨some 14, none, .ld false 1 (.s 13)⟩,
    ⟨some 15, none, .mv (.s 4)⟩,
    ⟨some 16, none, .ia 5 (.s 14) (.s 15)⟩,
    ⟨some 17, none, .ld true 5 (.s 16)⟩,
    ⟨some 18, none, .call 58 [(.s 17)]⟩,
    ⟨some 19, none, .bin .add (.s 12) (.s 18)⟩,
    ⟨some 3, none, .mv (.s 19)⟩] [] [1, 3, 4])
def c58_3 : ACode :=
  (.seq (.block 1 c58_2) c58_1)
def c58_4 : ACode :=
  (.cond (.s 9) .skip (.exit 0))
def c58_5 : ACode :=
  (.seq (.seq (.region false [⟨some 5, none, .mv (.s 4)⟩,
    ⟨some 6, none, .fa 3 (.s 1)⟩,
    ⟨some 7, none, .ld false 1 (.s 6)⟩,
    ⟨some 8, none, .len (.s 7)⟩,
    ⟨some 9, none, .bin .lss (.s 5) (.s 8)⟩] [] [1, 3, 4, 9]) c58_4) c58_3)
def c58_6 : ACode :=
  (.loop c58_5)
def c58_7 : ACode :=
  (.block 0 c58_6)
def c58_8 : ACode :=
  (.seq (.seq (.region false [⟨some 4, none, .cst (.t (.int .i64 0))⟩] [] [1, 3, 4]) c58_7) c58_0)
def c58_9 : ACode :=
  (.seq (.region false [⟨some 3, none, .cst (.t (.int .i64 1))⟩] [] [1, 3]) c58_8)
def c58 : ACode :=
  (.seq (.region false [⟨some 1, none, .box 5 (.s 0)⟩,
    ⟨some 2, none, .cst (.t (.int .i64 0))⟩] [] [1]) c58_9)
def r58 : List ARes := [.tmp 2]
def n58 : Nat := 21
/- 59 slices.IndexFunc[[]supergraph collect.Group,supergraph collect.Group] -/
def c59_0 : ACode :=
  (.seq (.region false [⟨some 4, none, .cst (.t (.int .i64 (-1)))⟩] [] [4]) .ret)
def c59_1 : ACode :=
  (.region false [⟨some 18, none, .bin .add (.s 8) (.c (.t (.int .i64 1)))⟩,
    ⟨some 8, none, .mv (.s 18)⟩] [] [0, 1, 7, 8])
def c59_2 : ACode :=
  (.seq (.region false [⟨some 17, none, .mv (.s 5)⟩,
    ⟨some 4, none, .mv (.s 17)⟩] [] [4]) .ret)
def c59_3 : ACode :=
  (.cond (.s 16) c59_2 .skip)
def c59_4 : ACode :=
  (.seq (.region false [⟨some 11, none, .mv (.s 1)⟩,
    ⟨some 12, none, .mv (.s 0)⟩,
    ⟨some 13, none, .mv (.s 5)⟩,
    ⟨some 14, none, .ia 2 (.s 12) (.s 13)⟩,
    ⟨some 15, none, .ld true 2 (.s 14)⟩,
    ⟨some 16, none, .callv (.s 11) [(.s 15)]⟩] [] [0, 1, 5, 7, 8, 16]) c59_3)
def c59_5 : ACode :=
  (.seq (.region false [⟨some 10, none, .mv (.s 8)⟩,
    ⟨some 5, none, .mv (.s 10)⟩] [] [0, 1, 5, 7, 8]) c59_4)
def c59_6 : ACode :=
  (.seq (.block 1 c59_5) c59_1)
def c59_7 : ACode :=
  (.seq (.cond (.s 9) .skip (.exit 0)) c59_6)
def c59_8 : ACode :=
  (.seq (.region false [⟨some 9, none, .bin .lss (.s 8) (.s 7)⟩] [] [0, 1, 7, 8, 9]) c59_7)
def c59_9 : ACode :=
  (.loop c59_8)
def c59_10 : ACode :=
  (.block 0 c59_9)
def c59_11 : ACode :=
  (.seq (.seq (.region false [⟨some 6, none, .mv (.s 0)⟩,
    ⟨some 7, none, .len (.s 6)⟩,
    ⟨some 8, none, .cst (.t (.int .i64 0))⟩] [] [0, 1, 7, 8]) c59_10) c59_0)
def c59 : ACode :=
  (.seq (.region false [⟨some 4, none, .cst (.t (.int .i64 0))⟩] [] [0, 1]) c59_11)
def r59 : List ARes := [.tmp 4]
def n59 : Nat := 19
/- 60 (*supergraph collect.collector).field 1 -/
def c60_0 : ACode :=
  (.seq (.region false [⟨some 4, none, .fa 0 (.s 2)⟩,
    ⟨some 5, none, .ld false 1 (.s 4)⟩,
    ⟨some 6, none, .ld false 1 (.s 1)⟩,
    ⟨some 7, none, .bin .eql (.s 5) (.s 6)⟩,
    ⟨some 3, none, .mv (.s 7)⟩] [] [3]) .ret)
def c60 : ACode :=
  (.seq (.region false [⟨some 2, none, .box 2 (.s 0)⟩,
    ⟨some 3, none, .cst (.t (.bool false))⟩] [] [1, 2]) c60_0)
def r60 : List ARes := [.tmp 3]
def n60 : Nat := 8
/- 61 supergraph supergraphref11.has -/
/- 62 supergraph supergraphref11.Possible -/
/- 63 supergraph supergraphref18.key -/
/- 64 supergraph supergraphref02.Same -/
def c64_0 : ACode :=
  (.seq (.region false [⟨some 5, none, .ld true 5 (.s 2)⟩,
    ⟨some 6, none, .ld true 5 (.s 3)⟩,
    ⟨some 7, none, .call 71 [(.s 5), (.s 6)]⟩,
    ⟨some 8, none, .bin .eql (.s 7) (.c (.t (.int .i64 0)))⟩,
    ⟨some 4, none, .mv (.s 8)⟩] [] [4]) .ret)
def c64 : ACode :=
  (.seq (.region false [⟨some 2, none, .box 5 (.s 0)⟩,
    ⟨some 3, none, .box 5 (.s 1)⟩,
    ⟨some 4, none, .cst (.t (.bool false))⟩] [] [2, 3]) c64_0)
def r64 : List ARes := [.tmp 4]
def n64 : Nat := 9
/- 65 supergraph value.copies -/
def c65_0 : ACode :=
  (.seq (.region false [⟨some 18, none, .mv (.s 3)⟩,
    ⟨some 2, none, .mv (.s 18)⟩] [] [2]) .ret)
def c65_1 : ACode :=
  (.region false [⟨some 17, none, .bin .add (.s 8) (.c (.t (.int .i64 1)))⟩,
    ⟨some 8, none, .mv (.s 17)⟩] [] [3, 6, 7, 8])
def c65_2 : ACode :=
  (.region false [⟨some 12, none, .mv (.s 3)⟩,
    ⟨some 13, none, .ld true 5 (.s 5)⟩,
    ⟨some 14, none, .call 56 [(.s 13)]⟩,
    ⟨some 15, none, .bsl false 5 [[.int .i64 0, .int .i64 0, .str [], .lst [], .lst []]] [(0, (.s 14))]⟩,
    ⟨some 16, none, .app 5 80 (.s 12) (.s 15)⟩,
    ⟨some 3, none, .mv (.s 16)⟩] [] [3, 6, 7, 8])
def c65_3 : ACode :=
  (.seq (.region false [⟨some 10, none, .ia 5 (.s 6) (.s 8)⟩,
    ⟨some 11, none, .ld true 5 (.s 10)⟩,
    ⟨some 5, none, .alloc [.t (.int .i64 0), .t (.int .i64 0), .t (.str []), .nils, .nils]⟩,
    ⟨none, none, .st 5 (.s 5) (.s 11)⟩] [] [3, 5, 6, 7, 8]) c65_2)
def c65_4 : ACode :=
  (.seq (.block 1 c65_3) c65_1)
def c65_5 : ACode :=
  (.seq (.cond (.s 9) .skip (.exit 0)) c65_4)
def c65_6 : ACode :=
  (.seq (.region false [⟨some 9, none, .bin .lss (.s 8) (.s 7)⟩] [] [3, 6, 7, 8, 9]) c65_5)
def c65_7 : ACode :=
  (.loop c65_6)
def c65_8 : ACode :=
  (.block 0 c65_7)
def c65_9 : ACode :=
  (.seq (.seq (.region false [⟨some 6, none, .mv (.s 0)⟩,
    ⟨some 7, none, .len (.s 6)⟩,
    ⟨some 8, none, .cst (.t (.int .i64 0))⟩] [] [3, 6, 7, 8]) c65_8) c65_0)
def c65_10 : ACode :=
  (.seq (.region false [⟨some 3, none, .cst (.nils)⟩] [] [0, 3]) c65_9)
def c65 : ACode :=
  (.seq (.region false [⟨some 2, none, .cst (.nils)⟩] [] [0]) c65_10)
def r65 : List ARes := [.tmp 2]
def n65 : Nat := 19
/- 66 slices.Clone[[]string,string] -/
def c66_0 : ACode :=
  (.seq (.region false [⟨some 5, none, .bsl true 1 [] []⟩,
    ⟨some 6, none, .mv (.s 0)⟩,
    ⟨some 7, none, .app 1 16 (.s 5) (.s 6)⟩,
    ⟨some 2, none, .mv (.s 7)⟩] [] [2]) .ret)
def c66_1 : ACode :=
  (.seq (.region false [⟨some 2, none, .cst (.nils)⟩] [] [2]) .ret)
def c66_2 : ACode :=
  (.cond (.s 4) c66_1 .skip)
def c66_3 : ACode :=
  (.seq (.seq (.region false [⟨some 3, none, .mv (.s 0)⟩,
    ⟨some 4, none, .nw (.eqn false (.s 3))⟩] [] [0, 4]) c66_2) c66_0)
def c66 : ACode :=
  (.seq (.region false [⟨some 2, none, .cst (.nils)⟩] [] [0]) c66_3)
def r66 : List ARes := [.tmp 2]
def n66 : Nat := 8
/- 67 supergraph supergraphref02.copies -/
/- 68 supergraph supergraphref10.Find -/
/- 69 supergraph supergraphref11.first -/
/- 70 supergraph supergraphref11.member -/
/- 71 supergraph supergraphref02.Compare -/
/- 72 supergraph supergraphref02.ints -/
/- 73 supergraph supergraphref02.strings -/
/- 74 supergraph supergraphref02.key -/
end Go.GB.C11


/-
  D11A: contracts of chapter 11's functions: finding definitions and fields, lists of names.
-/
namespace Go.GB.C11
open Go.GB
set_option linter.unusedSimpArgs false
set_option linter.unusedVariables false
set_option maxRecDepth 100000
set_option maxHeartbeats 2000000
structure Pr (P : Program) : Prop where
  mixed : P.follows .mixedOrders = true
  i21 : fnInfo P 21 = some (n21, c21.bare, r21)
  i23 : fnInfo P 23 = some (n23, c23.bare, r23)
  i34 : fnInfo P 34 = some (n34, c34.bare, r34)
  i33 : fnInfo P 33 = some (n33, c33.bare, r33)
  i54 : fnInfo P 54 = some (n54, c54.bare, r54)
  i55 : fnInfo P 55 = some (n55, c55.bare, r55)
  i53 : fnInfo P 53 = some (n53, c53.bare, r53)
variable {P : Program}

def findDef (n : Str) : List Def → Option Def
  | [] => none
  | d :: r => if (d.name == n) = true then some d else findDef n r
theorem findDef_mem {n : Str} : ∀ {l : List Def} {d : Def}, findDef n l = some d → d ∈ l
  | [], d, h => by simp [findDef] at h
  | x :: r, d, h => by
    simp only [findDef] at h
    split at h
    · cases h; exact List.mem_cons_self ..
    · exact List.mem_cons_of_mem _ (findDef_mem h)
theorem find_ok (H : Pr P) (ds : List Def) (hl : ds.length ≤ 140737488355328) (n : Str) : FnOk P 54 [docV ds, .t (.str n)] ⟨[], 0⟩ { v := .tup [((findDef n ds).getD Def.zero).v, .t (.bool (findDef n ds).isSome)] } := by
  refine FnOk.run H.i54 H.mixed rfl rfl ?_
  refine fR rfl ?_
  refine lM rfl rfl rfl ?_
  refine fM rfl ?_
  refine rList ds (fun i (_ : Unit) => { env := [(1, .t (.str n)), (4, .ptr 1 0), (9, .t (.lst (ds.map Def.enc))), (10, .t (.int .i64 ds.length)), (11, .t (.int .i64 i))], s := ⟨[(1, .cells [.t (.int .i64 0), .t (.str []), .nils, .nils, .nils, .nils, .nils])], 2⟩ }) (fun r i _ => findDef n ds = findDef n r) 2 () rfl rfl rfl rfl rfl ?_ ?_
  · intro _ hinv
    refine fR rfl ?_
    refine Run.condF rfl rfl (by simp) ?_
    refine fR rfl ?_
    have e : findDef n ds = none := by rw [hinv]; rfl
    rw [e]
    refine Run.fin rfl (EndOk.go ?_); exact .tup2 (.agg (.cons (.t rfl) (.cons (.t rfl) (.cons (.nil rfl) (.cons (.nil rfl) (.cons (.nil rfl) (.cons (.nil rfl) (.cons (.nil rfl) .nil)))))))) (.t rfl)
  · intro i x r _ h1 hi hd hinv ih
    refine fR rfl ?_
    refine Run.condT rfl rfl (by simp; omega) ?_
    refine fR rfl ?_
    refine Mid.elemMap rfl rfl rfl h1 rfl rfl ?_
    refine fM rfl ?_
    refine Run.cond rfl rfl (fun h => ?_) (fun h => ?_)
    · refine fR rfl ?_
      have e : findDef n ds = some x := by rw [hinv]; simp only [findDef]; rw [if_pos h]
      rw [e]
      refine Run.fin rfl (EndOk.go ?_); exact .tup2 (.le (.same rfl)) (.t rfl)
    · refine fR rfl ?_
      refine aL rfl rfl rfl rfl rfl ?_
      refine fM rfl ?_
      have h' : ¬ (x.name == n) = true := by rw [h]; simp
      exact rWeak 2 rfl (ih () (by rw [hinv]; simp only [findDef]; rw [if_neg h'])) rfl rfl rfl

def indexS (s : Str) : List Str → Int → Int
  | [], _ => -1
  | x :: r, i => if (s == x) = true then i else indexS s r (i + 1)
theorem index_ok (H : Pr P) (l : List Str) (hl : l.length ≤ 140737488355328) (s : Str) : FnOk P 53 [.t (.lst (l.map sE)), .t (.str s)] ⟨[], 0⟩ { v := .t (.int .i64 (indexS s l 0)) } := by
  refine FnOk.run H.i53 H.mixed rfl rfl ?_
  refine fR rfl ?_
  refine lM rfl rfl rfl ?_
  refine fM rfl ?_
  refine rList l (fun i (_ : Unit) => { env := [(0, .t (.lst (l.map sE))), (1, .t (.str s)), (7, .t (.int .i64 l.length)), (8, .t (.int .i64 i))], s := ⟨[], 0⟩ }) (fun r i _ => indexS s l 0 = indexS s r i) 0 () rfl rfl rfl rfl rfl ?_ ?_
  · intro _ hinv
    refine fR rfl ?_
    refine Run.condF rfl rfl (by simp) ?_
    refine fR rfl ?_
    refine Run.fin rfl (EndOk.go ?_); exact .t (by rw [hinv]; simp [indexS])
  · intro i x r _ h1 hi hd hinv ih
    refine fR rfl ?_
    refine Run.condT rfl rfl (by simp; omega) ?_
    refine fR rfl ?_
    refine Mid.elemMap rfl rfl rfl h1 rfl rfl ?_
    refine fM rfl ?_
    refine Run.cond rfl rfl (fun h => ?_) (fun h => ?_)
    · refine fR rfl ?_
      refine Run.fin rfl (EndOk.go ?_); exact .t (by rw [hinv]; simp only [indexS]; rw [if_pos h])
    · refine fR rfl ?_
      refine aL rfl rfl rfl rfl rfl ?_
      refine fM rfl ?_
      have h' : ¬ (s == x) = true := by rw [h]; simp
      exact rWeak 0 rfl (ih () (by rw [hinv]; simp only [indexS]; rw [if_neg h']; rfl)) rfl rfl rfl

theorem index_mem (s : Str) : ∀ (l : List Str) (i : Int), 0 ≤ i → (decide (indexS s l i ≥ 0)) = decide (s ∈ l)
  | [], i, _ => by simp [indexS]
  | x :: r, i, hi => by
    by_cases h : s = x
    · subst h; simp [indexS, hi]
    · have h' : ¬ (s == x) = true := by simpa using h
      have e : indexS s (x :: r) i = indexS s r (i + 1) := by simp only [indexS]; rw [if_neg h']
      rw [e, index_mem s r (i + 1) (by omega)]; simp [h]

theorem contains_ok (H : Pr P) (l : List Str) (hl : l.length ≤ 140737488355328) (s : Str) : FnOk P 33 [.t (.lst (l.map sE)), .t (.str s)] ⟨[], 0⟩ { v := .t (.bool (decide (s ∈ l))) } := by
  refine FnOk.run H.i33 H.mixed rfl rfl ?_
  refine fR rfl ?_
  refine Mid.call (index_ok H l hl s) rfl rfl rfl rfl ?_
  refine fM rfl ?_
  refine Run.fin rfl (EndOk.go ?_); exact .t (by rw [← index_mem s l 0 (by omega)])

end Go.GB.C11


/-
  D11B: contracts of chapter 11's functions: Possible.
-/
namespace Go.GB.C11
open Go.GB
set_option linter.unusedSimpArgs false
set_option linter.unusedVariables false
set_option maxRecDepth 100000
set_option maxHeartbeats 2000000
variable {P : Program}

theorem bne_b (a b : Int) : (a != b) = !(a == b) := rfl
def memF (l : List Member) (n : Str) : Bool := l.any fun m => m.name == n
theorem implements_ok (H : Pr P) (t : Def) (ht : t.Ok) (n : Str) : FnOk P 55 [t.v, .t (.str n)] ⟨[], 0⟩ { v := .t (.bool (decide (n ∈ t.implements))) } := by
  refine FnOk.run H.i55 H.mixed rfl rfl ?_
  refine fR rfl ?_
  refine Mid.call (contains_ok H t.implements ht.il n) rfl rfl rfl rfl ?_
  refine fM rfl ?_
  refine Run.fin rfl (EndOk.go ?_); exact .t rfl

/-- no definition ahead has that name -/
def firstF (pre : List Def) (n : Str) : Bool := !(pre.any fun x => x.name == n)
/-- a possible type of a type -/
def isP (t : Def) (nm : Str) (o : Def) : Bool := (t.kind == 1 && o.name == nm) || (t.kind == 2 && decide (nm ∈ o.implements)) || (t.kind == 3 && memF t.members o.name)
/-- the possible types, by the reference -/
def posL (t : Def) (nm : Str) : List Def → List Def → List Str
  | _, [] => []
  | pre, o :: r => if (o.kind == 1 && firstF pre o.name && isP t nm o) = true then o.name :: posL t nm (pre ++ [o]) r else posL t nm (pre ++ [o]) r
def posF (ds : List Def) (nm : Str) : List Str :=
  match findDef nm ds with
  | none => []
  | some t => posL t nm [] ds
theorem docFind {ds : List Def} (hD : DocOk ds) (n : Str) : ((findDef n ds).getD Def.zero).Ok := by
  cases h : findDef n ds with
  | none => exact Def.zero_ok
  | some t => exact hD.d t (findDef_mem h)
end Go.GB.C11


/-
  D11C: contracts of chapter 11's functions: Possible of the program.
-/
namespace Go.GB.C11
open Go.GB
set_option linter.unusedSimpArgs false
set_option linter.unusedVariables false
set_option maxRecDepth 100000
set_option maxHeartbeats 2000000
variable {P : Program}

def bE (b : Bool) : T := .bool b
def hasK (M : List (Str × Bool)) (k : Str) : Bool := (kget k M).isSome
theorem hasK_kset (M : List (Str × Bool)) (x : Str) (k : Str) : hasK (kset x true M) k = (x == k || hasK M k) := by
  unfold hasK
  rw [kget_kset]
  by_cases h : k = x
  · subst h; simp
  · have h' : ¬ x = k := fun e => h e.symm
    simp [h, h']
/-- keys apart, all true -/
structure MOk (M : List (Str × Bool)) : Prop where
  nd : (M.map (·.1)).Nodup
  tr : ∀ e, e ∈ M → e.2 = true
theorem MOk.nil : MOk [] := ⟨by simp, by simp⟩
theorem kset_mem {M : List (Str × Bool)} {x : Str} {v : Bool} : ∀ {e : Str × Bool}, e ∈ kset x v M → e = (x, v) ∨ e ∈ M := by
  induction M with
  | nil => intro e h; simp [kset] at h; exact .inl h
  | cons a r ih =>
    intro e h
    simp only [kset] at h
    split at h
    · rcases List.mem_cons.1 h with h | h
      · exact .inl h
      · exact .inr (List.mem_cons_of_mem _ h)
    · rcases List.mem_cons.1 h with h | h
      · exact .inr (h ▸ List.mem_cons_self ..)
      · rcases ih h with h | h
        · exact .inl h
        · exact .inr (List.mem_cons_of_mem _ h)
theorem MOk.kset {M : List (Str × Bool)} (h : MOk M) (x : Str) : MOk (kset x true M) :=
  ⟨(kset_keys h.nd).1, fun e he => by rcases kset_mem he with rfl | he; rfl; exact h.tr e he⟩
theorem hasK_mem {M : List (Str × Bool)} {k : Str} (h : hasK M k = true) : ∃ e, e ∈ M ∧ e.1 = k := by
  unfold hasK at h
  induction M with
  | nil => simp [kget] at h
  | cons a r ih =>
    simp only [kget] at h
    split at h
    · rename_i e; exact ⟨a, List.mem_cons_self .., e.symm⟩
    · obtain ⟨e, h1, h2⟩ := ih h; exact ⟨e, List.mem_cons_of_mem _ h1, h2⟩
theorem MOk.get {M : List (Str × Bool)} (h : MOk M) (k : Str) : (kget k M).getD false = hasK M k := by
  have h2 := h.tr
  unfold hasK
  induction M with
  | nil => rfl
  | cons a r ih =>
    simp only [kget]
    split
    · simp [h2 a (List.mem_cons_self ..)]
    · exact ih ⟨(List.nodup_cons.1 (by simpa using h.nd)).2, fun e he => h2 e (List.mem_cons_of_mem _ he)⟩ fun e he => h2 e (List.mem_cons_of_mem _ he)

theorem kdrop_at {κ ν : Type} [DecidableEq κ] {e : κ × ν} : ∀ {l : List (κ × ν)} {i : Nat}, l[i]? = some e → (l.map (·.1)).Nodup → kdrop e.1 l = l.eraseIdx i
  | [], i, h, _ => by simp at h
  | w :: r, 0, h, hn => by simp at h; subst h; simp [kdrop]
  | w :: r, i + 1, h, hn => by
    simp only [List.map_cons, List.nodup_cons] at hn
    have h' : r[i]? = some e := by simpa using h
    have hne : ¬ e.1 = w.1 := fun heq => hn.1 (List.mem_map.2 ⟨e, List.mem_of_getElem? h', heq⟩)
    simp [kdrop, hne, kdrop_at h' hn.2]
theorem hasK_erase {M : List (Str × Bool)} (hM : MOk M) {e : Str × Bool} {i : Nat} (h : M[i]? = some e) (k : Str) : hasK (M.eraseIdx i) k = (hasK M k && !(k == e.1)) := by
  unfold hasK
  rw [← kdrop_at h hM.nd, kget_kdrop hM.nd]
  by_cases hk : k = e.1
  · simp [hk]
  · simp [hk]
theorem hasK_drop {M : List (Str × Bool)} (hM : MOk M) (x k : Str) : hasK (kdrop x M) k = (hasK M k && !(k == x)) := by
  unfold hasK
  rw [kget_kdrop hM.nd]
  by_cases hk : k = x
  · simp [hk]
  · simp [hk]
theorem kdrop_sub {M : List (Str × Bool)} (x : Str) : (kdrop x M).Sublist M := by
  induction M with
  | nil => exact List.Sublist.refl _
  | cons a r ih =>
    simp only [kdrop]
    split
    · exact List.sublist_cons_self ..
    · exact ih.cons_cons _
theorem MOk.sub {M M' : List (Str × Bool)} (h : MOk M) (hs : M'.Sublist M) : MOk M' :=
  ⟨h.nd.sublist (hs.map _), fun e he => h.tr e (hs.subset he)⟩
theorem nodup_at : ∀ {bs : List Nat} {i j s : Nat}, bs.Nodup → bs[i]? = some s → bs[j]? = some s → i = j
  | [], i, j, s, _, h, _ => by simp at h
  | b :: r, 0, 0, s, _, _, _ => rfl
  | b :: r, 0, j + 1, s, hn, h1, h2 => by
    simp at h1; subst h1
    exact absurd (List.mem_of_getElem? (by simpa using h2)) (List.nodup_cons.1 hn).1
  | b :: r, i + 1, 0, s, hn, h1, h2 => by
    simp at h2; subst h2
    exact absurd (List.mem_of_getElem? (by simpa using h1)) (List.nodup_cons.1 hn).1
  | b :: r, i + 1, j + 1, s, hn, h1, h2 => by
    exact congrArg (· + 1) (nodup_at (List.nodup_cons.1 hn).2 (by simpa using h1) (by simpa using h2))
/-- stamps that are still to come -/
def cntU (bs seen : List Nat) : Nat := bs.countP fun s => !decide (s ∈ seen)
theorem cntU_le (bs seen : List Nat) (s : Nat) : cntU bs (seen ++ [s]) ≤ cntU bs seen := by
  unfold cntU
  refine List.countP_mono_left fun x _ h => ?_
  simp at h ⊢; exact h.1
theorem cntU_lt {s : Nat} {seen : List Nat} (hs : s ∉ seen) : ∀ {bs : List Nat}, s ∈ bs → cntU bs (seen ++ [s]) < cntU bs seen
  | [], h => by cases h
  | b :: r, h => by
    have hle := cntU_le r seen s
    unfold cntU at hle ⊢
    simp only [List.countP_cons]
    rcases List.mem_cons.1 h with rfl | h
    · simp [hs]; simp at hle; omega
    · have ih := cntU_lt hs h
      unfold cntU at ih
      have : (if (!decide (b ∈ seen ++ [s])) = true then 1 else 0) ≤ (if (!decide (b ∈ seen)) = true then 1 else 0) := by
        by_cases hb : b ∈ seen
        · simp [hb]
        · by_cases hbs : b = s <;> simp [hb, hbs]
      omega
theorem cntU_erase (bs seen : List Nat) (i : Nat) : cntU (bs.eraseIdx i) seen ≤ cntU bs seen := (List.eraseIdx_sublist ..).countP_le
theorem zip_erase {α β : Type} : ∀ (l : List α) (r : List β) (i : Nat), (l.eraseIdx i).zip (r.eraseIdx i) = (l.zip r).eraseIdx i
  | [], r, i => by simp
  | a :: l, [], i => by cases i <;> simp
  | a :: l, b :: r, 0 => by simp
  | a :: l, b :: r, i + 1 => by simp [zip_erase l r i]

/-- what the loop along the map keeps -/
structure Lp (M : List (Str × Bool)) (bad : Str → Bool) (b : List (Str × Bool) × List Nat × List Nat) : Prop where
  ok : MOk b.1
  len : b.2.1.length = b.1.length
  nd : b.2.1.Nodup
  i1 : ∀ k, hasK b.1 k = true → hasK M k = true
  i2 : ∀ k, hasK M k = true → bad k = false → hasK b.1 k = true
  i3 : ∀ p, p ∈ b.1.zip b.2.1 → p.2 ∈ b.2.2 → bad p.1.1 = false
theorem Lp.keep {M : List (Str × Bool)} {bad : Str → Bool} {L : List (Str × Bool)} {bs seen : List Nat} (h : Lp M bad (L, bs, seen)) {i s : Nat} {e : Str × Bool} (he : L[i]? = some e) (hs : bs[i]? = some s) (hb : bad e.1 = false) : Lp M bad (L, bs, seen ++ [s]) := by
  refine ⟨h.ok, h.len, h.nd, h.i1, h.i2, fun p hp hps => ?_⟩
  rcases List.mem_append.1 hps with hps | hps
  · exact h.i3 p hp hps
  · simp at hps
    obtain ⟨j, hj⟩ := List.mem_iff_getElem?.1 hp
    obtain ⟨h1, h2⟩ := List.getElem?_zip_eq_some.1 hj
    rw [hps] at h2
    have := nodup_at h.nd hs h2
    subst this
    simp only at h1
    rw [he] at h1; simp at h1; rw [← h1]; exact hb
theorem Lp.drop {M : List (Str × Bool)} {bad : Str → Bool} {L : List (Str × Bool)} {bs seen : List Nat} (h : Lp M bad (L, bs, seen)) {i s : Nat} {e : Str × Bool} (he : L[i]? = some e) (hs : bs[i]? = some s) (hb : bad e.1 = true) : Lp M bad (L.eraseIdx i, bs.eraseIdx i, seen ++ [s]) := by
  have hlen : bs.length = L.length := h.len
  have hok : MOk L := h.ok
  refine ⟨hok.sub (List.eraseIdx_sublist ..), by show (bs.eraseIdx i).length = (L.eraseIdx i).length; rw [List.length_eraseIdx, List.length_eraseIdx, hlen], List.Nodup.sublist (List.eraseIdx_sublist ..) h.nd, fun k hk => ?_, fun k hk hkb => ?_, fun p hp hps => ?_⟩
  · have hk' : hasK (L.eraseIdx i) k = true := hk
    rw [hasK_erase hok he] at hk'
    simp at hk'
    exact h.i1 k hk'.1
  · show hasK (L.eraseIdx i) k = true
    rw [hasK_erase hok he]
    have h1 := h.i2 k hk hkb
    have hne : ¬ k = e.1 := by rintro rfl; rw [hb] at hkb; cases hkb
    simp [hne]; exact h1
  · have hp' : p ∈ (L.zip bs).eraseIdx i := by rw [← zip_erase]; exact hp
    have hpm : p ∈ L.zip bs := (List.eraseIdx_sublist ..).subset hp'
    rcases List.mem_append.1 hps with hps | hps
    · exact h.i3 p hpm hps
    · exfalso
      simp at hps
      have hz : (bs.eraseIdx i) = ((L.zip bs).eraseIdx i).map (·.2) := by
        rw [← zip_erase]
        rw [List.map_snd_zip (by rw [List.length_eraseIdx, List.length_eraseIdx, hlen]; exact Nat.le_refl _)]
      have hmem : s ∈ bs.eraseIdx i := by rw [hz, ← hps]; exact List.mem_map.2 ⟨p, hp', rfl⟩
      obtain ⟨j, hj⟩ := List.mem_iff_getElem?.1 hmem
      rw [List.getElem?_eraseIdx] at hj
      split at hj
      · have := nodup_at h.nd hs hj; omega
      · have := nodup_at h.nd hs hj; omega
theorem Lp.last {M : List (Str × Bool)} {bad : Str → Bool} {L : List (Str × Bool)} {bs seen : List Nat} (h : Lp M bad (L, bs, seen)) (hall : ∀ s, s ∈ bs → s ∈ seen) (k : Str) : hasK L k = (hasK M k && !(bad k)) := by
  have hlen : bs.length = L.length := h.len
  by_cases hk : hasK L k = true
  · obtain ⟨e, he, rfl⟩ := hasK_mem hk
    obtain ⟨i, hi⟩ := List.mem_iff_getElem?.1 he
    have hil : i < bs.length := by rw [hlen]; exact (List.getElem?_eq_some_iff.1 hi).1
    have hz : (L.zip bs)[i]? = some (e, bs[i]) := List.getElem?_zip_eq_some.2 ⟨hi, by simp [hil]⟩
    have := h.i3 (e, bs[i]) (List.mem_of_getElem? hz) (hall _ (by simp))
    have h1 := h.i1 e.1 hk
    simp only at this
    rw [hk, h1, this]; rfl
  · have hk' : hasK L k = false := by simpa using hk
    rw [hk']
    by_cases h1 : hasK M k = true
    · by_cases h2 : bad k = false
      · exact absurd (h.i2 k h1 h2) hk
      · have : bad k = true := by simpa using h2
        simp [this]
    · have : hasK M k = false := by simpa using h1
      simp [this]
end Go.GB.C11


/-
  D11D: contracts of chapter 11's functions: Possible of the program.
-/
namespace Go.GB.C11
open Go.GB
set_option linter.unusedSimpArgs false
set_option linter.unusedVariables false
set_option maxRecDepth 100000
set_option maxHeartbeats 2000000
variable {P : Program}

theorem str_comm (a b : Str) : (a == b) = (b == a) := by
  rw [Bool.eq_iff_iff]; simp only [beq_iff_eq]; exact eq_comm
/-- the names that Possible looks at -/
def initB (t : Def) (nm : Str) (ds : List Def) (k : Str) : Bool :=
  (t.kind == 1 && nm == k) || (t.kind == 2 && ds.any (fun x => decide (nm ∈ x.implements) && x.name == k)) || (t.kind == 3 && memF t.members k)
/-- the names that it leaves out -/
def badB (t : Def) (nm : Str) (ds : List Def) (k : Str) : Bool :=
  !(findDef k ds).isSome || ((findDef k ds).getD Def.zero).kind != 1 || (t.kind == 2 && !(decide (nm ∈ ((findDef k ds).getD Def.zero).implements)))
theorem find_first : ∀ {ds : List Def} {i : Nat} {x : Def}, ds[i]? = some x → firstF (ds.take i) x.name = true → findDef x.name ds = some x
  | [], i, x, h, _ => by simp at h
  | y :: r, 0, x, h, _ => by simp at h; subst h; simp [findDef]
  | y :: r, i + 1, x, h, hf => by
    have hne : ¬ (y.name == x.name) = true := by
      intro e; simp [firstF, e] at hf
    simp only [findDef]; rw [if_neg hne]
    refine find_first (i := i) (by simpa using h) ?_
    simp only [firstF, List.take_succ_cons, List.any_cons] at hf ⊢
    have : (y.name == x.name) = false := by simpa using hne
    rw [this, Bool.false_or] at hf; exact hf
theorem good_eq {ds : List Def} {t : Def} {nm : Str} {i : Nat} {x : Def} (h : ds[i]? = some x) (hf : firstF (ds.take i) x.name = true) : (initB t nm ds x.name && !(badB t nm ds x.name)) = (x.kind == 1 && isP t nm x) := by
  have e := find_first h hf
  have hm : x ∈ ds := List.mem_of_getElem? h
  unfold badB initB isP
  rw [e]
  simp only [Option.isSome_some, Option.getD_some, Bool.not_true, Bool.false_or, bne_b]
  by_cases h2 : t.kind = 2
  · have h1 : ¬ t.kind = 1 := by omega
    have h3 : ¬ t.kind = 3 := by omega
    by_cases hx : nm ∈ x.implements
    · have : (ds.any fun y => decide (nm ∈ y.implements) && y.name == x.name) = true := List.any_eq_true.2 ⟨x, hm, by simp [hx]⟩
      simp [h2, hx, this]
    · simp [h2, hx]
  · have e1 : (nm == x.name) = (x.name == nm) := str_comm _ _
    have h2' : (t.kind == 2) = false := by simpa using h2
    simp only [h2', e1, Bool.false_and, Bool.or_false, Bool.and_comm]
    cases (t.kind == 1 && x.name == nm) <;> cases (t.kind == 3 && memF t.members x.name) <;> cases (x.kind == 1) <;> rfl
theorem posL_zero (nm : Str) : ∀ (r pre : List Def), posL Def.zero nm pre r = []
  | [], pre => rfl
  | o :: r, pre => by
    have : isP Def.zero nm o = false := rfl
    simp only [posL, this, Bool.and_false, Bool.false_eq_true, if_false]
    exact posL_zero nm r _
theorem posF_eq (ds : List Def) (nm : Str) : posF ds nm = posL ((findDef nm ds).getD Def.zero) nm [] ds := by
  unfold posF
  cases findDef nm ds with
  | none => simp [posL_zero]
  | some t => rfl
theorem firstF_snoc (l : List Def) (x : Def) (k : Str) : firstF (l ++ [x]) k = (firstF l k && !(x.name == k)) := by
  simp [firstF, List.any_append, Bool.not_or]

theorem possible_ok (H : Pr P) (ds : List Def) (hD : DocOk ds) (nm : Str) : FnOk P 34 [docV ds, .t (.str nm)] ⟨[], 0⟩ { v := .t (.lst ((posF ds nm).map sE)) } := by
  have hl := hD.l
  have hlb := hD.lb
  have hT := docFind hD nm
  have hpos := posF_eq ds nm
  refine FnOk.run H.i34 H.mixed rfl rfl ?_
  refine fR rfl ?_
  refine Mid.call (find_ok H ds hl nm) rfl rfl rfl rfl ?_
  refine fM rfl ?_
  generalize (findDef nm ds).getD Def.zero = t at hT hpos
  have tail : ∀ M : List (Str × Bool), MOk M → (∀ k, hasK M k = initB t nm ds k) → Run P n34 (⟨[], 0⟩ : S).nxt (EndOk ⟨[], 0⟩ { v := .t (.lst ((posF ds nm).map sE)) } r34 AExit.ret)
      [It.c (.region false [⟨some 60, none, .mv (.s 7)⟩, ⟨some 61, none, .mrange (.s 60)⟩] [] [1, 2, 5, 7, 61]), It.c c34_23, It.c c34_13]
      { env := [(1, .t (.str nm)), (2, .ptr 0 0), (5, .ptr 1 0), (7, .mp 2)], s := ⟨[(0, .cells [.t (.lst (ds.map Def.enc))]), (1, .cells [.t (.int .i64 t.kind), .t (.str t.name), .t (.lst (t.implements.map sE)), .t (.lst (t.dirs.map Dir.enc)), .t (.lst (t.fields.map Field.enc)), .t (.lst (t.members.map Member.enc)), .t (.lst (t.inputs.map Input.enc))]), (2, .map false (mE sE bE M) none)], 3⟩ } := by
    intro M hM hMk
    refine Run.learn (q := 2) rfl rfl (fun cl bs hbl hbn hblt => ?_)
    refine fR rfl ?_
    refine Mid.mrangeT rfl rfl rfl ?_
    refine Mid.done0 rfl ?_
    refine rLoopM (β := List (Str × Bool) × List Nat × List Nat) (fun b => { env := [(1, .t (.str nm)), (2, .ptr 0 0), (5, .ptr 1 0), (7, .mp 2), (61, .ptr 3 0)], s := ⟨[(0, .cells [.t (.lst (ds.map Def.enc))]), (1, .cells [.t (.int .i64 t.kind), .t (.str t.name), .t (.lst (t.implements.map sE)), .t (.lst (t.dirs.map Dir.enc)), .t (.lst (t.fields.map Field.enc)), .t (.lst (t.members.map Member.enc)), .t (.lst (t.inputs.map Input.enc))]), (2, .map false (mE sE bE b.1) (some (cl, b.2.1))), (3, .iter 2 cl b.2.2 cl)], 4⟩ })
      (Lp M (badB t nm ds)) (fun b => cntU b.2.1 b.2.2) 4 (M, bs, []) rfl ⟨hM, by simpa [mE] using hbl, hbn, fun _ h => h, fun _ h _ => h, fun p hp h => by cases h⟩ rfl rfl rfl ?_
    rintro ⟨L, bs', seen⟩ hinv ih
    refine Run.nxt rfl rfl rfl rfl rfl (fun hall => ?_) (fun i e s he hs hns => ?_)
    · have hG := hinv.last hall
      have hLok : MOk L := hinv.ok
      refine fM rfl ?_
      refine Run.condF rfl rfl rfl ?_
      refine fR rfl ?_
      refine lM rfl rfl rfl ?_
      refine fM rfl ?_
      refine rList ds (fun i (B : List Str × List (Str × Bool)) => { env := [(7, .mp 2), (15, .own 4 1 (B.1.map sE)), (93, .t (.lst (ds.map Def.enc))), (94, .t (.int .i64 ds.length)), (95, .t (.int .i64 i))], s := ⟨[(2, .map false (mE sE bE B.2) none), (4, .arr B.1.length)], 5⟩ }) (fun r i B => B.1.length ≤ i ∧ MOk B.2 ∧ (∀ k, hasK B.2 k = (hasK L k && firstF (ds.take i) k)) ∧ posF ds nm = B.1 ++ posL t nm (ds.take i) r) 4 ([], L) rfl ⟨by simp, hLok, by intro k; simp [firstF], by rw [hpos]; simp⟩ rfl rfl rfl ?_ ?_
      · rintro ⟨B, N⟩ ⟨_, _, _, hB⟩
        obtain rfl : B = posF ds nm := by rw [hB]; simp [posL]
        refine fR rfl ?_
        refine Run.condF rfl rfl (by simp) ?_
        refine fR rfl ?_
        refine Run.fin rfl (EndOk.go ?_); exact .own rfl
      · rintro i x r ⟨B, N⟩ h1 hi hd ⟨hBl, hN, hNk, hB⟩ ih2
        have hBl' : B.length ≤ i := hBl
        have hNok : MOk N := hN
        have htk : ds.take i ++ [x] = ds.take (i + 1) := by rw [List.take_add_one, h1]; rfl
        have hx := hNk x.name
        refine fR rfl ?_
        refine Run.condT rfl rfl (by simp; omega) ?_
        refine fR rfl ?_
        refine Mid.elemMap rfl rfl rfl h1 rfl rfl ?_
        refine fM rfl ?_
        refine Mid.lookT (x.name) rfl rfl rfl rfl rfl (sE_ok) rfl ?_
        refine fM rfl ?_
        rw [hNok.get]
        refine Run.cond rfl rfl (fun hc => ?_) (fun hc => ?_)
        · have hc2 : hasK L x.name = true ∧ firstF (ds.take i) x.name = true := by
            have : hasK N x.name = true := hc
            rw [this] at hx; simpa using hx.symm
          have hg : (x.kind == 1 && isP t nm x) = true := by rw [← good_eq h1 hc2.2, ← hMk, ← hG]; exact hc2.1
          have hsel : (x.kind == 1 && firstF (ds.take i) x.name && isP t nm x) = true := by
            rw [hc2.2, Bool.and_true]; exact hg
          refine fR rfl ?_
          refine apM sE B [x.name] rfl rfl rfl rfl rfl ?_
          refine fM rfl ?_
          refine Mid.delT x.name rfl rfl rfl sE_ok rfl ?_
          refine fM rfl ?_
          refine aL rfl rfl rfl rfl rfl ?_
          refine fM rfl ?_
          exact rWeak 5 rfl (ih2 (B ++ [x.name], kdrop x.name N) ⟨by simp; omega, hNok.sub (kdrop_sub _), by
            intro k
            show hasK (kdrop x.name N) k = _
            rw [hasK_drop hNok, show hasK N k = _ from hNk k, ← htk, firstF_snoc]
            rw [str_comm k x.name, Bool.and_assoc], by rw [hB]; simp only [posL]; rw [if_pos hsel, htk]; simp⟩) rfl rfl rfl
        · have hcN : hasK N x.name = false := hc
          have hsel : ¬ (x.kind == 1 && firstF (ds.take i) x.name && isP t nm x) = true := by
            intro hs
            simp only [Bool.and_eq_true] at hs
            have hg : (x.kind == 1 && isP t nm x) = true := by rw [hs.1.1, hs.2]; rfl
            rw [← good_eq h1 hs.1.2, ← hMk, ← hG] at hg
            rw [hcN, hg, hs.1.2] at hx
            cases hx
          refine fR rfl ?_
          refine aL rfl rfl rfl rfl rfl ?_
          refine fM rfl ?_
          exact rWeak 5 rfl (ih2 (B, N) ⟨by omega, hNok, by
            intro k
            show hasK N k = _
            rw [show hasK N k = _ from hNk k, ← htk, firstF_snoc]
            by_cases e : x.name = k
            · subst e
              rw [show hasK N x.name = _ from hNk x.name] at hcN
              rw [hcN]; simp
            · have e' : (x.name == k) = false := by simpa using e
              rw [e']; simp, by rw [hB]; simp only [posL]; rw [if_neg hsel, htk]⟩) rfl rfl rfl
    · have hbn' : bs'.Nodup := hinv.nd
      have hLok : MOk L := hinv.ok
      have hsm : s ∈ bs' := List.mem_of_getElem? hs
      have hO := docFind hD e.1
      have hil := hO.il
      have hlt : cntU bs' (seen ++ [s]) < cntU bs' seen := cntU_lt hns hsm
      refine fM rfl ?_
      refine Run.condT rfl rfl rfl ?_
      refine fR rfl ?_
      refine Mid.ientT (i := i) (z := s) rfl rfl rfl (by simp) he hs hbn' rfl ?_
      refine fM rfl ?_
      refine Mid.call (find_ok H ds hl e.1) rfl rfl rfl rfl ?_
      refine fM rfl ?_
      refine caG rfl rfl (fun hg => ⟨_, rfl, implements_ok H ((findDef e.1 ds).getD Def.zero) hO nm, rfl⟩) rfl rfl ?_
      refine fM rfl ?_
      refine Run.cond rfl rfl (fun hb => ?_) (fun hb => ?_)
      · have hb' : badB t nm ds e.1 = true := by simpa [badB, bne_b] using hb
        refine fR rfl ?_
        refine Mid.delI (i := i) rfl rfl he hLok.nd rfl sE_ok rfl ?_
        refine fM rfl ?_
        exact rWeak 4 rfl (ih (L.eraseIdx i, bs'.eraseIdx i, seen ++ [s]) (by have := cntU_erase bs' (seen ++ [s]) i; show cntU (bs'.eraseIdx i) (seen ++ [s]) < cntU bs' seen; omega) (hinv.drop he hs hb')) rfl rfl rfl
      · have hb' : badB t nm ds e.1 = false := by simpa [badB, bne_b] using hb
        skip
        exact rWeak 4 rfl (ih (L, bs', seen ++ [s]) hlt (hinv.keep he hs hb')) rfl rfl rfl
  refine Mid.mkmapT sE bE rfl ?_
  refine fM rfl ?_
  refine Run.cond rfl rfl (fun h1 => ?_) (fun h1 => ?_)
  · have h1' : t.kind = 1 := by simpa using h1
    refine fR rfl ?_
    refine Mid.mapT nm rfl rfl rfl rfl sE_ok rfl ?_
    refine Mid.done0 rfl ?_
    exact rWeakC 3 rfl (tail (kset nm true []) (MOk.nil.kset nm) (by intro k; rw [hasK_kset]; simp [initB, h1', hasK, kget])) rfl rfl rfl
  · have h1' : ¬ t.kind = 1 := by simpa using h1
    refine fR rfl ?_
    refine Run.cond rfl rfl (fun h2 => ?_) (fun h2 => ?_)
    · have h2' : t.kind = 2 := by simpa using h2
      refine fR rfl ?_
      refine lM rfl rfl rfl ?_
      refine fM rfl ?_
      refine rList ds (fun i (M : List (Str × Bool)) => { env := [(1, .t (.str nm)), (2, .ptr 0 0), (5, .ptr 1 0), (7, .mp 2), (34, .t (.lst (ds.map Def.enc))), (35, .t (.int .i64 ds.length)), (36, .t (.int .i64 i))], s := ⟨[(0, .cells [.t (.lst (ds.map Def.enc))]), (1, .cells [.t (.int .i64 t.kind), .t (.str t.name), .t (.lst (t.implements.map sE)), .t (.lst (t.dirs.map Dir.enc)), .t (.lst (t.fields.map Field.enc)), .t (.lst (t.members.map Member.enc)), .t (.lst (t.inputs.map Input.enc))]), (2, .map false (mE sE bE M) none)], 3⟩ }) (fun r i M => MOk M ∧ ∀ k, (hasK M k || r.any (fun x => decide (nm ∈ x.implements) && x.name == k)) = ds.any (fun x => decide (nm ∈ x.implements) && x.name == k)) 3 [] rfl ⟨MOk.nil, fun k => by simp [hasK, kget]⟩ rfl rfl rfl ?_ ?_
      · rintro M ⟨hM, hMk⟩
        refine fR rfl ?_
        refine Run.condF rfl rfl (by simp) ?_
        exact rWeakC 3 rfl (tail M hM (by intro k; have := hMk k; simp only [List.any_nil, Bool.or_false] at this; rw [this]; simp [initB, h2'])) rfl rfl rfl
      · rintro i x r M hx1 hi hd ⟨hM, hMk⟩ ih
        have hxo := hD.d x (List.mem_of_getElem? hx1)
        refine fR rfl ?_
        refine Run.condT rfl rfl (by simp; omega) ?_
        refine fR rfl ?_
        refine Mid.elemMap rfl rfl rfl hx1 rfl rfl ?_
        refine fM rfl ?_
        refine Mid.call (implements_ok H x hxo nm) rfl rfl rfl rfl ?_
        refine fM rfl ?_
        refine Run.cond rfl rfl (fun hc => ?_) (fun hc => ?_)
        · refine fR rfl ?_
          refine Mid.mapT (x.name) rfl rfl rfl rfl (sE_ok) rfl ?_
          refine fM rfl ?_
          refine aL rfl rfl rfl rfl rfl ?_
          refine fM rfl ?_
          exact rWeak 3 rfl (ih (kset x.name true M) ⟨hM.kset _, fun k => by
            rw [← hMk k, hasK_kset]
            have : decide (nm ∈ x.implements) = true := hc
            simp only [List.any_cons, this, Bool.true_and]
            cases (x.name == k) <;> cases (hasK M k) <;> simp⟩) rfl rfl rfl
        · refine fR rfl ?_
          refine aL rfl rfl rfl rfl rfl ?_
          refine fM rfl ?_
          exact rWeak 3 rfl (ih M ⟨hM, fun k => by
            rw [← hMk k]
            have : decide (nm ∈ x.implements) = false := hc
            simp only [List.any_cons, this, Bool.false_and, Bool.false_or]⟩) rfl rfl rfl
    · have h2' : ¬ t.kind = 2 := by simpa using h2
      refine fR rfl ?_
      refine Run.cond rfl rfl (fun h3 => ?_) (fun h3 => ?_)
      · have h3' : t.kind = 3 := by simpa using h3
        have hml := hT.ml
        refine fR rfl ?_
        refine lM rfl rfl rfl ?_
        refine fM rfl ?_
        refine rList t.members (fun i (M : List (Str × Bool)) => { env := [(1, .t (.str nm)), (2, .ptr 0 0), (5, .ptr 1 0), (7, .mp 2), (50, .t (.lst (t.members.map Member.enc))), (51, .t (.int .i64 t.members.length)), (52, .t (.int .i64 i))], s := ⟨[(0, .cells [.t (.lst (ds.map Def.enc))]), (1, .cells [.t (.int .i64 t.kind), .t (.str t.name), .t (.lst (t.implements.map sE)), .t (.lst (t.dirs.map Dir.enc)), .t (.lst (t.fields.map Field.enc)), .t (.lst (t.members.map Member.enc)), .t (.lst (t.inputs.map Input.enc))]), (2, .map false (mE sE bE M) none)], 3⟩ }) (fun r i M => MOk M ∧ ∀ k, (hasK M k || memF r k) = memF t.members k) 3 [] rfl ⟨MOk.nil, fun k => by simp [hasK, kget]⟩ rfl rfl rfl ?_ ?_
        · rintro M ⟨hM, hMk⟩
          refine fR rfl ?_
          refine Run.condF rfl rfl (by simp) ?_
          exact rWeakC 3 rfl (tail M hM (by intro k; have := hMk k; simp only [memF, List.any_nil, Bool.or_false] at this; rw [this]; simp [initB, h3', memF])) rfl rfl rfl
        · rintro i x r M hx1 hi hd ⟨hM, hMk⟩ ih
          refine fR rfl ?_
          refine Run.condT rfl rfl (by simp; omega) ?_
          refine fR rfl ?_
          refine Mid.elemMap rfl rfl rfl hx1 rfl rfl ?_
          refine fM rfl ?_
          refine Mid.mapT (x.name) rfl rfl rfl rfl (sE_ok) rfl ?_
          refine fM rfl ?_
          refine aL rfl rfl rfl rfl rfl ?_
          refine fM rfl ?_
          exact rWeak 3 rfl (ih (kset x.name true M) ⟨hM.kset _, fun k => by
            rw [← hMk k, hasK_kset]
            simp only [memF, List.any_cons]
            cases (x.name == k) <;> cases (hasK M k) <;> simp⟩) rfl rfl rfl
      · have h3' : ¬ t.kind = 3 := by simpa using h3
        exact rWeakC 3 rfl (tail [] MOk.nil (by intro k; simp [initB, hasK, kget, h1', h2', h3'])) rfl rfl rfl
end Go.GB.C11


/-
  D11E: contracts of chapter 11's functions: types of fields (typeref), Is, Sub.
-/
namespace Go.GB.C11
open Go.GB
set_option linter.unusedSimpArgs false
set_option linter.unusedVariables false
set_option maxRecDepth 100000
set_option maxHeartbeats 2000000
variable {P : Program}

/- wrappers -/
end Go.GB.C11


/-
  D11F: contracts of chapter 11's functions: lists among types, Is, Sub.
-/
namespace Go.GB.C11
open Go.GB
set_option linter.unusedSimpArgs false
set_option linter.unusedVariables false
set_option maxRecDepth 100000
set_option maxHeartbeats 2000000
variable {P : Program}

/-- is it a possible type? -/
def isF (ds : List Def) (o n : Str) : Bool := decide (o ∈ posF ds n)
theorem posL_len (t : Def) (nm : Str) : ∀ (r pre : List Def), (posL t nm pre r).length ≤ r.length
  | [], pre => by simp [posL]
  | o :: r, pre => by
    have := posL_len t nm r (pre ++ [o])
    simp only [posL]
    split <;> simp <;> omega
theorem posF_len (ds : List Def) (nm : Str) : (posF ds nm).length ≤ ds.length := by
  rw [posF_eq]; exact posL_len _ nm ds []
theorem is_ok (H : Pr P) (ds : List Def) (hD : DocOk ds) (o n : Str) : FnOk P 23 [docV ds, .t (.str o), .t (.str n)] ⟨[], 0⟩ { v := .t (.bool (isF ds o n)) } := by
  have hl := posF_len ds n
  have := hD.l
  refine FnOk.run H.i23 H.mixed rfl rfl ?_
  refine fR rfl ?_
  refine Mid.call (possible_ok H ds hD n) rfl rfl rfl rfl ?_
  refine fM rfl ?_
  refine Mid.call (contains_ok H (posF ds n) (by omega) o) rfl rfl rfl rfl ?_
  refine fM rfl ?_
  refine Run.fin rfl (EndOk.go ?_); exact .t rfl
end Go.GB.C11


/-
  D11G: contracts of chapter 11's functions: Sub of the reference, Overlap, Strings.
-/
namespace Go.GB.C11
open Go.GB
set_option linter.unusedSimpArgs false
set_option linter.unusedVariables false
set_option maxRecDepth 100000
set_option maxHeartbeats 2000000
variable {P : Program}

end Go.GB.C11


/-
  D11H: contracts of chapter 11's functions: Overlap, lists that are compared, names.
-/
namespace Go.GB.C11
open Go.GB
set_option linter.unusedSimpArgs false
set_option linter.unusedVariables false
set_option maxRecDepth 100000
set_option maxHeartbeats 2000000
variable {P : Program}

/- lists that are compared -/
theorem drop_at {α : Type} {l : List α} {i : Nat} {y : α} (h : l[i]? = some y) : l.drop i = y :: l.drop (i + 1) := by
  obtain ⟨hi, hy⟩ := List.getElem?_eq_some_iff.1 h
  rw [List.drop_eq_getElem_cons hi, hy]
structure Fault where
  err : Int
  at_ : Str
instance : DecidableEq Fault := fun a b => decidable_of_iff (a.err = b.err ∧ a.at_ = b.at_) (by cases a; cases b; simp)
def Fault.enc (f : Fault) : List T := [.int .i64 f.err, .str f.at_]
end Go.GB.C11


/-
  D11I: contracts of chapter 11's functions: Large, right types, Fits.
-/
namespace Go.GB.C11
open Go.GB
set_option linter.unusedSimpArgs false
set_option linter.unusedVariables false
set_option maxRecDepth 100000
set_option maxHeartbeats 2000000
variable {P : Program}

def lgFld (n : Int) (f : Field) : Int := IntKind.i64.wrap (n + IntKind.i64.wrap ((f.args.length : Nat) + (f.dirs.length : Nat)))
def lgDef (n : Int) (d : Def) : Int := d.fields.foldl lgFld (IntKind.i64.wrap (n + IntKind.i64.wrap (IntKind.i64.wrap (IntKind.i64.wrap (IntKind.i64.wrap (IntKind.i64.wrap (1 + (d.fields.length : Nat)) + (d.members.length : Nat)) + (d.inputs.length : Nat)) + (d.dirs.length : Nat)) + (d.implements.length : Nat))))
def largeF (ds : List Def) : Bool := decide ((ds.length : Int) > 70) || decide (ds.foldl lgDef 0 > 1000)
theorem large_ok (H : Pr P) (ds : List Def) (hD : DocOk ds) : FnOk P 21 [docV ds] ⟨[], 0⟩ { v := .t (.bool (largeF ds)) } := by
  have hl := hD.l
  refine FnOk.run H.i21 H.mixed rfl rfl ?_
  refine fR rfl ?_
  refine lM rfl rfl rfl ?_
  refine fM rfl ?_
  refine Run.cond rfl rfl (fun h => ?_) (fun h => ?_)
  · refine fR rfl ?_
    refine Run.fin rfl (EndOk.go ?_); exact .t (by unfold largeF; rw [show decide ((ds.length : Int) > 70) = true from h]; rfl)
  · have h' : decide ((ds.length : Int) > 70) = false := h
    refine fR rfl ?_
    refine rList ds (fun i (n : Int) => { env := [(1, .ptr 0 0), (3, .t (.int .i64 n)), (4, .t (.int .i64 i))], s := ⟨[(0, .cells [.t (.lst (ds.map Def.enc))])], 1⟩ }) (fun r i n => ds.foldl lgDef 0 = r.foldl lgDef n) 1 0 rfl rfl rfl rfl rfl ?_ ?_
    · rintro n hinv
      refine fR rfl ?_
      refine lM rfl rfl rfl ?_
      refine fM rfl ?_
      refine Run.condF rfl rfl (by simp) ?_
      refine fR rfl ?_
      refine Run.fin rfl (EndOk.go ?_); exact .t (by unfold largeF; rw [h', hinv]; rfl)
    · rintro i x r n h1 hi hd hinv ih
      have hinv' : ds.foldl lgDef 0 = r.foldl lgDef (lgDef n x) := hinv
      refine fR rfl ?_
      refine lM rfl rfl rfl ?_
      refine fM rfl ?_
      refine Run.condT rfl rfl (by simp; omega) ?_
      refine fR rfl ?_
      refine Mid.elemMap rfl rfl rfl h1 rfl rfl ?_
      refine fM rfl ?_
      refine lM rfl rfl rfl ?_
      refine p0 rfl ?_
      refine fM rfl ?_
      refine lM rfl rfl rfl ?_
      refine p0 rfl ?_
      refine fM rfl ?_
      refine lM rfl rfl rfl ?_
      refine p0 rfl ?_
      refine fM rfl ?_
      refine lM rfl rfl rfl ?_
      refine p0 rfl ?_
      refine fM rfl ?_
      refine lM rfl rfl rfl ?_
      refine p0 rfl ?_
      refine p0 rfl ?_
      refine fM rfl ?_
      have hfl := (hD.d x (List.mem_of_getElem? h1)).fl
      generalize hn1 : IntKind.i64.wrap (n + IntKind.i64.wrap (IntKind.i64.wrap (IntKind.i64.wrap (IntKind.i64.wrap (IntKind.i64.wrap (1 + (x.fields.length : Nat)) + (x.members.length : Nat)) + (x.inputs.length : Nat)) + (x.dirs.length : Nat)) + (x.implements.length : Nat))) = n1
      have en : lgDef n x = x.fields.foldl lgFld n1 := by rw [← hn1]; rfl
      rw [en] at hinv'
      refine rList x.fields (fun j (n : Int) => { env := [(1, .ptr 0 0), (3, .t (.int .i64 n)), (4, .t (.int .i64 i)), (5, .ptr 1 0), (6, .t (.int .i64 j))], s := ⟨[(0, .cells [.t (.lst (ds.map Def.enc))]), (1, .cells [.t (.int .i64 x.kind), .t (.str x.name), .t (.lst (x.implements.map sE)), .t (.lst (x.dirs.map Dir.enc)), .t (.lst (x.fields.map Field.enc)), .t (.lst (x.members.map Member.enc)), .t (.lst (x.inputs.map Input.enc))])], 2⟩ }) (fun r2 j n => ds.foldl lgDef 0 = r.foldl lgDef (r2.foldl lgFld n)) 2 n1 rfl (by rw [hinv']) rfl rfl rfl ?_ ?_
      · rintro n2 hinv2
        refine fR rfl ?_
        refine lM rfl rfl rfl ?_
        refine fM rfl ?_
        refine Run.condF rfl rfl (by simp) ?_
        refine fR rfl ?_
        refine aL rfl rfl rfl rfl rfl ?_
        refine fM rfl ?_
        exact rWeak 1 rfl (ih n2 (by rw [hinv2]; rfl)) rfl rfl rfl
      · rintro j f r2 n2 h2 hj hjd hinv2 ih2
        refine fR rfl ?_
        refine lM rfl rfl rfl ?_
        refine fM rfl ?_
        refine Run.condT rfl rfl (by simp; omega) ?_
        refine fR rfl ?_
        refine Mid.elemMap rfl rfl rfl h2 rfl rfl ?_
        refine fM rfl ?_
        refine lM rfl rfl rfl ?_
        refine fM rfl ?_
        refine Mid.elemMap rfl rfl rfl h2 rfl rfl ?_
        refine fM rfl ?_
        refine lM rfl rfl rfl ?_
        refine p0 rfl ?_
        refine p0 rfl ?_
        refine fM rfl ?_
        refine aL rfl rfl rfl rfl rfl ?_
        refine fM rfl ?_
        exact rWeak 2 rfl (ih2 (lgFld n2 f) (by rw [hinv2]; rfl)) rfl rfl rfl

/- names -/
/- right types -/
/- lists of lists, Fits -/
end Go.GB.C11


/-
  E13A: documents' selections as data; chapter 13's functions: finding fragments, names.
-/
namespace Go.GB
inductive Sel where
  | mk (kind : Int) (ali name on : Str) (args : List Arg) (dirs : List Dir) (sels : List Sel)
namespace Sel
def kind : Sel → Int | .mk k _ _ _ _ _ _ => k
def ali : Sel → Str | .mk _ k _ _ _ _ _ => k
def name : Sel → Str | .mk _ _ k _ _ _ _ => k
def on : Sel → Str | .mk _ _ _ k _ _ _ => k
def args : Sel → List Arg | .mk _ _ _ _ k _ _ => k
def dirs : Sel → List Dir | .mk _ _ _ _ _ k _ => k
def sels : Sel → List Sel | .mk _ _ _ _ _ _ k => k
mutual
def enc : Sel → List T
  | .mk k a n o ar ds ss => [.int .i64 k, .str a, .str n, .str o, .lst (ar.map Arg.enc), .lst (ds.map Dir.enc), .lst (encs ss)]
def encs : List Sel → List (List T)
  | [] => []
  | v :: r => v.enc :: encs r
end
theorem encs_map : ∀ l : List Sel, encs l = l.map enc
  | [] => by simp [encs]
  | v :: r => by simp [encs, encs_map r]
def cs (v : Sel) : List T := [.int .i64 v.kind, .str v.ali, .str v.name, .str v.on, .lst (v.args.map Arg.enc), .lst (v.dirs.map Dir.enc), .lst (v.sels.map enc)]
theorem enc_eq (v : Sel) : v.enc = v.cs := by
  cases v; simp [enc, cs, kind, ali, name, on, args, dirs, sels, encs_map]
theorem size_sels : ∀ (v : Sel) , SizeOf.sizeOf v.sels < SizeOf.sizeOf v
  | .mk k a n o ar ds ss => by simp only [sels, Sel.mk.sizeOf_spec]; omega
def v (v : Sel) : V := .agg [.t (.int .i64 v.kind), .t (.str v.ali), .t (.str v.name), .t (.str v.on), .t (.lst (v.args.map Arg.enc)), .t (.lst (v.dirs.map Dir.enc)), .t (.lst (v.sels.map enc))]
end Sel
inductive Sel.Ok : Sel → Prop where
  | mk {k : Int} {a n o : Str} {ar : List Arg} {ds : List Dir} {ss : List Sel} (h1 : a.length ≤ 140737488355328) (h2 : n.length ≤ 140737488355328) (h3 : o.length ≤ 140737488355328) (h4 : ar.length * 96 ≤ B47) (h5 : ds.length ≤ 140737488355328) (h6 : ss.length * 128 ≤ B47)
    (h7 : ∀ x, x ∈ ar → x.Ok ∧ x.name.length ≤ 140737488355328) (h8 : ∀ x, x ∈ ds → x.Ok ∧ ∀ y, y ∈ x.args → y.name.length ≤ 140737488355328) (h9 : ∀ x, x ∈ ss → Sel.Ok x) : Sel.Ok (.mk k a n o ar ds ss)
namespace Sel.Ok
theorem al {v : Sel} (h : v.Ok) : v.ali.length ≤ 140737488355328 := by cases h with | mk h1 => exact h1
theorem nm {v : Sel} (h : v.Ok) : v.name.length ≤ 140737488355328 := by cases h with | mk h1 h2 => exact h2
theorem on {v : Sel} (h : v.Ok) : v.on.length ≤ 140737488355328 := by cases h with | mk h1 h2 h3 => exact h3
theorem arl {v : Sel} (h : v.Ok) : v.args.length * 96 ≤ 140737488355328 := by cases h with | mk h1 h2 h3 h4 => exact h4
theorem dl {v : Sel} (h : v.Ok) : v.dirs.length ≤ 140737488355328 := by cases h with | mk h1 h2 h3 h4 h5 => exact h5
theorem sl {v : Sel} (h : v.Ok) : v.sels.length * 128 ≤ 140737488355328 := by cases h with | mk h1 h2 h3 h4 h5 h6 => exact h6
theorem ar {v : Sel} (h : v.Ok) : ∀ x, x ∈ v.args → x.Ok ∧ x.name.length ≤ 140737488355328 := by cases h with | mk h1 h2 h3 h4 h5 h6 h7 => exact h7
theorem d {v : Sel} (h : v.Ok) : ∀ x, x ∈ v.dirs → x.Ok ∧ ∀ y, y ∈ x.args → y.name.length ≤ 140737488355328 := by cases h with | mk h1 h2 h3 h4 h5 h6 h7 h8 => exact h8
theorem s {v : Sel} (h : v.Ok) : ∀ x, x ∈ v.sels → x.Ok := by cases h with | mk h1 h2 h3 h4 h5 h6 h7 h8 h9 => exact h9
end Sel.Ok
structure Var where
  name : Str
  ty : Ref
  has : Bool
  dflt : Val
def Var.enc (x : Var) : List T := [.str x.name, .str x.ty.name, .lst (x.ty.wraps.map nE), .bool x.has, .int .i64 x.dflt.kind, .int .i64 x.dflt.int, .str x.dflt.text, .lst (x.dflt.items.map Val.enc), .lst (x.dflt.keys.map sE)]
structure Op where
  kind : Int
  name : Str
  vars : List Var
  sels : List Sel
def Op.enc (x : Op) : List T := [.int .i64 x.kind, .str x.name, .lst (x.vars.map Var.enc), .lst (x.sels.map Sel.enc)]
structure Frag where
  name : Str
  on : Str
  sels : List Sel
def Frag.enc (x : Frag) : List T := [.str x.name, .str x.on, .lst (x.sels.map Sel.enc)]
def Frag.v (x : Frag) : V := .agg [.t (.str x.name), .t (.str x.on), .t (.lst (x.sels.map Sel.enc))]
def Frag.zero : Frag := ⟨[], [], []⟩
structure Query where
  ops : List Op
  frags : List Frag
def Query.v (q : Query) : V := .agg [.t (.lst (q.ops.map Op.enc)), .t (.lst (q.frags.map Frag.enc))]
def SelsOk (l : List Sel) : Prop := l.length * 128 ≤ 140737488355328 ∧ ∀ x, x ∈ l → x.Ok
structure Var.Ok (x : Var) : Prop where
  nm : x.name.length ≤ 140737488355328
  t : x.ty.Ok
  v : x.dflt.Ok
structure Op.Ok (x : Op) : Prop where
  nm : x.name.length ≤ 140737488355328
  vl : x.vars.length ≤ 140737488355328
  v : ∀ y, y ∈ x.vars → y.Ok
  s : SelsOk x.sels
structure Frag.Ok (x : Frag) : Prop where
  nm : x.name.length ≤ 140737488355328
  on : x.on.length ≤ 140737488355328
  s : SelsOk x.sels
theorem Frag.zero_ok : Frag.zero.Ok := ⟨by decide, by decide, by decide, by simp [Frag.zero]⟩
structure Query.Ok (q : Query) : Prop where
  ol : q.ops.length ≤ 140737488355328
  o : ∀ x, x ∈ q.ops → x.Ok
  fl : q.frags.length * 56 ≤ 140737488355328
  f : ∀ x, x ∈ q.frags → x.Ok
theorem SelsOk.sub {x : Sel} (h : x.Ok) : SelsOk x.sels := ⟨h.sl, h.s⟩
end Go.GB
namespace Go.GB.C11
open Go.GB
set_option linter.unusedSimpArgs false
set_option linter.unusedVariables false
set_option maxRecDepth 100000
set_option maxHeartbeats 2000000
structure Pr13 (P : Program) : Prop extends Pr P where
  i42 : fnInfo P 42 = some (n42, c42.bare, r42)
  i58 : fnInfo P 58 = some (n58, c58.bare, r58)
variable {P : Program}

def findFrag (n : Str) : List Frag → Option Frag
  | [] => none
  | d :: r => if (d.name == n) = true then some d else findFrag n r
theorem findFrag_mem {n : Str} : ∀ {l : List Frag} {d : Frag}, findFrag n l = some d → d ∈ l
  | [], d, h => by simp [findFrag] at h
  | x :: r, d, h => by
    simp only [findFrag] at h
    split at h
    · cases h; exact List.mem_cons_self ..
    · exact List.mem_cons_of_mem _ (findFrag_mem h)
theorem findFrag_name {n : Str} : ∀ {l : List Frag} {d : Frag}, findFrag n l = some d → d.name = n
  | [], d, h => by simp [findFrag] at h
  | x :: r, d, h => by
    simp only [findFrag] at h
    split at h
    · rename_i hx; cases h; simpa using hx
    · exact findFrag_name h
theorem qfind_ok (H : Pr13 P) (q : Query) (hq : q.Ok) (n : Str) : FnOk P 42 [q.v, .t (.str n)] ⟨[], 0⟩ { v := .tup [((findFrag n q.frags).getD Frag.zero).v, .t (.bool (findFrag n q.frags).isSome)] } := by
  have hl := hq.fl
  refine FnOk.run H.i42 H.mixed rfl rfl ?_
  refine fR rfl ?_
  refine lM rfl rfl rfl ?_
  refine fM rfl ?_
  refine rList q.frags (fun i (_ : Unit) => { env := [(1, .t (.str n)), (4, .ptr 1 0), (9, .t (.lst (q.frags.map Frag.enc))), (10, .t (.int .i64 q.frags.length)), (11, .t (.int .i64 i))], s := ⟨[(1, .cells [.t (.str []), .t (.str []), .nils])], 2⟩ }) (fun r i _ => findFrag n q.frags = findFrag n r) 2 () rfl rfl rfl rfl rfl ?_ ?_
  · intro _ hinv
    refine fR rfl ?_
    refine Run.condF rfl rfl (by simp) ?_
    refine fR rfl ?_
    have e : findFrag n q.frags = none := by rw [hinv]; rfl
    rw [e]
    refine Run.fin rfl (EndOk.go ?_); exact .tup2 (.agg (.cons (.t rfl) (.cons (.t rfl) (.cons (.nil rfl) .nil)))) (.t rfl)
  · intro i x r _ h1 hi hd hinv ih
    refine fR rfl ?_
    refine Run.condT rfl rfl (by simp; omega) ?_
    refine fR rfl ?_
    refine Mid.elemMap rfl rfl rfl h1 rfl rfl ?_
    refine fM rfl ?_
    refine Run.cond rfl rfl (fun h => ?_) (fun h => ?_)
    · refine fR rfl ?_
      have e : findFrag n q.frags = some x := by rw [hinv]; simp only [findFrag]; rw [if_pos h]
      rw [e]
      refine Run.fin rfl (EndOk.go ?_); exact .tup2 (.le (.same rfl)) (.t rfl)
    · refine fR rfl ?_
      refine aL rfl rfl rfl rfl rfl ?_
      refine fM rfl ?_
      have h' : ¬ (x.name == n) = true := by rw [h]; simp
      exact rWeak 2 rfl (ih () (by rw [hinv]; simp only [findFrag]; rw [if_neg h'])) rfl rfl rfl
end Go.GB.C11


/-
  H18A: chapter 18: values are copied, found and compared with themselves.
-/
namespace Go.GB.C18
open Go.GB Go.GB.C11
set_option linter.unusedSimpArgs false
set_option linter.unusedVariables false
set_option maxRecDepth 100000
set_option maxHeartbeats 4000000
structure Pr18 (P : Program) : Prop extends Pr13 P where
  i3 : fnInfo P 3 = some (n3, c3.bare, r3)
  i4 : fnInfo P 4 = some (n4, c4.bare, r4)
  i6 : fnInfo P 6 = some (n6, c6.bare, r6)
  i8 : fnInfo P 8 = some (n8, c8.bare, r8)
  i9 : fnInfo P 9 = some (n9, c9.bare, r9)
  i11 : fnInfo P 11 = some (n11, c11.bare, r11)
  i12 : fnInfo P 12 = some (n12, c12.bare, r12)
  i13 : fnInfo P 13 = some (n13, c13.bare, r13)
  i17 : fnInfo P 17 = some (n17, c17.bare, r17)
  i19 : fnInfo P 19 = some (n19, c19.bare, r19)
  i20 : fnInfo P 20 = some (n20, c20.bare, r20)
  i22 : fnInfo P 22 = some (n22, c22.bare, r22)
  i24 : fnInfo P 24 = some (n24, c24.bare, r24)
  i25 : fnInfo P 25 = some (n25, c25.bare, r25)
  i27 : fnInfo P 27 = some (n27, c27.bare, r27)
  i28 : fnInfo P 28 = some (n28, c28.bare, r28)
  i31 : fnInfo P 31 = some (n31, c31.bare, r31)
  i32 : fnInfo P 32 = some (n32, c32.bare, r32)
  i35 : fnInfo P 35 = some (n35, c35.bare, r35)
  i36 : fnInfo P 36 = some (n36, c36.bare, r36)
  i39 : fnInfo P 39 = some (n39, c39.bare, r39)
  i40 : fnInfo P 40 = some (n40, c40.bare, r40)
  i41 : fnInfo P 41 = some (n41, c41.bare, r41)
  i43 : fnInfo P 43 = some (n43, c43.bare, r43)
  i52 : fnInfo P 52 = some (n52, c52.bare, r52)
  i56 : fnInfo P 56 = some (n56, c56.bare, r56)
  i59 : fnInfo P 59 = some (n59, c59.bare, r59)
  i60 : fnInfo P 60 = some (n60, c60.bare, r60)
  i64 : fnInfo P 64 = some (n64, c64.bare, r64)
  i65 : fnInfo P 65 = some (n65, c65.bare, r65)
  i66 : fnInfo P 66 = some (n66, c66.bare, r66)

variable {P : Program}
theorem clone18_ok (H : Pr18 P) (l : List Str) (hl : l.length * 16 ≤ 140737488355328) : FnOk P 66 [.t (.lst (l.map sE))] ⟨[], 0⟩ { v := .t (.lst (l.map sE)) } := by
  refine FnOk.run H.i66 H.mixed rfl rfl ?_
  refine fR rfl ?_
  refine p0 rfl ?_
  refine fM rfl ?_
  refine Run.condU rfl rfl (fun h => ?_) (fun _ => ?_)
  · have hn : l = [] := by
      cases l with
      | nil => rfl
      | cons x r =>
        have := h (sE x) (by simp)
        simp [sE] at this
    subst hn
    refine fR rfl ?_
    refine Run.fin rfl (EndOk.go ?_); exact .nil rfl
  · refine fR rfl ?_
    refine apN sE l rfl rfl rfl ?_ (h1 := hl) (h2 := by omega)
    refine fM rfl ?_
    refine Run.fin rfl (EndOk.go ?_); exact .own rfl

def CopyC (P : Program) (v : Val) : Prop := FnOk P 56 [v.v] ⟨[], 0⟩ { v := v.v }
theorem copies_step (H : Pr18 P) (l : List Val) (hl : l.length * 80 ≤ 140737488355328) (hrec : ∀ x, x ∈ l → CopyC P x) : FnOk P 65 [.t (.lst (l.map Val.enc))] ⟨[], 0⟩ { v := .t (.lst (l.map Val.enc)) } := by
  refine FnOk.run H.i65 H.mixed rfl rfl ?_
  refine fR rfl ?_
  refine lM rfl rfl rfl ?_
  refine fM rfl ?_
  refine rList l (fun i (B : List Val) => { env := [(3, .own 0 5 (B.map Val.enc)), (6, .t (.lst (l.map Val.enc))), (7, .t (.int .i64 l.length)), (8, .t (.int .i64 i))], s := ⟨[(0, .arr B.length)], 1⟩ }) (fun r i B => B.length = i ∧ B ++ r = l) 0 [] rfl ⟨rfl, rfl⟩ rfl rfl rfl ?_ ?_
  · rintro B ⟨hBl, hB⟩
    have e : B = l := by rw [← hB]; simp
    refine fR rfl ?_
    refine Run.condF rfl rfl (by simp) ?_
    refine fR rfl ?_
    refine Run.fin rfl (EndOk.go ?_); exact .own (by rw [e])
  · rintro i x r B h1 hi hd ⟨hBl, hB⟩ ih
    have hBl' : B.length = i := hBl
    have hc := hrec x (List.mem_of_getElem? h1)
    unfold CopyC at hc
    refine fR rfl ?_
    refine Run.condT rfl rfl (by simp; omega) ?_
    refine fR rfl ?_
    refine Mid.elemMapC (Val.enc_eq x) rfl rfl rfl h1 rfl rfl ?_
    refine fM rfl ?_
    refine Mid.call (hc) rfl rfl rfl rfl ?_
    refine fM rfl ?_
    refine apM Val.enc B [x] rfl (congrArg (fun c => some (T.lst [c])) (Val.enc_eq x).symm) rfl rfl rfl ?_ (hl := fun x => (congrArg List.length (Val.enc_eq x)).trans rfl)
    refine fM rfl ?_
    refine aL rfl rfl rfl rfl rfl ?_
    refine fM rfl ?_
    exact rWeak 1 rfl (ih (B ++ [x]) ⟨by simp; omega, by rw [← hB]; simp⟩) rfl rfl rfl
theorem copy_step (H : Pr18 P) (v : Val) (hv : v.Ok) (hrec : ∀ x, x ∈ v.items → CopyC P x) : CopyC P v := by
  have hil := hv.il
  have hkl := hv.kl
  unfold CopyC
  refine FnOk.run H.i56 H.mixed rfl rfl ?_
  refine fR rfl ?_
  refine Mid.call (copies_step H v.items hil hrec) rfl rfl rfl rfl ?_
  refine fM rfl ?_
  refine Mid.call (clone18_ok H v.keys hkl) rfl rfl rfl rfl ?_
  refine fM rfl ?_
  refine Run.fin rfl (EndOk.go ?_); exact .le (.same rfl)
theorem copy_ok' (H : Pr18 P) : ∀ (k : Nat) (v : Val), SizeOf.sizeOf v ≤ k → v.Ok → CopyC P v
  | 0, v, h, _ => by cases v; simp at h
  | k + 1, v, h, hv => copy_step H v hv fun x hx => copy_ok' H k x (by have := Val.size_items v hx; omega) (hv.it x hx)
theorem copy_ok (H : Pr18 P) (v : Val) (hv : v.Ok) : FnOk P 56 [v.v] ⟨[], 0⟩ { v := v.v } := copy_ok' H _ v (Nat.le_refl _) hv

theorem zeroR {m : Nat} {s : S} : LeR m s (.agg [.t (.int .i64 0), .t (.int .i64 0), .t (.str []), .nils, .nils]) Val.zero.v := .agg (.cons (.t rfl) (.cons (.t rfl) (.cons (.t rfl) (.cons (.nil rfl) (.cons (.nil rfl) .nil)))))
/- a member of an object -/
def idxF (k : Str) : List Str → Option Nat
  | [] => none
  | x :: r => if x = k then some 0 else (idxF k r).map (· + 1)
theorem indexS_eq (k : Str) : ∀ (l : List Str) (i : Int), indexS k l i = match idxF k l with | some j => i + j | none => -1
  | [], i => rfl
  | x :: r, i => by
    simp only [indexS, idxF]
    by_cases h : x = k
    · subst h; simp
    · have h' : ¬ (k == x) = true := by simp [Ne.symm h]
      rw [if_neg h', if_neg h, indexS_eq k r (i + 1)]
      cases idxF k r with
      | none => rfl
      | some j => show i + 1 + (j : Int) = i + ((j + 1 : Nat) : Int); omega
theorem idxF_lt {k : Str} : ∀ {l : List Str} {j : Nat}, idxF k l = some j → j < l.length
  | [], j, h => by simp [idxF] at h
  | x :: r, j, h => by
    simp only [idxF] at h
    split at h
    · simp at h; subst h; simp
    · cases hr : idxF k r with
      | none => rw [hr] at h; simp at h
      | some i => rw [hr] at h; simp at h; subst h; have := idxF_lt hr; simp; omega
def getF (v : Val) (k : Str) : Option Val := if v.kind = 6 then match idxF k v.keys with | some j => v.items[j]? | none => none else none
theorem get_ok (H : Pr18 P) (v : Val) (hv : v.Ok) (k : Str) : FnOk P 36 [v.v, .t (.str k)] ⟨[], 0⟩ { v := .tup [((getF v k).getD Val.zero).v, .t (.bool (getF v k).isSome)] } := by
  have hkl := hv.kl
  have hil := hv.il
  have hidx := index_ok H.toPr v.keys (by omega) k
  rw [indexS_eq] at hidx
  unfold getF
  refine FnOk.run H.i36 H.mixed rfl rfl ?_
  refine fR rfl ?_
  by_cases hk : v.kind = 6
  · simp only [hk, if_true]
    cases hj : idxF k v.keys with
    | none =>
      rw [hj] at hidx
      refine Mid.call (hidx) rfl rfl rfl rfl ?_
      refine fM rfl ?_
      refine lMG rfl rfl rfl rfl ?_
      refine fM rfl ?_
      refine Run.condT rfl rfl (by simp [hk]) ?_
      refine fR rfl ?_
      refine Run.fin rfl (EndOk.go ?_); exact .tup2 zeroR (.t rfl)
    | some j =>
      rw [hj] at hidx
      simp only [Int.zero_add] at hidx
      have hjl := idxF_lt hj
      refine Mid.call (hidx) rfl rfl rfl rfl ?_
      refine fM rfl ?_
      refine lMG rfl rfl rfl rfl ?_
      refine fM rfl ?_
      by_cases hlt : j < v.items.length
      · obtain ⟨x, hx⟩ : ∃ x, v.items[j]? = some x := ⟨v.items[j], by simp [hlt]⟩
        refine Run.condF rfl rfl (by simp [hk]; omega) ?_
        simp only [hx, Option.getD_some, Option.isSome_some]
        refine fR rfl ?_
        refine Mid.elemMapC (Val.enc_eq x) rfl rfl rfl hx rfl rfl ?_
        refine fM rfl ?_
        refine Mid.call (copy_ok H x (hv.it x (List.mem_of_getElem? hx))) rfl rfl rfl rfl ?_
        refine fM rfl ?_
        refine Run.fin rfl (EndOk.go ?_); exact .tup2 (.le (.same rfl)) (.t rfl)
      · have hx : v.items[j]? = none := List.getElem?_eq_none (by omega)
        refine Run.condT rfl rfl (by simp [hk]; omega) ?_
        simp only [hx, Option.getD_none, Option.isSome_none]
        refine fR rfl ?_
        refine Run.fin rfl (EndOk.go ?_); exact .tup2 zeroR (.t rfl)
  · simp only [hk, if_false]
    refine Mid.call (hidx) rfl rfl rfl rfl ?_
    refine fM rfl ?_
    refine lMG rfl rfl rfl rfl ?_
    refine fM rfl ?_
    refine Run.condT rfl rfl (by simp [hk]) ?_
    refine fR rfl ?_
    refine Run.fin rfl (EndOk.go ?_); exact .tup2 zeroR (.t rfl)
end Go.GB.C18


/-
  H18B: chapter 18: arguments of directives, what they include, labels.
-/
namespace Go.GB.C18
open Go.GB Go.GB.C11
set_option linter.unusedSimpArgs false
set_option linter.unusedVariables false
set_option maxRecDepth 100000
set_option maxHeartbeats 4000000
variable {P : Program}
def argF (a : Str) : List Arg → Option Val
  | [] => none
  | x :: r => if x.name = a then some x.val else argF a r
theorem argF_ok {a : Str} {v : Val} : ∀ {l : List Arg}, (∀ x, x ∈ l → x.Ok) → argF a l = some v → v.Ok
  | [], _, h => by simp [argF] at h
  | x :: r, hl, h => by
    simp only [argF] at h
    split at h
    · simp at h; subst h; exact hl x (by simp)
    · exact argF_ok (fun y hy => hl y (by simp [hy])) h
theorem argG_ok {a : Str} {l : List Arg} (hl : ∀ x, x ∈ l → x.Ok) : ((argF a l).getD Val.zero).Ok := by
  cases h : argF a l with
  | none => exact Val.zero_ok
  | some v => exact argF_ok hl h
theorem argument_ok (H : Pr18 P) (d : Dir) (hd : d.args.length ≤ 140737488355328) (a : Str) : FnOk P 35 [d.v, .t (.str a)] ⟨[], 0⟩ { v := .tup [((argF a d.args).getD Val.zero).v, .t (.bool (argF a d.args).isSome)] } := by
  refine FnOk.run H.i35 H.mixed rfl rfl ?_
  refine fR rfl ?_
  refine lM rfl rfl rfl ?_
  refine fM rfl ?_
  refine rList d.args (fun i (_ : Unit) => { env := [(1, .t (.str a)), (4, .ptr 1 0), (9, .t (.lst (d.args.map Arg.enc))), (10, .t (.int .i64 d.args.length)), (11, .t (.int .i64 i))], s := ⟨[(0, .cells [.t (.str d.name), .t (.lst (d.args.map Arg.enc))]), (1, .cells [.t (.int .i64 0), .t (.int .i64 0), .t (.str []), .nils, .nils])], 2⟩ }) (fun r i _ => argF a d.args = argF a r) 2 () rfl rfl rfl rfl rfl ?_ ?_
  · rintro _ hinv
    rw [hinv]
    refine fR rfl ?_
    refine Run.condF rfl rfl (by simp) ?_
    refine fR rfl ?_
    refine Run.fin rfl (EndOk.go ?_); exact .tup2 zeroR (.t rfl)
  · rintro i x r _ h1 hi hdr hinv ih
    refine fR rfl ?_
    refine Run.condT rfl rfl (by simp; omega) ?_
    refine fR rfl ?_
    refine Mid.elemMap rfl rfl rfl h1 rfl rfl ?_
    refine fM rfl ?_
    refine Run.cond rfl rfl (fun hc => ?_) (fun hc => ?_)
    · have hx : x.name = a := by simpa using hc
      have e : argF a d.args = some x.val := by rw [hinv]; simp [argF, hx]
      rw [e]
      refine fR rfl ?_
      refine Run.fin rfl (EndOk.go ?_); exact .tup2 (.le (.same rfl)) (.t rfl)
    · have hx : ¬ x.name = a := by simpa using hc
      refine fR rfl ?_
      refine aL rfl rfl rfl rfl rfl ?_
      refine fM rfl ?_
      exact rWeak 2 rfl (ih () (by rw [hinv]; simp only [argF, if_neg hx])) rfl rfl rfl
def holdsF (d : Dir) (vars : Val) : Bool :=
  let v := (argF [105, 102] d.args).getD Val.zero
  let w := if v.kind = 7 then (getF vars v.text).getD Val.zero else v
  w.kind == 1 && w.int == 1
theorem holds_ok (H : Pr18 P) (d : Dir) (hd : d.Ok) (vars : Val) (hv : vars.Ok) : FnOk P 25 [d.v, vars.v] ⟨[], 0⟩ { v := .t (.bool (holdsF d vars)) } := by
  have h1 := argument_ok H d hd.l [105, 102]
  have hw := argG_ok (a := [105, 102]) hd.a
  unfold holdsF
  generalize (argF [105, 102] d.args).getD Val.zero = v at *
  generalize (argF [105, 102] d.args).isSome = sm at *
  dsimp only
  refine FnOk.run H.i25 H.mixed rfl rfl ?_
  refine fR rfl ?_
  refine Mid.call (h1) rfl rfl rfl rfl ?_
  refine fM rfl ?_
  refine Run.cond rfl rfl (fun hc => ?_) (fun hc => ?_)
  · have hk : v.kind = 7 := by simpa using hc
    rw [if_pos hk]
    refine fR rfl ?_
    refine Mid.call (get_ok H vars hv v.text) rfl rfl rfl rfl ?_
    refine fM rfl ?_
    refine Run.fin rfl (EndOk.go ?_); exact .t rfl
  · have hk : ¬ v.kind = 7 := by simpa using hc
    rw [if_neg hk]
    refine fR rfl ?_
    refine Run.fin rfl (EndOk.go ?_); exact .t rfl
structure DirsOk (ls : List Dir) : Prop where
  l : ls.length ≤ 140737488355328
  d : ∀ x : Dir, x ∈ ls → x.Ok
def badD (vars : Val) (x : Dir) : Bool := (x.name == [115, 107, 105, 112] && holdsF x vars) || (x.name == [105, 110, 99, 108, 117, 100, 101] && !holdsF x vars)
def incF (vars : Val) : List Dir → Bool
  | [] => true
  | x :: r => if badD vars x = true then false else incF vars r
theorem included_ok (H : Pr18 P) (l : List Dir) (hl : DirsOk l) (vars : Val) (hv : vars.Ok) : FnOk P 9 [.t (.lst (l.map Dir.enc)), vars.v] ⟨[], 0⟩ { v := .t (.bool (incF vars l)) } := by
  have hll := hl.l
  refine FnOk.run H.i9 H.mixed rfl rfl ?_
  refine fR rfl ?_
  refine lM rfl rfl rfl ?_
  refine fM rfl ?_
  refine rList l (fun i (_ : Unit) => { env := [(3, .ptr 0 0), (7, .t (.lst (l.map Dir.enc))), (8, .t (.int .i64 l.length)), (9, .t (.int .i64 i))], s := ⟨[(0, .cells [.t (.int .i64 vars.kind), .t (.int .i64 vars.int), .t (.str vars.text), .t (.lst (vars.items.map Val.enc)), .t (.lst (vars.keys.map sE))])], 1⟩ }) (fun r i _ => incF vars l = incF vars r) 1 () rfl rfl rfl rfl rfl ?_ ?_
  · rintro _ hinv
    rw [hinv]
    refine fR rfl ?_
    refine Run.condF rfl rfl (by simp) ?_
    refine fR rfl ?_
    refine Run.fin rfl (EndOk.go ?_); exact .t rfl
  · rintro i x r _ h1 hi hdr hinv ih
    have hx := hl.d x (List.mem_of_getElem? h1)
    refine fR rfl ?_
    refine Run.condT rfl rfl (by simp; omega) ?_
    refine fR rfl ?_
    refine Mid.elemMap rfl rfl rfl h1 rfl rfl ?_
    refine fM rfl ?_
    refine caG rfl rfl (fun hg => ⟨_, rfl, holds_ok H x hx vars hv, rfl⟩) rfl rfl ?_
    refine fM rfl ?_
    refine caG rfl rfl (fun hg => ⟨_, rfl, holds_ok H x hx vars hv, rfl⟩) rfl rfl ?_
    refine fM rfl ?_
    refine Run.cond rfl rfl (fun hc => ?_) (fun hc => ?_)
    · have e : badD vars x = true := by
        unfold badD
        generalize holdsF x vars = h at *
        generalize (x.name == [115, 107, 105, 112]) = b1 at *
        generalize (x.name == [105, 110, 99, 108, 117, 100, 101]) = b2 at *
        revert hc; cases b1 <;> cases b2 <;> cases h <;> simp
      rw [hinv]
      simp only [incF, e, if_true]
      refine fR rfl ?_
      refine Run.fin rfl (EndOk.go ?_); exact .t rfl
    · have e : badD vars x = false := by
        unfold badD
        generalize holdsF x vars = h at *
        generalize (x.name == [115, 107, 105, 112]) = b1 at *
        generalize (x.name == [105, 110, 99, 108, 117, 100, 101]) = b2 at *
        revert hc; cases b1 <;> cases b2 <;> cases h <;> simp
      refine fR rfl ?_
      refine aL rfl rfl rfl rfl rfl ?_
      refine fM rfl ?_
      exact rWeak 1 rfl (ih () (by rw [hinv]; simp [incF, e])) rfl rfl rfl
/- labels -/
def labV (x : Dir) : Val := (argF [108, 97, 98, 101, 108] x.args).getD Val.zero
def labF (o : Str) : List Dir → Str
  | [] => o
  | x :: r => if x.name = [100, 101, 102, 101, 114] then (if (labV x).kind = 3 ∧ (labV x).text ≠ [] then (labV x).text else o) else labF o r
theorem label_ok (H : Pr18 P) (l : List Dir) (hl : DirsOk l) (o : Str) : FnOk P 41 [.t (.lst (l.map Dir.enc)), .t (.str o)] ⟨[], 0⟩ { v := .t (.str (labF o l)) } := by
  have hll := hl.l
  refine FnOk.run H.i41 H.mixed rfl rfl ?_
  refine fR rfl ?_
  refine lM rfl rfl rfl ?_
  refine fM rfl ?_
  refine rList l (fun i (_ : Unit) => { env := [(1, .t (.str o)), (9, .t (.lst (l.map Dir.enc))), (10, .t (.int .i64 l.length)), (11, .t (.int .i64 i))], s := ⟨[], 0⟩ }) (fun r i _ => labF o l = labF o r) 0 () rfl rfl rfl rfl rfl ?_ ?_
  · rintro _ hinv
    rw [hinv]
    refine fR rfl ?_
    refine Run.condF rfl rfl (by simp) ?_
    refine fR rfl ?_
    refine Run.fin rfl (EndOk.go ?_); exact .t rfl
  · rintro i x r _ h1 hi hdr hinv ih
    have hx := hl.d x (List.mem_of_getElem? h1)
    have ha := argument_ok H x hx.l [108, 97, 98, 101, 108]
    refine fR rfl ?_
    refine Run.condT rfl rfl (by simp; omega) ?_
    refine fR rfl ?_
    refine Mid.elemMap rfl rfl rfl h1 rfl rfl ?_
    refine fM rfl ?_
    refine Run.cond rfl rfl (fun hc => ?_) (fun hc => ?_)
    · have hn : x.name = [100, 101, 102, 101, 114] := by simpa using hc
      have el : labF o (x :: r) = if (labV x).kind = 3 ∧ (labV x).text ≠ [] then (labV x).text else o := by simp only [labF, hn, if_true]
      rw [hinv, el]
      cases hs : argF [108, 97, 98, 101, 108] x.args with
      | none =>
        rw [hs] at ha
        have e : ¬ ((labV x).kind = 3 ∧ (labV x).text ≠ []) := by unfold labV; rw [hs]; simp [Val.zero, Val.kind]
        rw [if_neg e]
        refine fR rfl ?_
        refine Mid.call (ha) rfl rfl rfl rfl ?_
        refine fM rfl ?_
        refine Run.condF rfl rfl rfl ?_
        refine fR rfl ?_
        refine Run.fin rfl (EndOk.go ?_); exact .t rfl
      | some v =>
        rw [hs] at ha
        have ev : labV x = v := by unfold labV; rw [hs]; rfl
        rw [ev]
        refine fR rfl ?_
        refine Mid.call (ha) rfl rfl rfl rfl ?_
        refine fM rfl ?_
        by_cases e : v.kind = 3 ∧ v.text ≠ []
        · rw [if_pos e]
          refine Run.condT rfl rfl (by simp [e]) ?_
          refine fR rfl ?_
          refine Run.fin rfl (EndOk.go ?_); exact .t rfl
        · rw [if_neg e]
          refine Run.condF rfl rfl (by simp at e ⊢; intro h; exact e h) ?_
          refine fR rfl ?_
          refine Run.fin rfl (EndOk.go ?_); exact .t rfl
    · have hn : ¬ x.name = [100, 101, 102, 101, 114] := by simpa using hc
      refine fR rfl ?_
      refine aL rfl rfl rfl rfl rfl ?_
      refine fM rfl ?_
      exact rWeak 0 rfl (ih () (by rw [hinv]; simp only [labF, if_neg hn])) rfl rfl rfl
end Go.GB.C18

