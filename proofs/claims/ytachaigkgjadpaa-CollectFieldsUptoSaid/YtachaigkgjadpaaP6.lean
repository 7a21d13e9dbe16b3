/-
  YtachaigkgjadpaaP6: lemmas of this proof (part 6). No conditions.
-/
import Derived.Test.YtachaigkgjadpaaP3
import Derived.Test.YtachaigkgjadpaaP4
import Derived.Test.YtachaigkgjadpaaP5

/-
  C18Code: the code of chapter 18's functions as abstract code (printed by program).
-/
namespace Go.GB.C11
open Go.GB
/- 3 supergraph supergraphlaw18.CollectIncluded -/
def c3_0 : ACode :=
  (.seq (.region true [⟨some 24, none, .mv (.s 0)⟩,
    ⟨some 25, none, .len (.s 24)⟩,
    ⟨some 26, none, .bin .gtr (.s 25) (.c (.t (.int .i64 50)))⟩,
    ⟨some 27, none, .mv (.s 26)⟩,
    ⟨some 28, some (27, false), .mv (.s 0)⟩,
    ⟨some 29, some (27, false), .ld true 5 (.s 3)⟩,
    ⟨some 30, some (27, false), .call 9 [(.s 28), (.s 29)]⟩,
    ⟨some 31, some (27, false), .mv (.s 0)⟩,
    ⟨some 32, some (27, false), .ld true 5 (.s 3)⟩,
    ⟨some 33, some (27, false), .call 10 [(.s 31), (.s 32)]⟩,
    ⟨some 34, some (27, false), .eqb false (.s 30) (.s 33)⟩,
    ⟨some 35, none, .pick (.s 27) (.c (.t (.bool true))) (.s 34)⟩,
    ⟨some 36, none, .mv (.s 35)⟩,
    ⟨some 37, some (36, true), .call 8 []⟩,
    ⟨some 38, none, .pick (.s 36) (.s 37) (.c (.t (.bool false)))⟩,
    ⟨some 4, none, .mv (.s 38)⟩] [[], [0], [1], [2], [3], [3], [4, 5, 3, 3], [3], [3], [7, 8, 6, 3], [6, 9, 3], [3, 10], [11, 9], [12, 12], [12, 13], [14, 13, 0, 1, 2, 3, 4, 5, 6, 7, 8, 9, 10, 11, 12, 13, 14]] [4]) .ret)
def c3_1 : ACode :=
  (.region false [⟨some 14, none, .mv (.s 5)⟩,
    ⟨some 15, none, .bin .add (.s 14) (.c (.t (.int .i64 1)))⟩,
    ⟨some 5, none, .mv (.s 15)⟩] [] [0, 3, 5])
def c3_2 : ACode :=
  (.seq (.region false [⟨some 23, none, .call 8 []⟩,
    ⟨some 4, none, .mv (.s 23)⟩] [] [4]) .ret)
def c3_3 : ACode :=
  (.cond (.s 22) c3_2 .skip)
def c3_4 : ACode :=
  (.seq (.region false [⟨some 16, none, .mv (.s 0)⟩,
    ⟨some 17, none, .mv (.s 5)⟩,
    ⟨some 18, none, .ia 2 (.s 16) (.s 17)⟩,
    ⟨some 19, none, .fa 1 (.s 18)⟩,
    ⟨some 20, none, .ld false 1 (.s 19)⟩,
    ⟨some 21, none, .len (.s 20)⟩,
    ⟨some 22, none, .bin .gtr (.s 21) (.c (.t (.int .i64 50)))⟩] [] [0, 3, 5, 22]) c3_3)
def c3_5 : ACode :=
  (.seq (.block 1 c3_4) c3_1)
def c3_6 : ACode :=
  (.cond (.s 13) .skip (.exit 0))
def c3_7 : ACode :=
  (.seq (.seq (.region false [⟨some 6, none, .mv (.s 5)⟩,
    ⟨some 7, none, .mv (.s 0)⟩,
    ⟨some 8, none, .len (.s 7)⟩,
    ⟨some 9, none, .bin .lss (.s 6) (.s 8)⟩,
    ⟨some 10, none, .mv (.s 9)⟩,
    ⟨some 11, some (10, true), .mv (.s 5)⟩,
    ⟨some 12, some (10, true), .bin .leq (.s 11) (.c (.t (.int .i64 50)))⟩,
    ⟨some 13, none, .pick (.s 10) (.s 12) (.c (.t (.bool false)))⟩] [] [0, 3, 5, 13]) c3_6) c3_5)
def c3_8 : ACode :=
  (.loop c3_7)
def c3_9 : ACode :=
  (.block 0 c3_8)
def c3_10 : ACode :=
  (.seq (.seq (.region false [⟨some 5, none, .cst (.t (.int .i64 0))⟩] [] [0, 3, 5]) c3_9) c3_0)
def c3 : ACode :=
  (.seq (.region false [⟨some 3, none, .box 5 (.s 1)⟩,
    ⟨some 4, none, .cst (.t (.bool false))⟩] [] [0, 3]) c3_10)
def r3 : List ARes := [.tmp 4]
def n3 : Nat := 39
/- 4 supergraph supergraphlaw18.CollectFields -/
def c4_0 : ACode :=
  (.seq (.region false [⟨some 96, none, .call 8 []⟩,
    ⟨some 4, none, .mv (.s 96)⟩] [] [4]) .ret)
def c4_1 : ACode :=
  (.region false [⟨some 43, none, .mv (.s 7)⟩,
    ⟨some 44, none, .bin .add (.s 43) (.c (.t (.int .i64 1)))⟩,
    ⟨some 7, none, .mv (.s 44)⟩] [] [5, 6, 7])
def c4_2 : ACode :=
  (.region false [⟨some 83, none, .mv (.s 8)⟩,
    ⟨some 84, none, .bin .add (.s 83) (.c (.t (.int .i64 1)))⟩,
    ⟨some 8, none, .mv (.s 84)⟩] [] [5, 6, 7, 8])
def c4_3 : ACode :=
  (.seq (.region false [⟨some 4, none, .cst (.t (.bool false))⟩] [] [4]) .ret)
def c4_4 : ACode :=
  (.cond (.s 95) c4_3 .skip)
def c4_5 : ACode :=
  (.seq (.region true [⟨some 85, none, .mv (.s 5)⟩,
    ⟨some 86, none, .mv (.s 8)⟩,
    ⟨some 87, none, .ia 2 (.s 85) (.s 86)⟩,
    ⟨some 88, none, .fa 0 (.s 87)⟩,
    ⟨some 89, none, .ld false 1 (.s 88)⟩,
    ⟨some 90, none, .mv (.s 5)⟩,
    ⟨some 91, none, .mv (.s 7)⟩,
    ⟨some 92, none, .ia 2 (.s 90) (.s 91)⟩,
    ⟨some 93, none, .fa 0 (.s 92)⟩,
    ⟨some 94, none, .ld false 1 (.s 93)⟩,
    ⟨some 95, none, .bin .eql (.s 89) (.s 94)⟩] [[], [], [0, 1], [2], [3], [], [], [5, 6], [7], [8], [4, 9]] [5, 6, 7, 8, 95]) c4_4)
def c4_6 : ACode :=
  (.seq (.block 3 c4_5) c4_2)
def c4_7 : ACode :=
  (.cond (.s 82) .skip (.exit 2))
def c4_8 : ACode :=
  (.seq (.seq (.region false [⟨some 80, none, .mv (.s 8)⟩,
    ⟨some 81, none, .mv (.s 7)⟩,
    ⟨some 82, none, .bin .lss (.s 80) (.s 81)⟩] [] [5, 6, 7, 8, 82]) c4_7) c4_6)
def c4_9 : ACode :=
  (.loop c4_8)
def c4_10 : ACode :=
  (.block 2 c4_9)
def c4_11 : ACode :=
  (.seq (.region false [⟨some 8, none, .cst (.t (.int .i64 0))⟩] [] [5, 6, 7, 8]) c4_10)
def c4_12 : ACode :=
  (.seq (.region false [⟨some 4, none, .cst (.t (.bool false))⟩] [] [4]) .ret)
def c4_13 : ACode :=
  (.cond (.s 79) c4_12 .skip)
def c4_14 : ACode :=
  (.seq (.seq (.region true [⟨some 45, none, .mv (.s 5)⟩,
    ⟨some 46, none, .mv (.s 7)⟩,
    ⟨some 47, none, .ia 2 (.s 45) (.s 46)⟩,
    ⟨some 48, none, .fa 0 (.s 47)⟩,
    ⟨some 49, none, .ld false 1 (.s 48)⟩,
    ⟨some 50, none, .mv (.s 6)⟩,
    ⟨some 51, none, .mv (.s 7)⟩,
    ⟨some 52, none, .ia 2 (.s 50) (.s 51)⟩,
    ⟨some 53, none, .fa 0 (.s 52)⟩,
    ⟨some 54, none, .ld false 1 (.s 53)⟩,
    ⟨some 55, none, .bin .neq (.s 49) (.s 54)⟩,
    ⟨some 56, none, .mv (.s 55)⟩,
    ⟨some 57, some (56, false), .mv (.s 5)⟩,
    ⟨some 58, some (56, false), .mv (.s 7)⟩,
    ⟨some 59, some (56, false), .ia 2 (.s 57) (.s 58)⟩,
    ⟨some 60, some (56, false), .fa 1 (.s 59)⟩,
    ⟨some 61, some (56, false), .ld false 1 (.s 60)⟩,
    ⟨some 62, some (56, false), .call 16 [(.s 61)]⟩,
    ⟨some 63, some (56, false), .mv (.s 6)⟩,
    ⟨some 64, some (56, false), .mv (.s 7)⟩,
    ⟨some 65, some (56, false), .ia 2 (.s 63) (.s 64)⟩,
    ⟨some 66, some (56, false), .fa 1 (.s 65)⟩,
    ⟨some 67, some (56, false), .ld false 1 (.s 66)⟩,
    ⟨some 68, some (56, false), .call 15 [(.s 62), (.s 67)]⟩,
    ⟨some 69, some (56, false), .un .not (.s 68)⟩,
    ⟨some 70, none, .pick (.s 56) (.c (.t (.bool true))) (.s 69)⟩,
    ⟨some 71, none, .mv (.s 70)⟩,
    ⟨some 72, some (71, false), .mv (.s 5)⟩,
    ⟨some 73, some (71, false), .mv (.s 7)⟩,
    ⟨some 74, some (71, false), .ia 2 (.s 72) (.s 73)⟩,
    ⟨some 75, some (71, false), .fa 1 (.s 74)⟩,
    ⟨some 76, some (71, false), .ld false 1 (.s 75)⟩,
    ⟨some 77, some (71, false), .len (.s 76)⟩,
    ⟨some 78, some (71, false), .bin .eql (.s 77) (.c (.t (.int .i64 0)))⟩,
    ⟨some 79, none, .pick (.s 71) (.c (.t (.bool true))) (.s 78)⟩] [[], [], [0, 1], [2], [3], [], [], [5, 6], [7], [8], [4, 9], [10], [11], [11], [12, 13, 11], [14, 11], [15, 11], [16, 11, 11], [11], [11], [18, 19, 11], [20, 11], [21, 11], [17, 22, 17, 11], [23, 11], [11, 24], [25, 23], [26], [26], [27, 28, 26], [29, 26], [30, 26], [31, 26], [32, 26], [26, 33]] [5, 6, 7, 79]) c4_13) c4_11)
def c4_15 : ACode :=
  (.seq (.block 1 c4_14) c4_1)
def c4_16 : ACode :=
  (.cond (.s 42) .skip (.exit 0))
def c4_17 : ACode :=
  (.seq (.seq (.region false [⟨some 39, none, .mv (.s 7)⟩,
    ⟨some 40, none, .mv (.s 5)⟩,
    ⟨some 41, none, .len (.s 40)⟩,
    ⟨some 42, none, .bin .lss (.s 39) (.s 41)⟩] [] [5, 6, 7, 42]) c4_16) c4_15)
def c4_18 : ACode :=
  (.loop c4_17)
def c4_19 : ACode :=
  (.block 0 c4_18)
def c4_20 : ACode :=
  (.seq (.seq (.region false [⟨some 7, none, .cst (.t (.int .i64 0))⟩] [] [5, 6, 7]) c4_19) c4_0)
def c4_21 : ACode :=
  (.seq (.region false [⟨some 4, none, .cst (.t (.bool false))⟩] [] [4]) .ret)
def c4_22 : ACode :=
  (.cond (.s 38) c4_21 .skip)
def c4_23 : ACode :=
  (.seq (.seq (.region false [⟨some 34, none, .mv (.s 5)⟩,
    ⟨some 35, none, .len (.s 34)⟩,
    ⟨some 36, none, .mv (.s 6)⟩,
    ⟨some 37, none, .len (.s 36)⟩,
    ⟨some 38, none, .bin .neq (.s 35) (.s 37)⟩] [] [5, 6, 38]) c4_22) c4_20)
def c4_24 : ACode :=
  (.seq (.region false [⟨some 24, none, .fa 0 (.s 2)⟩,
    ⟨some 25, none, .ld true 1 (.s 24)⟩,
    ⟨some 26, none, .fa 1 (.s 2)⟩,
    ⟨some 27, none, .ld true 2 (.s 26)⟩,
    ⟨some 28, none, .fa 3 (.s 2)⟩,
    ⟨some 29, none, .ld false 1 (.s 28)⟩,
    ⟨some 30, none, .fa 4 (.s 2)⟩,
    ⟨some 31, none, .ld false 1 (.s 30)⟩,
    ⟨some 32, none, .ld true 5 (.s 3)⟩,
    ⟨some 33, none, .call 14 [(.s 25), (.s 27), (.s 29), (.s 31), (.s 32)]⟩,
    ⟨some 6, none, .mv (.s 33)⟩] [] [5, 6]) c4_23)
def c4_25 : ACode :=
  (.seq (.region true [⟨some 13, none, .fa 0 (.s 2)⟩,
    ⟨some 14, none, .ld true 1 (.s 13)⟩,
    ⟨some 15, none, .fa 1 (.s 2)⟩,
    ⟨some 16, none, .ld true 2 (.s 15)⟩,
    ⟨some 17, none, .fa 3 (.s 2)⟩,
    ⟨some 18, none, .ld false 1 (.s 17)⟩,
    ⟨some 19, none, .fa 4 (.s 2)⟩,
    ⟨some 20, none, .ld false 1 (.s 19)⟩,
    ⟨some 21, none, .call 13 [(.s 20)]⟩,
    ⟨some 22, none, .ld true 5 (.s 3)⟩,
    ⟨some 23, none, .call 12 [(.s 14), (.s 16), (.s 18), (.s 21), (.s 22)]⟩,
    ⟨some 5, none, .mv (.s 23)⟩] [[], [0], [], [2], [], [4], [], [6], [7], [], [1, 3, 5, 8, 9, 8], [10, 10, 0, 1, 2, 3, 4, 5, 6, 7, 8, 9, 10]] [2, 3, 5]) c4_24)
def c4_26 : ACode :=
  (.seq (.region false [⟨some 12, none, .call 8 []⟩,
    ⟨some 4, none, .mv (.s 12)⟩] [] [4]) .ret)
def c4_27 : ACode :=
  (.cond (.s 11) c4_26 .skip)
def c4_28 : ACode :=
  (.seq (.seq (.region false [⟨some 9, none, .ld true 5 (.s 2)⟩,
    ⟨some 10, none, .call 11 [(.s 9)]⟩,
    ⟨some 11, none, .un .not (.s 10)⟩] [] [2, 3, 11]) c4_27) c4_25)
def c4 : ACode :=
  (.seq (.region false [⟨some 2, none, .box 5 (.s 0)⟩,
    ⟨some 3, none, .box 5 (.s 1)⟩,
    ⟨some 4, none, .cst (.t (.bool false))⟩] [] [2, 3]) c4_28)
def r4 : List ARes := [.tmp 4]
def n4 : Nat := 97
/- 5 supergraph supergraphlaw18.CollectLabel -/
/- 6 supergraph supergraphlaw18.CollectLists -/
/- 7 supergraph supergraphlaw18.CollectTypes -/
/- 8 supergraph supergraphlaw18.knows -/
def c8_0 : ACode :=
  (.seq (.region false [⟨some 84, none, .mv (.s 3)⟩,
    ⟨some 85, none, .ia 2 (.s 84) (.c (.t (.int .i64 0)))⟩,
    ⟨some 86, none, .ld true 2 (.s 85)⟩,
    ⟨some 87, none, .call 17 [(.s 86)]⟩,
    ⟨some 88, none, .bin .eql (.s 87) (.c (.t (.str [])))⟩,
    ⟨some 89, none, .mv (.s 88)⟩,
    ⟨some 90, some (89, true), .mv (.s 3)⟩,
    ⟨some 91, some (89, true), .ia 2 (.s 90) (.c (.t (.int .i64 1)))⟩,
    ⟨some 92, some (89, true), .ld true 2 (.s 91)⟩,
    ⟨some 93, some (89, true), .call 17 [(.s 92)]⟩,
    ⟨some 94, some (89, true), .bin .eql (.s 93) (.c (.t (.str [120])))⟩,
    ⟨some 95, none, .pick (.s 89) (.s 94) (.c (.t (.bool false)))⟩,
    ⟨some 96, none, .mv (.s 95)⟩,
    ⟨some 97, some (96, true), .mv (.s 4)⟩,
    ⟨some 98, some (96, true), .ld true 5 (.s 5)⟩,
    ⟨some 99, some (96, true), .call 9 [(.s 97), (.s 98)]⟩,
    ⟨some 100, some (96, true), .un .not (.s 99)⟩,
    ⟨some 101, none, .pick (.s 96) (.s 100) (.c (.t (.bool false)))⟩,
    ⟨some 102, none, .mv (.s 101)⟩,
    ⟨some 103, some (102, true), .mv (.s 4)⟩,
    ⟨some 104, some (102, true), .build [.t (.int .i64 0), .t (.int .i64 0), .t (.str []), .nils, .nils] []⟩,
    ⟨some 105, some (102, true), .call 9 [(.s 103), (.s 104)]⟩,
    ⟨some 106, none, .pick (.s 102) (.s 105) (.c (.t (.bool false)))⟩,
    ⟨some 0, none, .mv (.s 106)⟩] [] [0]) .ret)
def c8_1 : ACode :=
  (.seq (.region false [⟨some 0, none, .cst (.t (.bool false))⟩] [] [0]) .ret)
def c8_2 : ACode :=
  (.cond (.s 83) c8_1 .skip)
def c8_3 : ACode :=
  (.seq (.seq (.region false [⟨some 40, none, .mv (.s 3)⟩,
    ⟨some 41, none, .len (.s 40)⟩,
    ⟨some 42, none, .bin .neq (.s 41) (.c (.t (.int .i64 2)))⟩,
    ⟨some 43, none, .mv (.s 42)⟩,
    ⟨some 44, some (43, false), .mv (.s 3)⟩,
    ⟨some 45, some (43, false), .ia 2 (.s 44) (.c (.t (.int .i64 0)))⟩,
    ⟨some 46, some (43, false), .fa 0 (.s 45)⟩,
    ⟨some 47, some (43, false), .ld false 1 (.s 46)⟩,
    ⟨some 48, some (43, false), .bin .neq (.s 47) (.c (.t (.str [97])))⟩,
    ⟨some 49, none, .pick (.s 43) (.c (.t (.bool true))) (.s 48)⟩,
    ⟨some 50, none, .mv (.s 49)⟩,
    ⟨some 51, some (50, false), .mv (.s 3)⟩,
    ⟨some 52, some (50, false), .ia 2 (.s 51) (.c (.t (.int .i64 0)))⟩,
    ⟨some 53, some (50, false), .fa 1 (.s 52)⟩,
    ⟨some 54, some (50, false), .ld false 1 (.s 53)⟩,
    ⟨some 55, some (50, false), .len (.s 54)⟩,
    ⟨some 56, some (50, false), .bin .neq (.s 55) (.c (.t (.int .i64 2)))⟩,
    ⟨some 57, none, .pick (.s 50) (.c (.t (.bool true))) (.s 56)⟩,
    ⟨some 58, none, .mv (.s 57)⟩,
    ⟨some 59, some (58, false), .mv (.s 3)⟩,
    ⟨some 60, some (58, false), .ia 2 (.s 59) (.c (.t (.int .i64 1)))⟩,
    ⟨some 61, some (58, false), .fa 0 (.s 60)⟩,
    ⟨some 62, some (58, false), .ld false 1 (.s 61)⟩,
    ⟨some 63, some (58, false), .bin .neq (.s 62) (.c (.t (.str [98])))⟩,
    ⟨some 64, none, .pick (.s 58) (.c (.t (.bool true))) (.s 63)⟩,
    ⟨some 65, none, .mv (.s 64)⟩,
    ⟨some 66, some (65, false), .mv (.s 3)⟩,
    ⟨some 67, some (65, false), .ia 2 (.s 66) (.c (.t (.int .i64 1)))⟩,
    ⟨some 68, some (65, false), .fa 1 (.s 67)⟩,
    ⟨some 69, some (65, false), .ld false 1 (.s 68)⟩,
    ⟨some 70, some (65, false), .len (.s 69)⟩,
    ⟨some 71, some (65, false), .bin .neq (.s 70) (.c (.t (.int .i64 1)))⟩,
    ⟨some 72, none, .pick (.s 65) (.c (.t (.bool true))) (.s 71)⟩,
    ⟨some 73, none, .mv (.s 72)⟩,
    ⟨some 74, some (73, false), .mv (.s 3)⟩,
    ⟨some 75, some (73, false), .ia 2 (.s 74) (.c (.t (.int .i64 1)))⟩,
    ⟨some 76, some (73, false), .fa 1 (.s 75)⟩,
    ⟨some 77, some (73, false), .ld false 1 (.s 76)⟩,
    ⟨some 78, some (73, false), .ia 8 (.s 77) (.c (.t (.int .i64 0)))⟩,
    ⟨some 79, some (73, false), .fa 0 (.s 78)⟩,
    ⟨some 80, some (73, false), .fa 2 (.s 79)⟩,
    ⟨some 81, some (73, false), .ld false 1 (.s 80)⟩,
    ⟨some 82, some (73, false), .bin .neq (.s 81) (.c (.t (.str [99])))⟩,
    ⟨some 83, none, .pick (.s 73) (.c (.t (.bool true))) (.s 82)⟩] [] [3, 4, 5, 83]) c8_2) c8_0)
def c8_4 : ACode :=
  (.seq (.region false [⟨some 36, none, .bsl true 1 [[.str []]] [(0, (.c (.t (.str [98]))))]⟩,
    ⟨some 37, none, .build [.t (.int .i64 0), .t (.int .i64 0), .t (.str []), .nils, .nils] [(0, 1, (.c (.t (.int .i64 1)))), (1, 1, (.c (.t (.int .i64 1))))]⟩,
    ⟨some 38, none, .bsl true 5 [[.int .i64 0, .int .i64 0, .str [], .lst [], .lst []]] [(0, (.s 37))]⟩,
    ⟨some 39, none, .build [.t (.int .i64 0), .t (.int .i64 0), .t (.str []), .nils, .nils] [(0, 1, (.c (.t (.int .i64 6)))), (4, 1, (.s 36)), (3, 1, (.s 38))]⟩,
    ⟨some 5, none, .alloc [.t (.int .i64 0), .t (.int .i64 0), .t (.str []), .nils, .nils]⟩,
    ⟨none, none, .st 5 (.s 5) (.s 39)⟩] [] [3, 4, 5]) c8_3)
def c8_5 : ACode :=
  (.seq (.region false [⟨some 31, none, .build [.t (.int .i64 0), .t (.int .i64 0), .t (.str []), .nils, .nils] [(0, 1, (.c (.t (.int .i64 7)))), (2, 1, (.c (.t (.str [98]))))]⟩,
    ⟨some 32, none, .build [.t (.str []), .t (.int .i64 0), .t (.int .i64 0), .t (.str []), .nils, .nils] [(0, 1, (.c (.t (.str [105, 102])))), (1, 5, (.s 31))]⟩,
    ⟨some 33, none, .bsl true 6 [[.str [], .int .i64 0, .int .i64 0, .str [], .lst [], .lst []]] [(0, (.s 32))]⟩,
    ⟨some 34, none, .build [.t (.str []), .nils] [(0, 1, (.c (.t (.str [115, 107, 105, 112])))), (1, 1, (.s 33))]⟩,
    ⟨some 35, none, .bsl true 2 [[.str [], .lst []]] [(0, (.s 34))]⟩,
    ⟨some 4, none, .mv (.s 35)⟩] [] [3, 4]) c8_4)
def c8_6 : ACode :=
  (.seq (.region false [⟨some 26, none, .ld true 1 (.s 1)⟩,
    ⟨some 27, none, .build [.nils, .nils] []⟩,
    ⟨some 28, none, .mv (.s 2)⟩,
    ⟨some 29, none, .build [.t (.int .i64 0), .t (.int .i64 0), .t (.str []), .nils, .nils] []⟩,
    ⟨some 30, none, .call 12 [(.s 26), (.s 27), (.c (.t (.str [84]))), (.s 28), (.s 29)]⟩,
    ⟨some 3, none, .mv (.s 30)⟩] [] [3]) c8_5)
def c8_7 : ACode :=
  (.seq (.region false [⟨some 10, none, .call 22 [(.c (.t (.str []))), (.c (.t (.str [97])))]⟩,
    ⟨some 11, none, .build [.t (.int .i64 0), .t (.str []), .t (.str []), .t (.str []), .nils, .nils, .nils, .t (.str [])] [(0, 7, (.s 10))]⟩,
    ⟨some 12, none, .call 24 [(.c (.t (.str [108, 97, 98, 101, 108]))), (.c (.t (.str [120])))]⟩,
    ⟨some 13, none, .bsl true 6 [[.str [], .int .i64 0, .int .i64 0, .str [], .lst [], .lst []]] [(0, (.s 12))]⟩,
    ⟨some 14, none, .build [.t (.str []), .nils] [(0, 1, (.c (.t (.str [100, 101, 102, 101, 114])))), (1, 1, (.s 13))]⟩,
    ⟨some 15, none, .bsl true 2 [[.str [], .lst []]] [(0, (.s 14))]⟩,
    ⟨some 16, none, .call 22 [(.c (.t (.str [98]))), (.c (.t (.str [99])))]⟩,
    ⟨some 17, none, .call 22 [(.c (.t (.str []))), (.c (.t (.str [97])))]⟩,
    ⟨some 18, none, .bsl true 7 [[.int .i64 0, .str [], .str [], .str [], .lst [], .lst [], .lst []], [.int .i64 0, .str [], .str [], .str [], .lst [], .lst [], .lst []]] [(0, (.s 16)), (1, (.s 17))]⟩,
    ⟨some 19, none, .build [.t (.int .i64 0), .t (.str []), .t (.str []), .t (.str []), .nils, .nils, .nils] [(0, 1, (.c (.t (.int .i64 3)))), (3, 1, (.c (.t (.str [84])))), (5, 1, (.s 15)), (6, 1, (.s 18))]⟩,
    ⟨some 20, none, .build [.t (.int .i64 0), .t (.str []), .t (.str []), .t (.str []), .nils, .nils, .nils, .t (.str [])] [(0, 7, (.s 19))]⟩,
    ⟨some 21, none, .call 22 [(.c (.t (.str []))), (.c (.t (.str [100])))]⟩,
    ⟨some 22, none, .bsl true 7 [[.int .i64 0, .str [], .str [], .str [], .lst [], .lst [], .lst []]] [(0, (.s 21))]⟩,
    ⟨some 23, none, .build [.t (.int .i64 0), .t (.str []), .t (.str []), .t (.str []), .nils, .nils, .nils] [(0, 1, (.c (.t (.int .i64 3)))), (3, 1, (.c (.t (.str [85])))), (6, 1, (.s 22))]⟩,
    ⟨some 24, none, .build [.t (.int .i64 0), .t (.str []), .t (.str []), .t (.str []), .nils, .nils, .nils, .t (.str [])] [(0, 7, (.s 23))]⟩,
    ⟨some 25, none, .bsl true 8 [[.int .i64 0, .str [], .str [], .str [], .lst [], .lst [], .lst [], .str []], [.int .i64 0, .str [], .str [], .str [], .lst [], .lst [], .lst [], .str []], [.int .i64 0, .str [], .str [], .str [], .lst [], .lst [], .lst [], .str []]] [(0, (.s 11)), (1, (.s 20)), (2, (.s 24))]⟩,
    ⟨some 2, none, .mv (.s 25)⟩] [] [1, 2]) c8_6)
def c8_8 : ACode :=
  (.seq (.region false [⟨some 6, none, .build [.t (.int .i64 0), .t (.str []), .nils, .nils, .nils, .nils, .nils] [(0, 1, (.c (.t (.int .i64 1)))), (1, 1, (.c (.t (.str [84]))))]⟩,
    ⟨some 7, none, .build [.t (.int .i64 0), .t (.str []), .nils, .nils, .nils, .nils, .nils] [(0, 1, (.c (.t (.int .i64 3)))), (1, 1, (.c (.t (.str [85]))))]⟩,
    ⟨some 8, none, .bsl true 7 [[.int .i64 0, .str [], .lst [], .lst [], .lst [], .lst [], .lst []], [.int .i64 0, .str [], .lst [], .lst [], .lst [], .lst [], .lst []]] [(0, (.s 6)), (1, (.s 7))]⟩,
    ⟨some 9, none, .build [.nils] [(0, 1, (.s 8))]⟩,
    ⟨some 1, none, .alloc [.nils]⟩,
    ⟨none, none, .st 1 (.s 1) (.s 9)⟩] [] [1]) c8_7)
def c8 : ACode :=
  (.seq (.region false [⟨some 0, none, .cst (.t (.bool false))⟩] [] []) c8_8)
def r8 : List ARes := [.tmp 0]
def n8 : Nat := 107
/- 9 supergraph collect.Included -/
def c9_0 : ACode :=
  (.seq (.region false [⟨some 4, none, .cst (.t (.bool true))⟩] [] [4]) .ret)
def c9_1 : ACode :=
  (.region false [⟨some 32, none, .bin .add (.s 9) (.c (.t (.int .i64 1)))⟩,
    ⟨some 9, none, .mv (.s 32)⟩] [] [3, 7, 8, 9])
def c9_2 : ACode :=
  (.seq (.region false [⟨some 4, none, .cst (.t (.bool false))⟩] [] [4]) .ret)
def c9_3 : ACode :=
  (.cond (.s 31) c9_2 .skip)
def c9_4 : ACode :=
  (.seq (.region false [⟨some 13, none, .fa 0 (.s 6)⟩,
    ⟨some 14, none, .ld false 1 (.s 13)⟩,
    ⟨some 15, none, .bin .eql (.s 14) (.c (.t (.str [115, 107, 105, 112])))⟩,
    ⟨some 16, none, .mv (.s 15)⟩,
    ⟨some 17, some (16, true), .ld true 2 (.s 6)⟩,
    ⟨some 18, some (16, true), .ld true 5 (.s 3)⟩,
    ⟨some 19, some (16, true), .call 25 [(.s 17), (.s 18)]⟩,
    ⟨some 20, none, .pick (.s 16) (.s 19) (.c (.t (.bool false)))⟩,
    ⟨some 21, none, .mv (.s 20)⟩,
    ⟨some 22, some (21, false), .fa 0 (.s 6)⟩,
    ⟨some 23, some (21, false), .ld false 1 (.s 22)⟩,
    ⟨some 24, some (21, false), .bin .eql (.s 23) (.c (.t (.str [105, 110, 99, 108, 117, 100, 101])))⟩,
    ⟨some 25, some (21, false), .mv (.s 24)⟩,
    ⟨some 26, some (25, true), .ld true 2 (.s 6)⟩,
    ⟨some 27, some (25, true), .ld true 5 (.s 3)⟩,
    ⟨some 28, some (25, true), .call 25 [(.s 26), (.s 27)]⟩,
    ⟨some 29, some (25, true), .un .not (.s 28)⟩,
    ⟨some 30, some (21, false), .pick (.s 25) (.s 29) (.c (.t (.bool false)))⟩,
    ⟨some 31, none, .pick (.s 21) (.c (.t (.bool true))) (.s 30)⟩] [] [3, 7, 8, 9, 31]) c9_3)
def c9_5 : ACode :=
  (.seq (.region false [⟨some 11, none, .ia 2 (.s 7) (.s 9)⟩,
    ⟨some 12, none, .ld true 2 (.s 11)⟩,
    ⟨some 6, none, .alloc [.t (.str []), .nils]⟩,
    ⟨none, none, .st 2 (.s 6) (.s 12)⟩] [] [3, 6, 7, 8, 9]) c9_4)
def c9_6 : ACode :=
  (.seq (.block 1 c9_5) c9_1)
def c9_7 : ACode :=
  (.seq (.cond (.s 10) .skip (.exit 0)) c9_6)
def c9_8 : ACode :=
  (.seq (.region false [⟨some 10, none, .bin .lss (.s 9) (.s 8)⟩] [] [3, 7, 8, 9, 10]) c9_7)
def c9_9 : ACode :=
  (.loop c9_8)
def c9_10 : ACode :=
  (.block 0 c9_9)
def c9_11 : ACode :=
  (.seq (.seq (.region false [⟨some 7, none, .mv (.s 0)⟩,
    ⟨some 8, none, .len (.s 7)⟩,
    ⟨some 9, none, .cst (.t (.int .i64 0))⟩] [] [3, 7, 8, 9]) c9_10) c9_0)
def c9 : ACode :=
  (.seq (.region false [⟨some 3, none, .box 5 (.s 1)⟩,
    ⟨some 4, none, .cst (.t (.bool false))⟩] [] [0, 3]) c9_11)
def r9 : List ARes := [.tmp 4]
def n9 : Nat := 33
/- 10 supergraph supergraphref18.Included -/
def c10_0 : ACode :=
  (.seq (.region false [⟨some 4, none, .cst (.t (.bool true))⟩] [] [4]) .ret)
def c10_1 : ACode :=
  (.region false [⟨some 10, none, .mv (.s 5)⟩,
    ⟨some 11, none, .bin .add (.s 10) (.c (.t (.int .i64 1)))⟩,
    ⟨some 5, none, .mv (.s 11)⟩] [] [0, 3, 5])
def c10_2 : ACode :=
  (.seq (.region false [⟨some 4, none, .cst (.t (.bool false))⟩] [] [4]) .ret)
def c10_3 : ACode :=
  (.cond (.s 42) c10_2 .skip)
def c10_4 : ACode :=
  (.seq (.region true [⟨some 12, none, .mv (.s 0)⟩,
    ⟨some 13, none, .mv (.s 5)⟩,
    ⟨some 14, none, .ia 2 (.s 12) (.s 13)⟩,
    ⟨some 15, none, .fa 0 (.s 14)⟩,
    ⟨some 16, none, .ld false 1 (.s 15)⟩,
    ⟨some 17, none, .bin .eql (.s 16) (.c (.t (.str [115, 107, 105, 112])))⟩,
    ⟨some 18, none, .mv (.s 17)⟩,
    ⟨some 19, some (18, true), .mv (.s 0)⟩,
    ⟨some 20, some (18, true), .mv (.s 5)⟩,
    ⟨some 21, some (18, true), .ia 2 (.s 19) (.s 20)⟩,
    ⟨some 22, some (18, true), .ld true 2 (.s 21)⟩,
    ⟨some 23, some (18, true), .ld true 5 (.s 3)⟩,
    ⟨some 24, some (18, true), .call 26 [(.s 22), (.s 23)]⟩,
    ⟨some 25, none, .pick (.s 18) (.s 24) (.c (.t (.bool false)))⟩,
    ⟨some 26, none, .mv (.s 25)⟩,
    ⟨some 27, some (26, false), .mv (.s 0)⟩,
    ⟨some 28, some (26, false), .mv (.s 5)⟩,
    ⟨some 29, some (26, false), .ia 2 (.s 27) (.s 28)⟩,
    ⟨some 30, some (26, false), .fa 0 (.s 29)⟩,
    ⟨some 31, some (26, false), .ld false 1 (.s 30)⟩,
    ⟨some 32, some (26, false), .bin .eql (.s 31) (.c (.t (.str [105, 110, 99, 108, 117, 100, 101])))⟩,
    ⟨some 33, some (26, false), .mv (.s 32)⟩,
    ⟨some 34, some (33, true), .mv (.s 0)⟩,
    ⟨some 35, some (33, true), .mv (.s 5)⟩,
    ⟨some 36, some (33, true), .ia 2 (.s 34) (.s 35)⟩,
    ⟨some 37, some (33, true), .ld true 2 (.s 36)⟩,
    ⟨some 38, some (33, true), .ld true 5 (.s 3)⟩,
    ⟨some 39, some (33, true), .call 26 [(.s 37), (.s 38)]⟩,
    ⟨some 40, some (33, true), .un .not (.s 39)⟩,
    ⟨some 41, some (26, false), .pick (.s 33) (.s 40) (.c (.t (.bool false)))⟩,
    ⟨some 42, none, .pick (.s 26) (.c (.t (.bool true))) (.s 41)⟩] [[], [], [0, 1], [2], [3], [4], [5], [6], [6], [7, 8, 6], [9, 6], [6], [10, 11, 6, 6], [6, 12], [13, 12], [14], [14], [15, 16, 14], [17, 14], [18, 14], [19, 14], [20, 14, 14], [21], [21], [22, 23, 21], [24, 21], [21], [25, 26, 21, 21], [27, 21], [21, 28, 14], [14, 29]] [0, 3, 5, 42]) c10_3)
def c10_5 : ACode :=
  (.seq (.block 1 c10_4) c10_1)
def c10_6 : ACode :=
  (.cond (.s 9) .skip (.exit 0))
def c10_7 : ACode :=
  (.seq (.seq (.region false [⟨some 6, none, .mv (.s 5)⟩,
    ⟨some 7, none, .mv (.s 0)⟩,
    ⟨some 8, none, .len (.s 7)⟩,
    ⟨some 9, none, .bin .lss (.s 6) (.s 8)⟩] [] [0, 3, 5, 9]) c10_6) c10_5)
def c10_8 : ACode :=
  (.loop c10_7)
def c10_9 : ACode :=
  (.block 0 c10_8)
def c10_10 : ACode :=
  (.seq (.seq (.region false [⟨some 5, none, .cst (.t (.int .i64 0))⟩] [] [0, 3, 5]) c10_9) c10_0)
def c10 : ACode :=
  (.seq (.region false [⟨some 3, none, .box 5 (.s 1)⟩,
    ⟨some 4, none, .cst (.t (.bool false))⟩] [] [0, 3]) c10_10)
def r10 : List ARes := [.tmp 4]
def n10 : Nat := 43
/- 11 supergraph supergraphlaw18.few -/
def c11_0 : ACode :=
  (.seq (.region false [⟨some 25, none, .fa 0 (.s 1)⟩,
    ⟨some 26, none, .ld true 1 (.s 25)⟩,
    ⟨some 27, none, .call 21 [(.s 26)]⟩,
    ⟨some 28, none, .un .not (.s 27)⟩,
    ⟨some 29, none, .mv (.s 28)⟩,
    ⟨some 30, some (29, true), .fa 1 (.s 1)⟩,
    ⟨some 31, some (29, true), .ld true 2 (.s 30)⟩,
    ⟨some 32, some (29, true), .call 27 [(.s 31)]⟩,
    ⟨some 33, some (29, true), .un .not (.s 32)⟩,
    ⟨some 34, none, .pick (.s 29) (.s 33) (.c (.t (.bool false)))⟩,
    ⟨some 35, none, .mv (.s 34)⟩,
    ⟨some 36, some (35, true), .fa 4 (.s 1)⟩,
    ⟨some 37, some (35, true), .ld false 1 (.s 36)⟩,
    ⟨some 38, some (35, true), .len (.s 37)⟩,
    ⟨some 39, some (35, true), .bin .leq (.s 38) (.c (.t (.int .i64 100)))⟩,
    ⟨some 40, none, .pick (.s 35) (.s 39) (.c (.t (.bool false)))⟩,
    ⟨some 41, none, .mv (.s 40)⟩,
    ⟨some 42, some (41, true), .mv (.s 3)⟩,
    ⟨some 43, some (41, true), .build [.t (.int .i64 0), .t (.str []), .nils, .nils] [(3, 1, (.s 42))]⟩,
    ⟨some 44, some (41, true), .bsl true 4 [[.int .i64 0, .str [], .lst [], .lst []]] [(0, (.s 43))]⟩,
    ⟨some 45, some (41, true), .build [.nils, .nils] [(0, 1, (.s 44))]⟩,
    ⟨some 46, some (41, true), .call 27 [(.s 45)]⟩,
    ⟨some 47, some (41, true), .un .not (.s 46)⟩,
    ⟨some 48, none, .pick (.s 41) (.s 47) (.c (.t (.bool false)))⟩,
    ⟨some 2, none, .mv (.s 48)⟩] [] [2]) .ret)
def c11_1 : ACode :=
  (.region false [⟨some 14, none, .mv (.s 4)⟩,
    ⟨some 15, none, .bin .add (.s 14) (.c (.t (.int .i64 1)))⟩,
    ⟨some 4, none, .mv (.s 15)⟩] [] [1, 3, 4])
def c11_2 : ACode :=
  (.region false [⟨some 16, none, .mv (.s 3)⟩,
    ⟨some 17, none, .fa 4 (.s 1)⟩,
    ⟨some 18, none, .ld false 1 (.s 17)⟩,
    ⟨some 19, none, .mv (.s 4)⟩,
    ⟨some 20, none, .ia 8 (.s 18) (.s 19)⟩,
    ⟨some 21, none, .fa 0 (.s 20)⟩,
    ⟨some 22, none, .ld true 7 (.s 21)⟩,
    ⟨some 23, none, .bsl false 7 [[.int .i64 0, .str [], .str [], .str [], .lst [], .lst [], .lst []]] [(0, (.s 22))]⟩,
    ⟨some 24, none, .app 7 128 (.s 16) (.s 23)⟩,
    ⟨some 3, none, .mv (.s 24)⟩] [] [1, 3, 4])
def c11_3 : ACode :=
  (.seq (.block 1 c11_2) c11_1)
def c11_4 : ACode :=
  (.cond (.s 13) .skip (.exit 0))
def c11_5 : ACode :=
  (.seq (.seq (.region false [⟨some 5, none, .mv (.s 4)⟩,
    ⟨some 6, none, .fa 4 (.s 1)⟩,
    ⟨some 7, none, .ld false 1 (.s 6)⟩,
    ⟨some 8, none, .len (.s 7)⟩,
    ⟨some 9, none, .bin .lss (.s 5) (.s 8)⟩,
    ⟨some 10, none, .mv (.s 9)⟩,
    ⟨some 11, some (10, true), .mv (.s 4)⟩,
    ⟨some 12, some (10, true), .bin .leq (.s 11) (.c (.t (.int .i64 100)))⟩,
    ⟨some 13, none, .pick (.s 10) (.s 12) (.c (.t (.bool false)))⟩] [] [1, 3, 4, 13]) c11_4) c11_3)
def c11_6 : ACode :=
  (.loop c11_5)
def c11_7 : ACode :=
  (.block 0 c11_6)
def c11_8 : ACode :=
  (.seq (.seq (.region false [⟨some 4, none, .cst (.t (.int .i64 0))⟩] [] [1, 3, 4]) c11_7) c11_0)
def c11_9 : ACode :=
  (.seq (.region false [⟨some 3, none, .cst (.nils)⟩] [] [1, 3]) c11_8)
def c11 : ACode :=
  (.seq (.region false [⟨some 1, none, .box 5 (.s 0)⟩,
    ⟨some 2, none, .cst (.t (.bool false))⟩] [] [1]) c11_9)
def r11 : List ARes := [.tmp 2]
def n11 : Nat := 49
/- 12 supergraph collect.Fields -/
def c12_0 : ACode :=
  (.seq (.region false [⟨some 31, none, .mv (.s 11)⟩,
    ⟨some 32, none, .nilck (.s 31)⟩,
    ⟨some 33, none, .fa 9 (.s 32)⟩,
    ⟨some 34, none, .ld false 1 (.s 33)⟩,
    ⟨some 10, none, .mv (.s 34)⟩] [] [10]) .ret)
def c12_1 : ACode :=
  (.region false [⟨some 30, none, .bin .add (.s 23) (.c (.t (.int .i64 1)))⟩,
    ⟨some 23, none, .mv (.s 30)⟩] [] [11, 21, 22, 23])
def c12_2 : ACode :=
  (.region false [⟨some 27, none, .mv (.s 11)⟩,
    ⟨some 28, none, .ld true 8 (.s 13)⟩,
    ⟨some 29, none, .call 28 [(.s 27), (.s 28)]⟩] [] [11, 21, 22, 23])
def c12_3 : ACode :=
  (.seq (.region false [⟨some 25, none, .ia 8 (.s 21) (.s 23)⟩,
    ⟨some 26, none, .ld true 8 (.s 25)⟩,
    ⟨some 13, none, .alloc [.t (.int .i64 0), .t (.str []), .t (.str []), .t (.str []), .nils, .nils, .nils, .t (.str [])]⟩,
    ⟨none, none, .st 8 (.s 13) (.s 26)⟩] [] [11, 13, 21, 22, 23]) c12_2)
def c12_4 : ACode :=
  (.seq (.block 1 c12_3) c12_1)
def c12_5 : ACode :=
  (.seq (.cond (.s 24) .skip (.exit 0)) c12_4)
def c12_6 : ACode :=
  (.seq (.region false [⟨some 24, none, .bin .lss (.s 23) (.s 22)⟩] [] [11, 21, 22, 23, 24]) c12_5)
def c12_7 : ACode :=
  (.loop c12_6)
def c12_8 : ACode :=
  (.block 0 c12_7)
def c12_9 : ACode :=
  (.seq (.seq (.region false [⟨some 21, none, .mv (.s 3)⟩,
    ⟨some 22, none, .len (.s 21)⟩,
    ⟨some 23, none, .cst (.t (.int .i64 0))⟩] [] [11, 21, 22, 23]) c12_8) c12_0)
def c12_10 : ACode :=
  (.seq (.region false [⟨some 14, none, .ld true 1 (.s 5)⟩,
    ⟨some 15, none, .ld true 2 (.s 6)⟩,
    ⟨some 16, none, .mv (.s 2)⟩,
    ⟨some 17, none, .ld true 5 (.s 9)⟩,
    ⟨some 18, none, .mkmap true false⟩,
    ⟨some 19, none, .build [.nils, .nils, .nils, .t (.str []), .t (.int .i64 0), .t (.int .i64 0), .t (.str []), .nils, .nils, .nils, .t (.nilm)] [(0, 1, (.s 14)), (1, 2, (.s 15)), (3, 1, (.s 16)), (4, 5, (.s 17)), (10, 1, (.s 18))]⟩,
    ⟨some 20, none, .box 11 (.s 19)⟩,
    ⟨some 11, none, .mv (.s 20)⟩] [] [3, 11]) c12_9)
def c12 : ACode :=
  (.seq (.region false [⟨some 5, none, .box 1 (.s 0)⟩,
    ⟨some 6, none, .box 2 (.s 1)⟩,
    ⟨some 9, none, .box 5 (.s 4)⟩,
    ⟨some 10, none, .cst (.nils)⟩] [] [2, 3, 5, 6, 9]) c12_10)
def r12 : List ARes := [.tmp 10]
def n12 : Nat := 35
/- 13 supergraph supergraphlaw18.entries -/
def c13_0 : ACode :=
  (.seq (.region false [⟨some 25, none, .mv (.s 3)⟩,
    ⟨some 2, none, .mv (.s 25)⟩] [] [2]) .ret)
def c13_1 : ACode :=
  (.region false [⟨some 9, none, .mv (.s 4)⟩,
    ⟨some 10, none, .bin .add (.s 9) (.c (.t (.int .i64 1)))⟩,
    ⟨some 4, none, .mv (.s 10)⟩] [] [0, 3, 4])
def c13_2 : ACode :=
  (.region true [⟨some 11, none, .mv (.s 3)⟩,
    ⟨some 12, none, .mv (.s 0)⟩,
    ⟨some 13, none, .mv (.s 4)⟩,
    ⟨some 14, none, .ia 8 (.s 12) (.s 13)⟩,
    ⟨some 15, none, .fa 0 (.s 14)⟩,
    ⟨some 16, none, .ld true 7 (.s 15)⟩,
    ⟨some 17, none, .mv (.s 0)⟩,
    ⟨some 18, none, .mv (.s 4)⟩,
    ⟨some 19, none, .ia 8 (.s 17) (.s 18)⟩,
    ⟨some 20, none, .fa 7 (.s 19)⟩,
    ⟨some 21, none, .ld false 1 (.s 20)⟩,
    ⟨some 22, none, .build [.t (.int .i64 0), .t (.str []), .t (.str []), .t (.str []), .nils, .nils, .nils, .t (.str [])] [(0, 7, (.s 16)), (7, 1, (.s 21))]⟩,
    ⟨some 23, none, .bsl false 8 [[.int .i64 0, .str [], .str [], .str [], .lst [], .lst [], .lst [], .str []]] [(0, (.s 22))]⟩,
    ⟨some 24, none, .app 8 144 (.s 11) (.s 23)⟩,
    ⟨some 3, none, .mv (.s 24)⟩] [[], [], [], [1, 2], [3], [4], [], [], [6, 7], [8], [9], [5, 10], [11], [0, 12], [13, 13, 0, 1, 2, 3, 4, 5, 6, 7, 8, 9, 10, 11, 12, 13]] [0, 3, 4])
def c13_3 : ACode :=
  (.seq (.block 1 c13_2) c13_1)
def c13_4 : ACode :=
  (.cond (.s 8) .skip (.exit 0))
def c13_5 : ACode :=
  (.seq (.seq (.region false [⟨some 5, none, .mv (.s 4)⟩,
    ⟨some 6, none, .mv (.s 0)⟩,
    ⟨some 7, none, .len (.s 6)⟩,
    ⟨some 8, none, .bin .lss (.s 5) (.s 7)⟩] [] [0, 3, 4, 8]) c13_4) c13_3)
def c13_6 : ACode :=
  (.loop c13_5)
def c13_7 : ACode :=
  (.block 0 c13_6)
def c13_8 : ACode :=
  (.seq (.seq (.region false [⟨some 4, none, .cst (.t (.int .i64 0))⟩] [] [0, 3, 4]) c13_7) c13_0)
def c13_9 : ACode :=
  (.seq (.region false [⟨some 3, none, .cst (.nils)⟩] [] [0, 3]) c13_8)
def c13 : ACode :=
  (.seq (.region false [⟨some 2, none, .cst (.nils)⟩] [] [0]) c13_9)
def r13 : List ARes := [.tmp 2]
def n13 : Nat := 26
/- 14 supergraph supergraphref18.Fields -/
def c14_0 : ACode :=
  (.seq (.region false [⟨some 31, none, .mv (.s 11)⟩,
    ⟨some 32, none, .nilck (.s 31)⟩,
    ⟨some 33, none, .fa 10 (.s 32)⟩,
    ⟨some 34, none, .ld false 1 (.s 33)⟩,
    ⟨some 10, none, .mv (.s 34)⟩] [] [10]) .ret)
def c14_1 : ACode :=
  (.region false [⟨some 23, none, .mv (.s 12)⟩,
    ⟨some 24, none, .bin .add (.s 23) (.c (.t (.int .i64 1)))⟩,
    ⟨some 12, none, .mv (.s 24)⟩] [] [3, 11, 12])
def c14_2 : ACode :=
  (.region false [⟨some 25, none, .mv (.s 11)⟩,
    ⟨some 26, none, .mv (.s 3)⟩,
    ⟨some 27, none, .mv (.s 12)⟩,
    ⟨some 28, none, .ia 8 (.s 26) (.s 27)⟩,
    ⟨some 29, none, .ld true 8 (.s 28)⟩,
    ⟨some 30, none, .call 29 [(.s 25), (.s 29)]⟩] [] [3, 11, 12])
def c14_3 : ACode :=
  (.seq (.block 1 c14_2) c14_1)
def c14_4 : ACode :=
  (.cond (.s 22) .skip (.exit 0))
def c14_5 : ACode :=
  (.seq (.seq (.region false [⟨some 19, none, .mv (.s 12)⟩,
    ⟨some 20, none, .mv (.s 3)⟩,
    ⟨some 21, none, .len (.s 20)⟩,
    ⟨some 22, none, .bin .lss (.s 19) (.s 21)⟩] [] [3, 11, 12, 22]) c14_4) c14_3)
def c14_6 : ACode :=
  (.loop c14_5)
def c14_7 : ACode :=
  (.block 0 c14_6)
def c14_8 : ACode :=
  (.seq (.seq (.region false [⟨some 12, none, .cst (.t (.int .i64 0))⟩] [] [3, 11, 12]) c14_7) c14_0)
def c14_9 : ACode :=
  (.seq (.region false [⟨some 13, none, .ld true 1 (.s 5)⟩,
    ⟨some 14, none, .ld true 2 (.s 6)⟩,
    ⟨some 15, none, .mv (.s 2)⟩,
    ⟨some 16, none, .ld true 5 (.s 9)⟩,
    ⟨some 17, none, .build [.nils, .nils, .nils, .t (.str []), .t (.int .i64 0), .t (.int .i64 0), .t (.str []), .nils, .nils, .nils, .nils] [(0, 1, (.s 13)), (1, 2, (.s 14)), (3, 1, (.s 15)), (4, 5, (.s 16))]⟩,
    ⟨some 18, none, .box 11 (.s 17)⟩,
    ⟨some 11, none, .mv (.s 18)⟩] [] [3, 11]) c14_8)
def c14 : ACode :=
  (.seq (.region false [⟨some 5, none, .box 1 (.s 0)⟩,
    ⟨some 6, none, .box 2 (.s 1)⟩,
    ⟨some 9, none, .box 5 (.s 4)⟩,
    ⟨some 10, none, .cst (.nils)⟩] [] [2, 3, 5, 6, 9]) c14_9)
def r14 : List ARes := [.tmp 10]
def n14 : Nat := 35
/- 15 supergraph supergraphref18.Same -/
def c15_0 : ACode :=
  (.seq (.region false [⟨some 4, none, .cst (.t (.bool true))⟩] [] [4]) .ret)
def c15_1 : ACode :=
  (.region false [⟨some 15, none, .mv (.s 5)⟩,
    ⟨some 16, none, .bin .add (.s 15) (.c (.t (.int .i64 1)))⟩,
    ⟨some 5, none, .mv (.s 16)⟩] [] [0, 1, 5])
def c15_2 : ACode :=
  (.seq (.region false [⟨some 4, none, .cst (.t (.bool false))⟩] [] [4]) .ret)
def c15_3 : ACode :=
  (.cond (.s 43) c15_2 .skip)
def c15_4 : ACode :=
  (.seq (.region true [⟨some 17, none, .mv (.s 0)⟩,
    ⟨some 18, none, .mv (.s 5)⟩,
    ⟨some 19, none, .ia 8 (.s 17) (.s 18)⟩,
    ⟨some 20, none, .fa 7 (.s 19)⟩,
    ⟨some 21, none, .ld false 1 (.s 20)⟩,
    ⟨some 22, none, .mv (.s 1)⟩,
    ⟨some 23, none, .mv (.s 5)⟩,
    ⟨some 24, none, .ia 8 (.s 22) (.s 23)⟩,
    ⟨some 25, none, .fa 7 (.s 24)⟩,
    ⟨some 26, none, .ld false 1 (.s 25)⟩,
    ⟨some 27, none, .bin .neq (.s 21) (.s 26)⟩,
    ⟨some 28, none, .mv (.s 27)⟩,
    ⟨some 29, some (28, false), .mv (.s 0)⟩,
    ⟨some 30, some (28, false), .mv (.s 5)⟩,
    ⟨some 31, some (28, false), .ia 8 (.s 29) (.s 30)⟩,
    ⟨some 32, some (28, false), .fa 0 (.s 31)⟩,
    ⟨some 33, some (28, false), .ld true 7 (.s 32)⟩,
    ⟨some 34, some (28, false), .bsl true 7 [[.int .i64 0, .str [], .str [], .str [], .lst [], .lst [], .lst []]] [(0, (.s 33))]⟩,
    ⟨some 35, some (28, false), .mv (.s 1)⟩,
    ⟨some 36, some (28, false), .mv (.s 5)⟩,
    ⟨some 37, some (28, false), .ia 8 (.s 35) (.s 36)⟩,
    ⟨some 38, some (28, false), .fa 0 (.s 37)⟩,
    ⟨some 39, some (28, false), .ld true 7 (.s 38)⟩,
    ⟨some 40, some (28, false), .bsl true 7 [[.int .i64 0, .str [], .str [], .str [], .lst [], .lst [], .lst []]] [(0, (.s 39))]⟩,
    ⟨some 41, some (28, false), .call 30 [(.s 34), (.s 40)]⟩,
    ⟨some 42, some (28, false), .un .not (.s 41)⟩,
    ⟨some 43, none, .pick (.s 28) (.c (.t (.bool true))) (.s 42)⟩] [[], [], [0, 1], [2], [3], [], [], [5, 6], [7], [8], [4, 9], [10], [11], [11], [12, 13, 11], [14, 11], [15, 11], [16, 11], [11], [11], [18, 19, 11], [20, 11], [21, 11], [22, 11], [17, 23, 11, 11], [24, 11], [11, 25]] [0, 1, 5, 43]) c15_3)
def c15_5 : ACode :=
  (.seq (.block 1 c15_4) c15_1)
def c15_6 : ACode :=
  (.cond (.s 14) .skip (.exit 0))
def c15_7 : ACode :=
  (.seq (.seq (.region false [⟨some 11, none, .mv (.s 5)⟩,
    ⟨some 12, none, .mv (.s 0)⟩,
    ⟨some 13, none, .len (.s 12)⟩,
    ⟨some 14, none, .bin .lss (.s 11) (.s 13)⟩] [] [0, 1, 5, 14]) c15_6) c15_5)
def c15_8 : ACode :=
  (.loop c15_7)
def c15_9 : ACode :=
  (.block 0 c15_8)
def c15_10 : ACode :=
  (.seq (.seq (.region false [⟨some 5, none, .cst (.t (.int .i64 0))⟩] [] [0, 1, 5]) c15_9) c15_0)
def c15_11 : ACode :=
  (.seq (.region false [⟨some 4, none, .cst (.t (.bool false))⟩] [] [4]) .ret)
def c15_12 : ACode :=
  (.cond (.s 10) c15_11 .skip)
def c15_13 : ACode :=
  (.seq (.seq (.region false [⟨some 6, none, .mv (.s 0)⟩,
    ⟨some 7, none, .len (.s 6)⟩,
    ⟨some 8, none, .mv (.s 1)⟩,
    ⟨some 9, none, .len (.s 8)⟩,
    ⟨some 10, none, .bin .neq (.s 7) (.s 9)⟩] [] [0, 1, 10]) c15_12) c15_10)
def c15 : ACode :=
  (.seq (.region false [⟨some 4, none, .cst (.t (.bool false))⟩] [] [0, 1]) c15_13)
def r15 : List ARes := [.tmp 4]
def n15 : Nat := 44
/- 16 supergraph supergraphlaw18.plain -/
def c16_0 : ACode :=
  (.seq (.region false [⟨some 25, none, .mv (.s 3)⟩,
    ⟨some 2, none, .mv (.s 25)⟩] [] [2]) .ret)
def c16_1 : ACode :=
  (.region false [⟨some 9, none, .mv (.s 4)⟩,
    ⟨some 10, none, .bin .add (.s 9) (.c (.t (.int .i64 1)))⟩,
    ⟨some 4, none, .mv (.s 10)⟩] [] [0, 3, 4])
def c16_2 : ACode :=
  (.region true [⟨some 11, none, .mv (.s 3)⟩,
    ⟨some 12, none, .mv (.s 0)⟩,
    ⟨some 13, none, .mv (.s 4)⟩,
    ⟨some 14, none, .ia 8 (.s 12) (.s 13)⟩,
    ⟨some 15, none, .fa 0 (.s 14)⟩,
    ⟨some 16, none, .ld true 7 (.s 15)⟩,
    ⟨some 17, none, .mv (.s 0)⟩,
    ⟨some 18, none, .mv (.s 4)⟩,
    ⟨some 19, none, .ia 8 (.s 17) (.s 18)⟩,
    ⟨some 20, none, .fa 7 (.s 19)⟩,
    ⟨some 21, none, .ld false 1 (.s 20)⟩,
    ⟨some 22, none, .build [.t (.int .i64 0), .t (.str []), .t (.str []), .t (.str []), .nils, .nils, .nils, .t (.str [])] [(0, 7, (.s 16)), (7, 1, (.s 21))]⟩,
    ⟨some 23, none, .bsl false 8 [[.int .i64 0, .str [], .str [], .str [], .lst [], .lst [], .lst [], .str []]] [(0, (.s 22))]⟩,
    ⟨some 24, none, .app 8 144 (.s 11) (.s 23)⟩,
    ⟨some 3, none, .mv (.s 24)⟩] [[], [], [], [1, 2], [3], [4], [], [], [6, 7], [8], [9], [5, 10], [11], [0, 12], [13, 13, 0, 1, 2, 3, 4, 5, 6, 7, 8, 9, 10, 11, 12, 13]] [0, 3, 4])
def c16_3 : ACode :=
  (.seq (.block 1 c16_2) c16_1)
def c16_4 : ACode :=
  (.cond (.s 8) .skip (.exit 0))
def c16_5 : ACode :=
  (.seq (.seq (.region false [⟨some 5, none, .mv (.s 4)⟩,
    ⟨some 6, none, .mv (.s 0)⟩,
    ⟨some 7, none, .len (.s 6)⟩,
    ⟨some 8, none, .bin .lss (.s 5) (.s 7)⟩] [] [0, 3, 4, 8]) c16_4) c16_3)
def c16_6 : ACode :=
  (.loop c16_5)
def c16_7 : ACode :=
  (.block 0 c16_6)
def c16_8 : ACode :=
  (.seq (.seq (.region false [⟨some 4, none, .cst (.t (.int .i64 0))⟩] [] [0, 3, 4]) c16_7) c16_0)
def c16_9 : ACode :=
  (.seq (.region false [⟨some 3, none, .cst (.nils)⟩] [] [0, 3]) c16_8)
def c16 : ACode :=
  (.seq (.region false [⟨some 2, none, .cst (.nils)⟩] [] [0]) c16_9)
def r16 : List ARes := [.tmp 2]
def n16 : Nat := 26
/- 17 supergraph collect.Label -/
def c17_0 : ACode :=
  (.seq (.region false [⟨some 12, none, .fa 1 (.s 1)⟩,
    ⟨some 13, none, .ld false 1 (.s 12)⟩,
    ⟨some 14, none, .ia 8 (.s 13) (.c (.t (.int .i64 0)))⟩,
    ⟨some 15, none, .fa 7 (.s 14)⟩,
    ⟨some 16, none, .ld false 1 (.s 15)⟩,
    ⟨some 2, none, .mv (.s 16)⟩] [] [2]) .ret)
def c17_1 : ACode :=
  (.seq (.region false [⟨some 2, none, .cst (.t (.str []))⟩] [] [2]) .ret)
def c17_2 : ACode :=
  (.cond (.s 11) c17_1 .skip)
def c17_3 : ACode :=
  (.seq (.seq (.region false [⟨some 3, none, .fa 1 (.s 1)⟩,
    ⟨some 4, none, .ld false 1 (.s 3)⟩,
    ⟨some 5, none, .len (.s 4)⟩,
    ⟨some 6, none, .bin .eql (.s 5) (.c (.t (.int .i64 0)))⟩,
    ⟨some 7, none, .mv (.s 6)⟩,
    ⟨some 8, some (7, false), .fa 1 (.s 1)⟩,
    ⟨some 9, some (7, false), .ld false 1 (.s 8)⟩,
    ⟨some 10, some (7, false), .call 31 [(.s 9), (.c (.t (.fn 32)))]⟩,
    ⟨some 11, none, .pick (.s 7) (.c (.t (.bool true))) (.s 10)⟩] [] [1, 11]) c17_2) c17_0)
def c17 : ACode :=
  (.seq (.region false [⟨some 1, none, .box 2 (.s 0)⟩,
    ⟨some 2, none, .cst (.t (.str []))⟩] [] [1]) c17_3)
def r17 : List ARes := [.tmp 2]
def n17 : Nat := 17
/- 18 supergraph supergraphref18.Label -/
/- 19 supergraph supergraphlaw18.keys -/
/- 20 supergraph supergraphlaw18.has -/
/- 21 supergraph supergraphref10.Large -/
def c21_0 : ACode :=
  (.seq (.region false [⟨some 69, none, .mv (.s 3)⟩,
    ⟨some 70, none, .bin .gtr (.s 69) (.c (.t (.int .i64 1000)))⟩,
    ⟨some 2, none, .mv (.s 70)⟩] [] [2]) .ret)
def c21_1 : ACode :=
  (.region false [⟨some 16, none, .mv (.s 4)⟩,
    ⟨some 17, none, .bin .add (.s 16) (.c (.t (.int .i64 1)))⟩,
    ⟨some 4, none, .mv (.s 17)⟩] [] [1, 3, 4])
def c21_2 : ACode :=
  (.region false [⟨some 50, none, .mv (.s 6)⟩,
    ⟨some 51, none, .bin .add (.s 50) (.c (.t (.int .i64 1)))⟩,
    ⟨some 6, none, .mv (.s 51)⟩] [] [1, 3, 4, 5, 6])
def c21_3 : ACode :=
  (.region true [⟨some 52, none, .mv (.s 3)⟩,
    ⟨some 53, none, .fa 4 (.s 5)⟩,
    ⟨some 54, none, .ld false 1 (.s 53)⟩,
    ⟨some 55, none, .mv (.s 6)⟩,
    ⟨some 56, none, .ia 5 (.s 54) (.s 55)⟩,
    ⟨some 57, none, .fa 1 (.s 56)⟩,
    ⟨some 58, none, .ld false 1 (.s 57)⟩,
    ⟨some 59, none, .len (.s 58)⟩,
    ⟨some 60, none, .fa 4 (.s 5)⟩,
    ⟨some 61, none, .ld false 1 (.s 60)⟩,
    ⟨some 62, none, .mv (.s 6)⟩,
    ⟨some 63, none, .ia 5 (.s 61) (.s 62)⟩,
    ⟨some 64, none, .fa 4 (.s 63)⟩,
    ⟨some 65, none, .ld false 1 (.s 64)⟩,
    ⟨some 66, none, .len (.s 65)⟩,
    ⟨some 67, none, .bin .add (.s 59) (.s 66)⟩,
    ⟨some 68, none, .bin .add (.s 52) (.s 67)⟩,
    ⟨some 3, none, .mv (.s 68)⟩] [[], [], [1], [], [2, 3], [4], [5], [6], [], [8], [], [9, 10], [11], [12], [13], [7, 14], [0, 15], [16, 0, 1, 2, 3, 4, 5, 6, 7, 8, 9, 10, 11, 12, 13, 14, 15, 16]] [1, 3, 4, 5, 6])
def c21_4 : ACode :=
  (.seq (.block 3 c21_3) c21_2)
def c21_5 : ACode :=
  (.cond (.s 49) .skip (.exit 2))
def c21_6 : ACode :=
  (.seq (.seq (.region false [⟨some 45, none, .mv (.s 6)⟩,
    ⟨some 46, none, .fa 4 (.s 5)⟩,
    ⟨some 47, none, .ld false 1 (.s 46)⟩,
    ⟨some 48, none, .len (.s 47)⟩,
    ⟨some 49, none, .bin .lss (.s 45) (.s 48)⟩] [] [1, 3, 4, 5, 6, 49]) c21_5) c21_4)
def c21_7 : ACode :=
  (.loop c21_6)
def c21_8 : ACode :=
  (.block 2 c21_7)
def c21_9 : ACode :=
  (.seq (.region false [⟨some 6, none, .cst (.t (.int .i64 0))⟩] [] [1, 3, 4, 5, 6]) c21_8)
def c21_10 : ACode :=
  (.seq (.region false [⟨some 23, none, .mv (.s 3)⟩,
    ⟨some 24, none, .fa 4 (.s 5)⟩,
    ⟨some 25, none, .ld false 1 (.s 24)⟩,
    ⟨some 26, none, .len (.s 25)⟩,
    ⟨some 27, none, .bin .add (.c (.t (.int .i64 1))) (.s 26)⟩,
    ⟨some 28, none, .fa 5 (.s 5)⟩,
    ⟨some 29, none, .ld false 1 (.s 28)⟩,
    ⟨some 30, none, .len (.s 29)⟩,
    ⟨some 31, none, .bin .add (.s 27) (.s 30)⟩,
    ⟨some 32, none, .fa 6 (.s 5)⟩,
    ⟨some 33, none, .ld false 1 (.s 32)⟩,
    ⟨some 34, none, .len (.s 33)⟩,
    ⟨some 35, none, .bin .add (.s 31) (.s 34)⟩,
    ⟨some 36, none, .fa 3 (.s 5)⟩,
    ⟨some 37, none, .ld false 1 (.s 36)⟩,
    ⟨some 38, none, .len (.s 37)⟩,
    ⟨some 39, none, .bin .add (.s 35) (.s 38)⟩,
    ⟨some 40, none, .fa 2 (.s 5)⟩,
    ⟨some 41, none, .ld false 1 (.s 40)⟩,
    ⟨some 42, none, .len (.s 41)⟩,
    ⟨some 43, none, .bin .add (.s 39) (.s 42)⟩,
    ⟨some 44, none, .bin .add (.s 23) (.s 43)⟩,
    ⟨some 3, none, .mv (.s 44)⟩] [] [1, 3, 4, 5]) c21_9)
def c21_11 : ACode :=
  (.seq (.region false [⟨some 18, none, .fa 0 (.s 1)⟩,
    ⟨some 19, none, .ld false 1 (.s 18)⟩,
    ⟨some 20, none, .mv (.s 4)⟩,
    ⟨some 21, none, .ia 7 (.s 19) (.s 20)⟩,
    ⟨some 22, none, .ld true 7 (.s 21)⟩,
    ⟨some 5, none, .alloc [.t (.int .i64 0), .t (.str []), .nils, .nils, .nils, .nils, .nils]⟩,
    ⟨none, none, .st 7 (.s 5) (.s 22)⟩] [] [1, 3, 4, 5]) c21_10)
def c21_12 : ACode :=
  (.seq (.block 1 c21_11) c21_1)
def c21_13 : ACode :=
  (.cond (.s 15) .skip (.exit 0))
def c21_14 : ACode :=
  (.seq (.seq (.region false [⟨some 11, none, .mv (.s 4)⟩,
    ⟨some 12, none, .fa 0 (.s 1)⟩,
    ⟨some 13, none, .ld false 1 (.s 12)⟩,
    ⟨some 14, none, .len (.s 13)⟩,
    ⟨some 15, none, .bin .lss (.s 11) (.s 14)⟩] [] [1, 3, 4, 15]) c21_13) c21_12)
def c21_15 : ACode :=
  (.loop c21_14)
def c21_16 : ACode :=
  (.block 0 c21_15)
def c21_17 : ACode :=
  (.seq (.seq (.region false [⟨some 4, none, .cst (.t (.int .i64 0))⟩] [] [1, 3, 4]) c21_16) c21_0)
def c21_18 : ACode :=
  (.seq (.region false [⟨some 3, none, .cst (.t (.int .i64 0))⟩] [] [1, 3]) c21_17)
def c21_19 : ACode :=
  (.seq (.region false [⟨some 2, none, .cst (.t (.bool true))⟩] [] [2]) .ret)
def c21_20 : ACode :=
  (.cond (.s 10) c21_19 .skip)
def c21_21 : ACode :=
  (.seq (.seq (.region false [⟨some 7, none, .fa 0 (.s 1)⟩,
    ⟨some 8, none, .ld false 1 (.s 7)⟩,
    ⟨some 9, none, .len (.s 8)⟩,
    ⟨some 10, none, .bin .gtr (.s 9) (.c (.t (.int .i64 70)))⟩] [] [1, 10]) c21_20) c21_18)
def c21 : ACode :=
  (.seq (.region false [⟨some 1, none, .box 1 (.s 0)⟩,
    ⟨some 2, none, .cst (.t (.bool false))⟩] [] [1]) c21_21)
def r21 : List ARes := [.tmp 2]
def n21 : Nat := 71
/- 22 supergraph supergraphlaw18.field -/
def c22_0 : ACode :=
  (.seq (.region false [⟨some 5, none, .mv (.s 0)⟩,
    ⟨some 6, none, .mv (.s 1)⟩,
    ⟨some 7, none, .build [.t (.int .i64 0), .t (.str []), .t (.str []), .t (.str []), .nils, .nils, .nils] [(0, 1, (.c (.t (.int .i64 1)))), (1, 1, (.s 5)), (2, 1, (.s 6))]⟩,
    ⟨none, none, .st 7 (.s 4) (.s 7)⟩] [] [4]) .ret)
def c22 : ACode :=
  (.seq (.region false [⟨some 4, none, .alloc [.t (.int .i64 0), .t (.str []), .t (.str []), .t (.str []), .nils, .nils, .nils]⟩] [] [0, 1, 4]) c22_0)
def r22 : List ARes := [.cell 4 true 7]
def n22 : Nat := 8
/- 23 supergraph abstract.Is -/
def c23_0 : ACode :=
  (.seq (.region false [⟨some 7, none, .ld true 1 (.s 3)⟩,
    ⟨some 8, none, .mv (.s 2)⟩,
    ⟨some 9, none, .call 34 [(.s 7), (.s 8)]⟩,
    ⟨some 10, none, .mv (.s 1)⟩,
    ⟨some 11, none, .call 33 [(.s 9), (.s 10)]⟩,
    ⟨some 6, none, .mv (.s 11)⟩] [] [6]) .ret)
def c23 : ACode :=
  (.seq (.region false [⟨some 3, none, .box 1 (.s 0)⟩,
    ⟨some 6, none, .cst (.t (.bool false))⟩] [] [1, 2, 3]) c23_0)
def r23 : List ARes := [.tmp 6]
def n23 : Nat := 12
/- 24 supergraph supergraphlaw18.text -/
def c24_0 : ACode :=
  (.seq (.region false [⟨some 5, none, .mv (.s 0)⟩,
    ⟨some 6, none, .mv (.s 1)⟩,
    ⟨some 7, none, .build [.t (.int .i64 0), .t (.int .i64 0), .t (.str []), .nils, .nils] [(0, 1, (.c (.t (.int .i64 3)))), (2, 1, (.s 6))]⟩,
    ⟨some 8, none, .build [.t (.str []), .t (.int .i64 0), .t (.int .i64 0), .t (.str []), .nils, .nils] [(0, 1, (.s 5)), (1, 5, (.s 7))]⟩,
    ⟨none, none, .st 6 (.s 4) (.s 8)⟩] [] [4]) .ret)
def c24 : ACode :=
  (.seq (.region false [⟨some 4, none, .alloc [.t (.str []), .t (.int .i64 0), .t (.int .i64 0), .t (.str []), .nils, .nils]⟩] [] [0, 1, 4]) c24_0)
def r24 : List ARes := [.cell 4 true 6]
def n24 : Nat := 9
/- 25 supergraph collect.holds -/
def c25_0 : ACode :=
  (.seq (.region false [⟨some 22, none, .fa 0 (.s 5)⟩,
    ⟨some 23, none, .ld false 1 (.s 22)⟩,
    ⟨some 24, none, .bin .eql (.s 23) (.c (.t (.int .i64 1)))⟩,
    ⟨some 25, none, .mv (.s 24)⟩,
    ⟨some 26, some (25, true), .fa 1 (.s 5)⟩,
    ⟨some 27, some (25, true), .ld false 1 (.s 26)⟩,
    ⟨some 28, some (25, true), .bin .eql (.s 27) (.c (.t (.int .i64 1)))⟩,
    ⟨some 29, none, .pick (.s 25) (.s 28) (.c (.t (.bool false)))⟩,
    ⟨some 4, none, .mv (.s 29)⟩] [] [4]) .ret)
def c25_1 : ACode :=
  (.region false [⟨some 16, none, .ld true 5 (.s 3)⟩,
    ⟨some 17, none, .fa 2 (.s 5)⟩,
    ⟨some 18, none, .ld false 1 (.s 17)⟩,
    ⟨some 19, none, .call 36 [(.s 16), (.s 18)]⟩,
    ⟨some 15, none, .mv (.s 19)⟩,
    ⟨some 20, none, .ext (.s 15) 0⟩,
    ⟨some 21, none, .ext (.s 15) 1⟩,
    ⟨none, none, .st 5 (.s 5) (.s 20)⟩] [] [5])
def c25_2 : ACode :=
  (.cond (.s 14) c25_1 .skip)
def c25_3 : ACode :=
  (.seq (.seq (.region false [⟨some 12, none, .fa 0 (.s 5)⟩,
    ⟨some 13, none, .ld false 1 (.s 12)⟩,
    ⟨some 14, none, .bin .eql (.s 13) (.c (.t (.int .i64 7)))⟩] [] [3, 5, 14]) c25_2) c25_0)
def c25_4 : ACode :=
  (.seq (.region false [⟨some 8, none, .ld true 2 (.s 2)⟩,
    ⟨some 9, none, .call 35 [(.s 8), (.c (.t (.str [105, 102])))]⟩,
    ⟨some 7, none, .mv (.s 9)⟩,
    ⟨some 10, none, .ext (.s 7) 0⟩,
    ⟨some 11, none, .ext (.s 7) 1⟩,
    ⟨some 5, none, .alloc [.t (.int .i64 0), .t (.int .i64 0), .t (.str []), .nils, .nils]⟩,
    ⟨none, none, .st 5 (.s 5) (.s 10)⟩,
    ⟨some 6, none, .mv (.s 11)⟩] [] [3, 5]) c25_3)
def c25 : ACode :=
  (.seq (.region false [⟨some 2, none, .box 2 (.s 0)⟩,
    ⟨some 3, none, .box 5 (.s 1)⟩,
    ⟨some 4, none, .cst (.t (.bool false))⟩] [] [2, 3]) c25_4)
def r25 : List ARes := [.tmp 4]
def n25 : Nat := 30
/- 26 supergraph supergraphref18.holds -/
def c26_0 : ACode :=
  (.seq (.region false [⟨some 22, none, .fa 0 (.s 5)⟩,
    ⟨some 23, none, .ld false 1 (.s 22)⟩,
    ⟨some 24, none, .bin .eql (.s 23) (.c (.t (.int .i64 1)))⟩,
    ⟨some 25, none, .mv (.s 24)⟩,
    ⟨some 26, some (25, true), .fa 1 (.s 5)⟩,
    ⟨some 27, some (25, true), .ld false 1 (.s 26)⟩,
    ⟨some 28, some (25, true), .bin .eql (.s 27) (.c (.t (.int .i64 1)))⟩,
    ⟨some 29, none, .pick (.s 25) (.s 28) (.c (.t (.bool false)))⟩,
    ⟨some 4, none, .mv (.s 29)⟩] [] [4]) .ret)
def c26_1 : ACode :=
  (.region false [⟨some 16, none, .ld true 5 (.s 3)⟩,
    ⟨some 17, none, .fa 2 (.s 5)⟩,
    ⟨some 18, none, .ld false 1 (.s 17)⟩,
    ⟨some 19, none, .call 38 [(.s 16), (.s 18)]⟩,
    ⟨some 15, none, .mv (.s 19)⟩,
    ⟨some 20, none, .ext (.s 15) 0⟩,
    ⟨some 21, none, .ext (.s 15) 1⟩,
    ⟨none, none, .st 5 (.s 5) (.s 20)⟩] [] [5])
def c26_2 : ACode :=
  (.cond (.s 14) c26_1 .skip)
def c26_3 : ACode :=
  (.seq (.seq (.region false [⟨some 12, none, .fa 0 (.s 5)⟩,
    ⟨some 13, none, .ld false 1 (.s 12)⟩,
    ⟨some 14, none, .bin .eql (.s 13) (.c (.t (.int .i64 7)))⟩] [] [3, 5, 14]) c26_2) c26_0)
def c26_4 : ACode :=
  (.seq (.region false [⟨some 8, none, .ld true 2 (.s 2)⟩,
    ⟨some 9, none, .call 37 [(.s 8), (.c (.t (.str [105, 102])))]⟩,
    ⟨some 7, none, .mv (.s 9)⟩,
    ⟨some 10, none, .ext (.s 7) 0⟩,
    ⟨some 11, none, .ext (.s 7) 1⟩,
    ⟨some 5, none, .alloc [.t (.int .i64 0), .t (.int .i64 0), .t (.str []), .nils, .nils]⟩,
    ⟨none, none, .st 5 (.s 5) (.s 10)⟩,
    ⟨some 6, none, .mv (.s 11)⟩] [] [3, 5]) c26_3)
def c26 : ACode :=
  (.seq (.region false [⟨some 2, none, .box 2 (.s 0)⟩,
    ⟨some 3, none, .box 5 (.s 1)⟩,
    ⟨some 4, none, .cst (.t (.bool false))⟩] [] [2, 3]) c26_4)
def r26 : List ARes := [.tmp 4]
def n26 : Nat := 30
/- 27 supergraph supergraphref08.Large -/
def c27_0 : ACode :=
  (.seq (.region false [⟨some 61, none, .mv (.s 3)⟩,
    ⟨some 62, none, .bin .gtr (.s 61) (.c (.t (.int .i64 600)))⟩,
    ⟨some 2, none, .mv (.s 62)⟩] [] [2]) .ret)
def c27_1 : ACode :=
  (.region false [⟨some 50, none, .mv (.s 5)⟩,
    ⟨some 51, none, .bin .add (.s 50) (.c (.t (.int .i64 1)))⟩,
    ⟨some 5, none, .mv (.s 51)⟩] [] [1, 3, 5])
def c27_2 : ACode :=
  (.region false [⟨some 52, none, .mv (.s 3)⟩,
    ⟨some 53, none, .fa 1 (.s 1)⟩,
    ⟨some 54, none, .ld false 1 (.s 53)⟩,
    ⟨some 55, none, .mv (.s 5)⟩,
    ⟨some 56, none, .ia 3 (.s 54) (.s 55)⟩,
    ⟨some 57, none, .fa 2 (.s 56)⟩,
    ⟨some 58, none, .ld false 1 (.s 57)⟩,
    ⟨some 59, none, .call 39 [(.s 58), (.c (.t (.int .i64 600)))]⟩,
    ⟨some 60, none, .bin .add (.s 52) (.s 59)⟩,
    ⟨some 3, none, .mv (.s 60)⟩] [] [1, 3, 5])
def c27_3 : ACode :=
  (.seq (.block 3 c27_2) c27_1)
def c27_4 : ACode :=
  (.cond (.s 49) .skip (.exit 2))
def c27_5 : ACode :=
  (.seq (.seq (.region false [⟨some 41, none, .mv (.s 5)⟩,
    ⟨some 42, none, .fa 1 (.s 1)⟩,
    ⟨some 43, none, .ld false 1 (.s 42)⟩,
    ⟨some 44, none, .len (.s 43)⟩,
    ⟨some 45, none, .bin .lss (.s 41) (.s 44)⟩,
    ⟨some 46, none, .mv (.s 45)⟩,
    ⟨some 47, some (46, true), .mv (.s 3)⟩,
    ⟨some 48, some (46, true), .bin .leq (.s 47) (.c (.t (.int .i64 600)))⟩,
    ⟨some 49, none, .pick (.s 46) (.s 48) (.c (.t (.bool false)))⟩] [] [1, 3, 5, 49]) c27_4) c27_3)
def c27_6 : ACode :=
  (.loop c27_5)
def c27_7 : ACode :=
  (.block 2 c27_6)
def c27_8 : ACode :=
  (.seq (.seq (.region false [⟨some 5, none, .cst (.t (.int .i64 0))⟩] [] [1, 3, 5]) c27_7) c27_0)
def c27_9 : ACode :=
  (.region false [⟨some 22, none, .mv (.s 4)⟩,
    ⟨some 23, none, .bin .add (.s 22) (.c (.t (.int .i64 1)))⟩,
    ⟨some 4, none, .mv (.s 23)⟩] [] [1, 3, 4])
def c27_10 : ACode :=
  (.region true [⟨some 24, none, .mv (.s 3)⟩,
    ⟨some 25, none, .fa 0 (.s 1)⟩,
    ⟨some 26, none, .ld false 1 (.s 25)⟩,
    ⟨some 27, none, .mv (.s 4)⟩,
    ⟨some 28, none, .ia 4 (.s 26) (.s 27)⟩,
    ⟨some 29, none, .fa 2 (.s 28)⟩,
    ⟨some 30, none, .ld false 1 (.s 29)⟩,
    ⟨some 31, none, .len (.s 30)⟩,
    ⟨some 32, none, .bin .add (.s 24) (.s 31)⟩,
    ⟨some 33, none, .fa 0 (.s 1)⟩,
    ⟨some 34, none, .ld false 1 (.s 33)⟩,
    ⟨some 35, none, .mv (.s 4)⟩,
    ⟨some 36, none, .ia 4 (.s 34) (.s 35)⟩,
    ⟨some 37, none, .fa 3 (.s 36)⟩,
    ⟨some 38, none, .ld false 1 (.s 37)⟩,
    ⟨some 39, none, .call 39 [(.s 38), (.c (.t (.int .i64 600)))]⟩,
    ⟨some 40, none, .bin .add (.s 32) (.s 39)⟩,
    ⟨some 3, none, .mv (.s 40)⟩] [[], [], [1], [], [2, 3], [4], [5], [6], [0, 7], [], [9], [], [10, 11], [12], [13], [14], [8, 15], [16, 15, 0, 1, 2, 3, 4, 5, 6, 7, 8, 9, 10, 11, 12, 13, 14, 15, 16]] [1, 3, 4])
def c27_11 : ACode :=
  (.seq (.block 1 c27_10) c27_9)
def c27_12 : ACode :=
  (.cond (.s 21) .skip (.exit 0))
def c27_13 : ACode :=
  (.seq (.seq (.region false [⟨some 13, none, .mv (.s 4)⟩,
    ⟨some 14, none, .fa 0 (.s 1)⟩,
    ⟨some 15, none, .ld false 1 (.s 14)⟩,
    ⟨some 16, none, .len (.s 15)⟩,
    ⟨some 17, none, .bin .lss (.s 13) (.s 16)⟩,
    ⟨some 18, none, .mv (.s 17)⟩,
    ⟨some 19, some (18, true), .mv (.s 3)⟩,
    ⟨some 20, some (18, true), .bin .leq (.s 19) (.c (.t (.int .i64 600)))⟩,
    ⟨some 21, none, .pick (.s 18) (.s 20) (.c (.t (.bool false)))⟩] [] [1, 3, 4, 21]) c27_12) c27_11)
def c27_14 : ACode :=
  (.loop c27_13)
def c27_15 : ACode :=
  (.block 0 c27_14)
def c27_16 : ACode :=
  (.seq (.seq (.region false [⟨some 4, none, .cst (.t (.int .i64 0))⟩] [] [1, 3, 4]) c27_15) c27_8)
def c27_17 : ACode :=
  (.seq (.region false [⟨some 6, none, .fa 0 (.s 1)⟩,
    ⟨some 7, none, .ld false 1 (.s 6)⟩,
    ⟨some 8, none, .len (.s 7)⟩,
    ⟨some 9, none, .fa 1 (.s 1)⟩,
    ⟨some 10, none, .ld false 1 (.s 9)⟩,
    ⟨some 11, none, .len (.s 10)⟩,
    ⟨some 12, none, .bin .add (.s 8) (.s 11)⟩,
    ⟨some 3, none, .mv (.s 12)⟩] [] [1, 3]) c27_16)
def c27 : ACode :=
  (.seq (.region false [⟨some 1, none, .box 2 (.s 0)⟩,
    ⟨some 2, none, .cst (.t (.bool false))⟩] [] [1]) c27_17)
def r27 : List ARes := [.tmp 2]
def n27 : Nat := 63
/- 28 (*supergraph collect.collector).entry -/
def c28_0 : ACode :=
  (.region true [⟨some 42, none, .mv (.s 0)⟩,
    ⟨some 43, none, .fa 0 (.s 3)⟩,
    ⟨some 44, none, .fa 6 (.s 43)⟩,
    ⟨some 45, none, .ld false 1 (.s 44)⟩,
    ⟨some 46, none, .fa 0 (.s 3)⟩,
    ⟨some 47, none, .fa 5 (.s 46)⟩,
    ⟨some 48, none, .ld false 1 (.s 47)⟩,
    ⟨some 49, none, .fa 7 (.s 3)⟩,
    ⟨some 50, none, .ld false 1 (.s 49)⟩,
    ⟨some 51, none, .call 41 [(.s 48), (.s 50)]⟩,
    ⟨some 52, none, .call 40 [(.s 42), (.s 45), (.s 51)]⟩] [[], [], [1], [2], [], [4], [5], [], [7], [6, 8], [0, 3, 9, 9]] [])
def c28_1 : ACode :=
  (.cond (.s 41) c28_0 .skip)
def c28_2 : ACode :=
  (.seq (.region true [⟨some 24, none, .fa 0 (.s 3)⟩,
    ⟨some 25, none, .fa 3 (.s 24)⟩,
    ⟨some 26, none, .ld false 1 (.s 25)⟩,
    ⟨some 27, none, .bin .eql (.s 26) (.c (.t (.str [])))⟩,
    ⟨some 28, none, .mv (.s 27)⟩,
    ⟨some 29, some (28, false), .mv (.s 0)⟩,
    ⟨some 30, some (28, false), .nilck (.s 29)⟩,
    ⟨some 31, some (28, false), .fa 0 (.s 30)⟩,
    ⟨some 32, some (28, false), .ld true 1 (.s 31)⟩,
    ⟨some 33, some (28, false), .mv (.s 0)⟩,
    ⟨some 34, some (28, false), .nilck (.s 33)⟩,
    ⟨some 35, some (28, false), .fa 3 (.s 34)⟩,
    ⟨some 36, some (28, false), .ld false 1 (.s 35)⟩,
    ⟨some 37, some (28, false), .fa 0 (.s 3)⟩,
    ⟨some 38, some (28, false), .fa 3 (.s 37)⟩,
    ⟨some 39, some (28, false), .ld false 1 (.s 38)⟩,
    ⟨some 40, some (28, false), .call 23 [(.s 32), (.s 36), (.s 39)]⟩,
    ⟨some 41, none, .pick (.s 28) (.c (.t (.bool true))) (.s 40)⟩] [[], [0], [1], [2], [3], [4], [5, 4], [6, 4], [7, 4], [4], [9, 4], [10, 4], [11, 4], [4], [13, 4], [14, 4], [8, 12, 15, 4, 4], [4, 16]] [0, 3, 41]) c28_1)
def c28_3 : ACode :=
  (.region false [⟨some 104, none, .mv (.s 0)⟩,
    ⟨some 105, none, .fa 2 (.s 4)⟩,
    ⟨some 106, none, .ld false 1 (.s 105)⟩,
    ⟨some 107, none, .fa 1 (.s 6)⟩,
    ⟨some 108, none, .ld false 1 (.s 107)⟩,
    ⟨some 109, none, .call 40 [(.s 104), (.s 106), (.s 108)]⟩] [] [])
def c28_4 : ACode :=
  (.seq (.region true [⟨some 99, none, .mv (.s 0)⟩,
    ⟨some 100, none, .nilck (.s 99)⟩,
    ⟨some 101, none, .fa 10 (.s 100)⟩,
    ⟨some 102, none, .ld false 1 (.s 101)⟩,
    ⟨some 103, none, .ld true 2 (.s 6)⟩,
    ⟨none, none, .nw (.mupd [.str, .str] true (.s 102) (.s 103) (.c (.t (.bool true))))⟩] [[], [0], [1], [2], [], [3, 4, 0, 1, 2, 3, 4]] [0, 4, 6]) c28_3)
def c28_5 : ACode :=
  (.cond (.s 98) c28_4 .skip)
def c28_6 : ACode :=
  (.seq (.region true [⟨some 76, none, .mv (.s 5)⟩,
    ⟨some 77, none, .mv (.s 76)⟩,
    ⟨some 78, some (77, true), .mv (.s 0)⟩,
    ⟨some 79, some (77, true), .nilck (.s 78)⟩,
    ⟨some 80, some (77, true), .fa 0 (.s 79)⟩,
    ⟨some 81, some (77, true), .ld true 1 (.s 80)⟩,
    ⟨some 82, some (77, true), .mv (.s 0)⟩,
    ⟨some 83, some (77, true), .nilck (.s 82)⟩,
    ⟨some 84, some (77, true), .fa 3 (.s 83)⟩,
    ⟨some 85, some (77, true), .ld false 1 (.s 84)⟩,
    ⟨some 86, some (77, true), .fa 1 (.s 4)⟩,
    ⟨some 87, some (77, true), .ld false 1 (.s 86)⟩,
    ⟨some 88, some (77, true), .call 23 [(.s 81), (.s 85), (.s 87)]⟩,
    ⟨some 89, none, .pick (.s 77) (.s 88) (.c (.t (.bool false)))⟩,
    ⟨some 90, none, .mv (.s 89)⟩,
    ⟨some 91, some (90, true), .mv (.s 0)⟩,
    ⟨some 92, some (90, true), .nilck (.s 91)⟩,
    ⟨some 93, some (90, true), .fa 10 (.s 92)⟩,
    ⟨some 94, some (90, true), .ld false 1 (.s 93)⟩,
    ⟨some 95, some (90, true), .ld true 2 (.s 6)⟩,
    ⟨some 96, some (90, true), .nw (.lookup [.str, .str] true (.t (.bool false)) false (.s 94) (.s 95))⟩,
    ⟨some 97, some (90, true), .un .not (.s 96)⟩,
    ⟨some 98, none, .pick (.s 90) (.s 97) (.c (.t (.bool false)))⟩] [[], [0], [1], [2, 1], [3, 1], [4, 1], [1], [6, 1], [7, 1], [8, 1], [1], [10, 1], [5, 9, 11, 1, 1], [1, 12], [13, 12], [14], [15, 14], [16, 14], [17, 14], [14], [18, 19, 14], [20, 14], [14, 21]] [0, 4, 6, 98]) c28_5)
def c28_7 : ACode :=
  (.seq (.region true [⟨some 66, none, .fa 0 (.s 3)⟩,
    ⟨some 67, none, .fa 2 (.s 66)⟩,
    ⟨some 68, none, .ld false 1 (.s 67)⟩,
    ⟨some 69, none, .fa 0 (.s 3)⟩,
    ⟨some 70, none, .fa 5 (.s 69)⟩,
    ⟨some 71, none, .ld false 1 (.s 70)⟩,
    ⟨some 72, none, .fa 7 (.s 3)⟩,
    ⟨some 73, none, .ld false 1 (.s 72)⟩,
    ⟨some 74, none, .call 41 [(.s 71), (.s 73)]⟩,
    ⟨some 75, none, .build [.t (.str []), .t (.str [])] [(0, 1, (.s 68)), (1, 1, (.s 74))]⟩,
    ⟨some 6, none, .alloc [.t (.str []), .t (.str [])]⟩,
    ⟨none, none, .st 2 (.s 6) (.s 75)⟩] [[], [0], [1], [], [3], [4], [], [6], [5, 7], [2, 8], [], [10, 9, 8, 0, 1, 2, 3, 4, 5, 6, 7, 8, 9, 10]] [0, 4, 5, 6]) c28_6)
def c28_8 : ACode :=
  (.seq (.region true [⟨some 56, none, .mv (.s 0)⟩,
    ⟨some 57, none, .nilck (.s 56)⟩,
    ⟨some 58, none, .fa 1 (.s 57)⟩,
    ⟨some 59, none, .ld true 2 (.s 58)⟩,
    ⟨some 60, none, .fa 0 (.s 3)⟩,
    ⟨some 61, none, .fa 2 (.s 60)⟩,
    ⟨some 62, none, .ld false 1 (.s 61)⟩,
    ⟨some 63, none, .call 42 [(.s 59), (.s 62)]⟩,
    ⟨some 55, none, .mv (.s 63)⟩,
    ⟨some 64, none, .ext (.s 55) 0⟩,
    ⟨some 65, none, .ext (.s 55) 1⟩,
    ⟨some 4, none, .alloc [.t (.str []), .t (.str []), .nils]⟩,
    ⟨none, none, .st 3 (.s 4) (.s 64)⟩,
    ⟨some 5, none, .mv (.s 65)⟩] [[], [0], [1], [2], [], [4], [5], [3, 6], [7], [8], [8], [], [11, 9, 7, 0, 1, 2, 3, 4, 5, 6, 7, 8, 9, 11], [10, 12, 0, 1, 2, 3, 4, 5, 6, 7, 8, 9, 10, 11, 12]] [0, 3, 4, 5]) c28_7)
def c28_9 : ACode :=
  (.region false [⟨some 19, none, .mv (.s 0)⟩,
    ⟨some 20, none, .ld true 8 (.s 3)⟩,
    ⟨some 21, none, .call 43 [(.s 19), (.s 20)]⟩] [] [])
def c28_10 : ACode :=
  (.cond (.s 53) c28_8 c28_9)
def c28_11 : ACode :=
  (.seq (.region false [⟨some 54, none, .bin .eql (.s 18) (.c (.t (.int .i64 2)))⟩,
    ⟨some 53, none, .mv (.s 54)⟩] [] [0, 3, 53]) c28_10)
def c28_12 : ACode :=
  (.cond (.s 22) c28_2 c28_11)
def c28_13 : ACode :=
  (.seq (.region false [⟨some 23, none, .bin .eql (.s 18) (.c (.t (.int .i64 3)))⟩,
    ⟨some 22, none, .mv (.s 23)⟩] [] [0, 3, 18, 22]) c28_12)
def c28_14 : ACode :=
  (.block 0 c28_13)
def c28_15 : ACode :=
  (.seq (.region false [⟨some 16, none, .fa 0 (.s 3)⟩,
    ⟨some 17, none, .fa 0 (.s 16)⟩,
    ⟨some 18, none, .ld false 1 (.s 17)⟩] [] [0, 3, 18]) c28_14)
def c28_16 : ACode :=
  (.cond (.s 15) .ret .skip)
def c28_17 : ACode :=
  (.seq (.seq (.region true [⟨some 7, none, .fa 0 (.s 3)⟩,
    ⟨some 8, none, .fa 5 (.s 7)⟩,
    ⟨some 9, none, .ld false 1 (.s 8)⟩,
    ⟨some 10, none, .mv (.s 0)⟩,
    ⟨some 11, none, .nilck (.s 10)⟩,
    ⟨some 12, none, .fa 4 (.s 11)⟩,
    ⟨some 13, none, .ld true 5 (.s 12)⟩,
    ⟨some 14, none, .call 9 [(.s 9), (.s 13)]⟩,
    ⟨some 15, none, .un .not (.s 14)⟩] [[], [0], [1], [], [3], [4], [5], [2, 6], [7]] [0, 3, 15]) c28_16) c28_15)
def c28 : ACode :=
  (.seq (.region false [⟨some 3, none, .box 8 (.s 1)⟩] [] [0, 3]) c28_17)
def r28 : List ARes := []
def n28 : Nat := 110
/- 29 (*supergraph supergraphref18.work).entry -/
def c29_0 : ACode :=
  (.region false [⟨some 46, none, .mv (.s 0)⟩,
    ⟨some 47, none, .fa 6 (.s 4)⟩,
    ⟨some 48, none, .ld false 1 (.s 47)⟩,
    ⟨some 49, none, .mv (.s 5)⟩,
    ⟨some 50, none, .call 46 [(.s 46), (.s 48), (.s 49)]⟩] [] [])
def c29_1 : ACode :=
  (.cond (.s 45) c29_0 .skip)
def c29_2 : ACode :=
  (.seq (.region true [⟨some 30, none, .fa 3 (.s 4)⟩,
    ⟨some 31, none, .ld false 1 (.s 30)⟩,
    ⟨some 32, none, .bin .eql (.s 31) (.c (.t (.str [])))⟩,
    ⟨some 33, none, .mv (.s 32)⟩,
    ⟨some 34, some (33, false), .mv (.s 0)⟩,
    ⟨some 35, some (33, false), .nilck (.s 34)⟩,
    ⟨some 36, some (33, false), .fa 0 (.s 35)⟩,
    ⟨some 37, some (33, false), .ld true 1 (.s 36)⟩,
    ⟨some 38, some (33, false), .mv (.s 0)⟩,
    ⟨some 39, some (33, false), .nilck (.s 38)⟩,
    ⟨some 40, some (33, false), .fa 3 (.s 39)⟩,
    ⟨some 41, some (33, false), .ld false 1 (.s 40)⟩,
    ⟨some 42, some (33, false), .fa 3 (.s 4)⟩,
    ⟨some 43, some (33, false), .ld false 1 (.s 42)⟩,
    ⟨some 44, some (33, false), .call 45 [(.s 37), (.s 41), (.s 43)]⟩,
    ⟨some 45, none, .pick (.s 33) (.c (.t (.bool true))) (.s 44)⟩] [[], [0], [1], [2], [3], [4, 3], [5, 3], [6, 3], [3], [8, 3], [9, 3], [10, 3], [3], [12, 3], [7, 11, 13, 3, 3], [3, 14]] [0, 4, 5, 45]) c29_1)
def c29_3 : ACode :=
  (.region false [⟨some 85, none, .mv (.s 0)⟩,
    ⟨some 86, none, .fa 2 (.s 6)⟩,
    ⟨some 87, none, .ld false 1 (.s 86)⟩,
    ⟨some 88, none, .mv (.s 5)⟩,
    ⟨some 89, none, .call 46 [(.s 85), (.s 87), (.s 88)]⟩] [] [])
def c29_4 : ACode :=
  (.cond (.s 84) c29_3 .skip)
def c29_5 : ACode :=
  (.seq (.region true [⟨some 63, none, .mv (.s 7)⟩,
    ⟨some 64, none, .mv (.s 63)⟩,
    ⟨some 65, some (64, true), .mv (.s 0)⟩,
    ⟨some 66, some (64, true), .nilck (.s 65)⟩,
    ⟨some 67, some (64, true), .fa 0 (.s 66)⟩,
    ⟨some 68, some (64, true), .ld true 1 (.s 67)⟩,
    ⟨some 69, some (64, true), .mv (.s 0)⟩,
    ⟨some 70, some (64, true), .nilck (.s 69)⟩,
    ⟨some 71, some (64, true), .fa 3 (.s 70)⟩,
    ⟨some 72, some (64, true), .ld false 1 (.s 71)⟩,
    ⟨some 73, some (64, true), .fa 1 (.s 6)⟩,
    ⟨some 74, some (64, true), .ld false 1 (.s 73)⟩,
    ⟨some 75, some (64, true), .call 45 [(.s 68), (.s 72), (.s 74)]⟩,
    ⟨some 76, none, .pick (.s 64) (.s 75) (.c (.t (.bool false)))⟩,
    ⟨some 77, none, .mv (.s 76)⟩,
    ⟨some 78, some (77, true), .mv (.s 0)⟩,
    ⟨some 79, some (77, true), .fa 2 (.s 4)⟩,
    ⟨some 80, some (77, true), .ld false 1 (.s 79)⟩,
    ⟨some 81, some (77, true), .mv (.s 5)⟩,
    ⟨some 82, some (77, true), .build [.t (.str []), .t (.str [])] [(0, 1, (.s 80)), (1, 1, (.s 81))]⟩,
    ⟨some 83, some (77, true), .call 48 [(.s 78), (.s 82)]⟩,
    ⟨some 84, none, .pick (.s 77) (.s 83) (.c (.t (.bool false)))⟩] [[], [0], [1], [2, 1], [3, 1], [4, 1], [1], [6, 1], [7, 1], [8, 1], [1], [10, 1], [5, 9, 11, 1, 1], [1, 12], [13, 12], [14], [14], [16, 14], [14], [17, 18, 14], [15, 19, 14, 14], [14, 20]] [0, 5, 6, 84]) c29_4)
def c29_6 : ACode :=
  (.seq (.region true [⟨some 54, none, .mv (.s 0)⟩,
    ⟨some 55, none, .nilck (.s 54)⟩,
    ⟨some 56, none, .fa 1 (.s 55)⟩,
    ⟨some 57, none, .ld true 2 (.s 56)⟩,
    ⟨some 58, none, .fa 2 (.s 4)⟩,
    ⟨some 59, none, .ld false 1 (.s 58)⟩,
    ⟨some 60, none, .call 47 [(.s 57), (.s 59)]⟩,
    ⟨some 53, none, .mv (.s 60)⟩,
    ⟨some 61, none, .ext (.s 53) 0⟩,
    ⟨some 62, none, .ext (.s 53) 1⟩,
    ⟨some 6, none, .alloc [.t (.str []), .t (.str []), .nils]⟩,
    ⟨none, none, .st 3 (.s 6) (.s 61)⟩,
    ⟨some 7, none, .mv (.s 62)⟩] [[], [0], [1], [2], [], [4], [3, 5], [6], [7], [7], [], [10, 8, 6, 0, 1, 2, 3, 4, 5, 6, 7, 8, 10], [9, 11, 0, 1, 2, 3, 4, 5, 6, 7, 8, 9, 10, 11]] [0, 4, 5, 6, 7]) c29_5)
def c29_7 : ACode :=
  (.region false [⟨some 25, none, .mv (.s 0)⟩,
    ⟨some 26, none, .ld true 8 (.s 3)⟩,
    ⟨some 27, none, .call 49 [(.s 25), (.s 26)]⟩] [] [])
def c29_8 : ACode :=
  (.cond (.s 51) c29_6 c29_7)
def c29_9 : ACode :=
  (.seq (.region false [⟨some 52, none, .bin .eql (.s 24) (.c (.t (.int .i64 2)))⟩,
    ⟨some 51, none, .mv (.s 52)⟩] [] [0, 3, 4, 5, 51]) c29_8)
def c29_10 : ACode :=
  (.cond (.s 28) c29_2 c29_9)
def c29_11 : ACode :=
  (.seq (.region false [⟨some 29, none, .bin .eql (.s 24) (.c (.t (.int .i64 3)))⟩,
    ⟨some 28, none, .mv (.s 29)⟩] [] [0, 3, 4, 5, 24, 28]) c29_10)
def c29_12 : ACode :=
  (.block 0 c29_11)
def c29_13 : ACode :=
  (.seq (.region false [⟨some 23, none, .fa 0 (.s 4)⟩,
    ⟨some 24, none, .ld false 1 (.s 23)⟩] [] [0, 3, 4, 5, 24]) c29_12)
def c29_14 : ACode :=
  (.seq (.region false [⟨some 18, none, .fa 5 (.s 4)⟩,
    ⟨some 19, none, .ld false 1 (.s 18)⟩,
    ⟨some 20, none, .fa 7 (.s 3)⟩,
    ⟨some 21, none, .ld false 1 (.s 20)⟩,
    ⟨some 22, none, .call 44 [(.s 19), (.s 21)]⟩,
    ⟨some 5, none, .mv (.s 22)⟩] [] [0, 3, 4, 5]) c29_13)
def c29_15 : ACode :=
  (.cond (.s 17) .ret .skip)
def c29_16 : ACode :=
  (.seq (.seq (.region true [⟨some 10, none, .fa 5 (.s 4)⟩,
    ⟨some 11, none, .ld false 1 (.s 10)⟩,
    ⟨some 12, none, .mv (.s 0)⟩,
    ⟨some 13, none, .nilck (.s 12)⟩,
    ⟨some 14, none, .fa 4 (.s 13)⟩,
    ⟨some 15, none, .ld true 5 (.s 14)⟩,
    ⟨some 16, none, .call 10 [(.s 11), (.s 15)]⟩,
    ⟨some 17, none, .un .not (.s 16)⟩] [[], [0], [], [2], [3], [4], [1, 5], [6]] [0, 3, 4, 17]) c29_15) c29_14)
def c29_17 : ACode :=
  (.seq (.region false [⟨some 8, none, .fa 0 (.s 3)⟩,
    ⟨some 9, none, .ld true 7 (.s 8)⟩,
    ⟨some 4, none, .alloc [.t (.int .i64 0), .t (.str []), .t (.str []), .t (.str []), .nils, .nils, .nils]⟩,
    ⟨none, none, .st 7 (.s 4) (.s 9)⟩] [] [0, 3, 4]) c29_16)
def c29 : ACode :=
  (.seq (.region false [⟨some 3, none, .box 8 (.s 1)⟩] [] [0, 3]) c29_17)
def r29 : List ARes := []
def n29 : Nat := 90
/- 30 supergraph supergraphref08.SameSels -/
def c30_0 : ACode :=
  (.seq (.region false [⟨some 4, none, .cst (.t (.bool true))⟩] [] [4]) .ret)
def c30_1 : ACode :=
  (.region false [⟨some 17, none, .mv (.s 5)⟩,
    ⟨some 18, none, .bin .add (.s 17) (.c (.t (.int .i64 1)))⟩,
    ⟨some 5, none, .mv (.s 18)⟩] [] [0, 1, 5])
def c30_2 : ACode :=
  (.seq (.region false [⟨some 4, none, .cst (.t (.bool false))⟩] [] [4]) .ret)
def c30_3 : ACode :=
  (.cond (.s 76) c30_2 .skip)
def c30_4 : ACode :=
  (.seq (.region false [⟨some 27, none, .fa 0 (.s 6)⟩,
    ⟨some 28, none, .ld false 1 (.s 27)⟩,
    ⟨some 29, none, .fa 0 (.s 7)⟩,
    ⟨some 30, none, .ld false 1 (.s 29)⟩,
    ⟨some 31, none, .bin .neq (.s 28) (.s 30)⟩,
    ⟨some 32, none, .mv (.s 31)⟩,
    ⟨some 33, some (32, false), .fa 1 (.s 6)⟩,
    ⟨some 34, some (32, false), .ld false 1 (.s 33)⟩,
    ⟨some 35, some (32, false), .fa 1 (.s 7)⟩,
    ⟨some 36, some (32, false), .ld false 1 (.s 35)⟩,
    ⟨some 37, some (32, false), .bin .neq (.s 34) (.s 36)⟩,
    ⟨some 38, none, .pick (.s 32) (.c (.t (.bool true))) (.s 37)⟩,
    ⟨some 39, none, .mv (.s 38)⟩,
    ⟨some 40, some (39, false), .fa 2 (.s 6)⟩,
    ⟨some 41, some (39, false), .ld false 1 (.s 40)⟩,
    ⟨some 42, some (39, false), .fa 2 (.s 7)⟩,
    ⟨some 43, some (39, false), .ld false 1 (.s 42)⟩,
    ⟨some 44, some (39, false), .bin .neq (.s 41) (.s 43)⟩,
    ⟨some 45, none, .pick (.s 39) (.c (.t (.bool true))) (.s 44)⟩,
    ⟨some 46, none, .mv (.s 45)⟩,
    ⟨some 47, some (46, false), .fa 3 (.s 6)⟩,
    ⟨some 48, some (46, false), .ld false 1 (.s 47)⟩,
    ⟨some 49, some (46, false), .fa 3 (.s 7)⟩,
    ⟨some 50, some (46, false), .ld false 1 (.s 49)⟩,
    ⟨some 51, some (46, false), .bin .neq (.s 48) (.s 50)⟩,
    ⟨some 52, none, .pick (.s 46) (.c (.t (.bool true))) (.s 51)⟩,
    ⟨some 53, none, .mv (.s 52)⟩,
    ⟨some 54, some (53, false), .fa 4 (.s 6)⟩,
    ⟨some 55, some (53, false), .ld false 1 (.s 54)⟩,
    ⟨some 56, some (53, false), .fa 4 (.s 7)⟩,
    ⟨some 57, some (53, false), .ld false 1 (.s 56)⟩,
    ⟨some 58, some (53, false), .call 50 [(.s 55), (.s 57)]⟩,
    ⟨some 59, some (53, false), .un .not (.s 58)⟩,
    ⟨some 60, none, .pick (.s 53) (.c (.t (.bool true))) (.s 59)⟩,
    ⟨some 61, none, .mv (.s 60)⟩,
    ⟨some 62, some (61, false), .fa 5 (.s 6)⟩,
    ⟨some 63, some (61, false), .ld false 1 (.s 62)⟩,
    ⟨some 64, some (61, false), .fa 5 (.s 7)⟩,
    ⟨some 65, some (61, false), .ld false 1 (.s 64)⟩,
    ⟨some 66, some (61, false), .call 51 [(.s 63), (.s 65)]⟩,
    ⟨some 67, some (61, false), .un .not (.s 66)⟩,
    ⟨some 68, none, .pick (.s 61) (.c (.t (.bool true))) (.s 67)⟩,
    ⟨some 69, none, .mv (.s 68)⟩,
    ⟨some 70, some (69, false), .fa 6 (.s 6)⟩,
    ⟨some 71, some (69, false), .ld false 1 (.s 70)⟩,
    ⟨some 72, some (69, false), .fa 6 (.s 7)⟩,
    ⟨some 73, some (69, false), .ld false 1 (.s 72)⟩,
    ⟨some 74, some (69, false), .call 30 [(.s 71), (.s 73)]⟩,
    ⟨some 75, some (69, false), .un .not (.s 74)⟩,
    ⟨some 76, none, .pick (.s 69) (.c (.t (.bool true))) (.s 75)⟩] [] [0, 1, 5, 76]) c30_3)
def c30_5 : ACode :=
  (.seq (.region true [⟨some 19, none, .mv (.s 0)⟩,
    ⟨some 20, none, .mv (.s 5)⟩,
    ⟨some 21, none, .ia 7 (.s 19) (.s 20)⟩,
    ⟨some 22, none, .ld true 7 (.s 21)⟩,
    ⟨some 23, none, .mv (.s 1)⟩,
    ⟨some 24, none, .mv (.s 5)⟩,
    ⟨some 25, none, .ia 7 (.s 23) (.s 24)⟩,
    ⟨some 26, none, .ld true 7 (.s 25)⟩,
    ⟨some 6, none, .alloc [.t (.int .i64 0), .t (.str []), .t (.str []), .t (.str []), .nils, .nils, .nils]⟩,
    ⟨some 7, none, .alloc [.t (.int .i64 0), .t (.str []), .t (.str []), .t (.str []), .nils, .nils, .nils]⟩,
    ⟨none, none, .st 7 (.s 6) (.s 22)⟩,
    ⟨none, none, .st 7 (.s 7) (.s 26)⟩] [[], [], [0, 1], [2], [], [], [4, 5], [6], [], [], [8, 3, 0, 1, 2, 3, 8, 9], [9, 7, 10, 0, 1, 2, 3, 4, 5, 6, 7, 8, 9, 10]] [0, 1, 5, 6, 7]) c30_4)
def c30_6 : ACode :=
  (.seq (.block 1 c30_5) c30_1)
def c30_7 : ACode :=
  (.cond (.s 16) .skip (.exit 0))
def c30_8 : ACode :=
  (.seq (.seq (.region false [⟨some 13, none, .mv (.s 5)⟩,
    ⟨some 14, none, .mv (.s 0)⟩,
    ⟨some 15, none, .len (.s 14)⟩,
    ⟨some 16, none, .bin .lss (.s 13) (.s 15)⟩] [] [0, 1, 5, 16]) c30_7) c30_6)
def c30_9 : ACode :=
  (.loop c30_8)
def c30_10 : ACode :=
  (.block 0 c30_9)
def c30_11 : ACode :=
  (.seq (.seq (.region false [⟨some 5, none, .cst (.t (.int .i64 0))⟩] [] [0, 1, 5]) c30_10) c30_0)
def c30_12 : ACode :=
  (.seq (.region false [⟨some 4, none, .cst (.t (.bool false))⟩] [] [4]) .ret)
def c30_13 : ACode :=
  (.cond (.s 12) c30_12 .skip)
def c30_14 : ACode :=
  (.seq (.seq (.region false [⟨some 8, none, .mv (.s 0)⟩,
    ⟨some 9, none, .len (.s 8)⟩,
    ⟨some 10, none, .mv (.s 1)⟩,
    ⟨some 11, none, .len (.s 10)⟩,
    ⟨some 12, none, .bin .neq (.s 9) (.s 11)⟩] [] [0, 1, 12]) c30_13) c30_11)
def c30 : ACode :=
  (.seq (.region false [⟨some 4, none, .cst (.t (.bool false))⟩] [] [0, 1]) c30_14)
def r30 : List ARes := [.tmp 4]
def n30 : Nat := 77
/- 31 slices.ContainsFunc[[]supergraph collect.Entry,supergraph collect.Entry] -/
def c31_0 : ACode :=
  (.seq (.region false [⟨some 5, none, .mv (.s 0)⟩,
    ⟨some 6, none, .mv (.s 1)⟩,
    ⟨some 7, none, .call 52 [(.s 5), (.s 6)]⟩,
    ⟨some 8, none, .bin .geq (.s 7) (.c (.t (.int .i64 0)))⟩,
    ⟨some 4, none, .mv (.s 8)⟩] [] [4]) .ret)
def c31 : ACode :=
  (.seq (.region false [⟨some 4, none, .cst (.t (.bool false))⟩] [] [0, 1]) c31_0)
def r31 : List ARes := [.tmp 4]
def n31 : Nat := 9
/- 32 supergraph collect.Label 1 -/
def c32_0 : ACode :=
  (.seq (.region false [⟨some 3, none, .fa 7 (.s 1)⟩,
    ⟨some 4, none, .ld false 1 (.s 3)⟩,
    ⟨some 5, none, .bin .eql (.s 4) (.c (.t (.str [])))⟩,
    ⟨some 2, none, .mv (.s 5)⟩] [] [2]) .ret)
def c32 : ACode :=
  (.seq (.region false [⟨some 1, none, .box 8 (.s 0)⟩,
    ⟨some 2, none, .cst (.t (.bool false))⟩] [] [1]) c32_0)
def r32 : List ARes := [.tmp 2]
def n32 : Nat := 6
/- 33 slices.Contains[[]string,string] -/
def c33_0 : ACode :=
  (.seq (.region false [⟨some 5, none, .mv (.s 0)⟩,
    ⟨some 6, none, .mv (.s 1)⟩,
    ⟨some 7, none, .call 53 [(.s 5), (.s 6)]⟩,
    ⟨some 8, none, .bin .geq (.s 7) (.c (.t (.int .i64 0)))⟩,
    ⟨some 4, none, .mv (.s 8)⟩] [] [4]) .ret)
def c33 : ACode :=
  (.seq (.region false [⟨some 4, none, .cst (.t (.bool false))⟩] [] [0, 1]) c33_0)
def r33 : List ARes := [.tmp 4]
def n33 : Nat := 9
/- 34 supergraph abstract.Possible -/
def c34_0 : ACode :=
  (.seq (.region false [⟨some 112, none, .mv (.s 15)⟩,
    ⟨some 4, none, .mv (.s 112)⟩] [] [4]) .ret)
def c34_1 : ACode :=
  (.region false [⟨some 111, none, .bin .add (.s 95) (.c (.t (.int .i64 1)))⟩,
    ⟨some 95, none, .mv (.s 111)⟩] [] [7, 15, 93, 94, 95])
def c34_2 : ACode :=
  (.region false [⟨some 108, none, .mv (.s 7)⟩,
    ⟨some 109, none, .fa 1 (.s 17)⟩,
    ⟨some 110, none, .ld false 1 (.s 109)⟩,
    ⟨none, none, .nw (.mdel [.str] false (.s 108) (.s 110))⟩] [] [7, 15, 93, 94, 95])
def c34_3 : ACode :=
  (.seq (.region false [⟨some 103, none, .mv (.s 15)⟩,
    ⟨some 104, none, .fa 1 (.s 17)⟩,
    ⟨some 105, none, .ld false 1 (.s 104)⟩,
    ⟨some 106, none, .bsl false 1 [[.str []]] [(0, (.s 105))]⟩,
    ⟨some 107, none, .app 1 16 (.s 103) (.s 106)⟩,
    ⟨some 15, none, .mv (.s 107)⟩] [] [7, 15, 17, 93, 94, 95]) c34_2)
def c34_4 : ACode :=
  (.cond (.s 102) c34_3 .skip)
def c34_5 : ACode :=
  (.seq (.region false [⟨some 99, none, .mv (.s 7)⟩,
    ⟨some 100, none, .fa 1 (.s 17)⟩,
    ⟨some 101, none, .ld false 1 (.s 100)⟩,
    ⟨some 102, none, .nw (.lookup [.str] false (.t (.bool false)) false (.s 99) (.s 101))⟩] [] [7, 15, 17, 93, 94, 95, 102]) c34_4)
def c34_6 : ACode :=
  (.seq (.region false [⟨some 97, none, .ia 7 (.s 93) (.s 95)⟩,
    ⟨some 98, none, .ld true 7 (.s 97)⟩,
    ⟨some 17, none, .alloc [.t (.int .i64 0), .t (.str []), .nils, .nils, .nils, .nils, .nils]⟩,
    ⟨none, none, .st 7 (.s 17) (.s 98)⟩] [] [7, 15, 17, 93, 94, 95]) c34_5)
def c34_7 : ACode :=
  (.seq (.block 8 c34_6) c34_1)
def c34_8 : ACode :=
  (.seq (.cond (.s 96) .skip (.exit 7)) c34_7)
def c34_9 : ACode :=
  (.seq (.region false [⟨some 96, none, .bin .lss (.s 95) (.s 94)⟩] [] [7, 15, 93, 94, 95, 96]) c34_8)
def c34_10 : ACode :=
  (.loop c34_9)
def c34_11 : ACode :=
  (.block 7 c34_10)
def c34_12 : ACode :=
  (.seq (.seq (.region false [⟨some 92, none, .fa 0 (.s 2)⟩,
    ⟨some 93, none, .ld false 1 (.s 92)⟩,
    ⟨some 94, none, .len (.s 93)⟩,
    ⟨some 95, none, .cst (.t (.int .i64 0))⟩] [] [7, 15, 93, 94, 95]) c34_11) c34_0)
def c34_13 : ACode :=
  (.seq (.region false [⟨some 15, none, .cst (.nils)⟩] [] [2, 7, 15]) c34_12)
def c34_14 : ACode :=
  (.region false [⟨some 90, none, .mv (.s 7)⟩,
    ⟨some 91, none, .mv (.s 12)⟩,
    ⟨none, none, .nw (.mdel [.str] false (.s 90) (.s 91))⟩] [] [1, 2, 5, 7, 61])
def c34_15 : ACode :=
  (.cond (.s 89) c34_14 .skip)
def c34_16 : ACode :=
  (.seq (.region false [⟨some 72, none, .mv (.s 14)⟩,
    ⟨some 73, none, .un .not (.s 72)⟩,
    ⟨some 74, none, .mv (.s 73)⟩,
    ⟨some 75, some (74, false), .fa 0 (.s 13)⟩,
    ⟨some 76, some (74, false), .ld false 1 (.s 75)⟩,
    ⟨some 77, some (74, false), .bin .neq (.s 76) (.c (.t (.int .i64 1)))⟩,
    ⟨some 78, none, .pick (.s 74) (.c (.t (.bool true))) (.s 77)⟩,
    ⟨some 79, none, .mv (.s 78)⟩,
    ⟨some 80, some (79, false), .fa 0 (.s 5)⟩,
    ⟨some 81, some (79, false), .ld false 1 (.s 80)⟩,
    ⟨some 82, some (79, false), .bin .eql (.s 81) (.c (.t (.int .i64 2)))⟩,
    ⟨some 83, some (79, false), .mv (.s 82)⟩,
    ⟨some 84, some (83, true), .ld true 7 (.s 13)⟩,
    ⟨some 85, some (83, true), .mv (.s 1)⟩,
    ⟨some 86, some (83, true), .call 55 [(.s 84), (.s 85)]⟩,
    ⟨some 87, some (83, true), .un .not (.s 86)⟩,
    ⟨some 88, some (79, false), .pick (.s 83) (.s 87) (.c (.t (.bool false)))⟩,
    ⟨some 89, none, .pick (.s 79) (.c (.t (.bool true))) (.s 88)⟩] [] [1, 2, 5, 7, 12, 61, 89]) c34_15)
def c34_17 : ACode :=
  (.seq (.region false [⟨some 67, none, .ld true 1 (.s 2)⟩,
    ⟨some 68, none, .mv (.s 12)⟩,
    ⟨some 69, none, .call 54 [(.s 67), (.s 68)]⟩,
    ⟨some 66, none, .mv (.s 69)⟩,
    ⟨some 70, none, .ext (.s 66) 0⟩,
    ⟨some 71, none, .ext (.s 66) 1⟩,
    ⟨some 13, none, .alloc [.t (.int .i64 0), .t (.str []), .nils, .nils, .nils, .nils, .nils]⟩,
    ⟨none, none, .st 7 (.s 13) (.s 70)⟩,
    ⟨some 14, none, .mv (.s 71)⟩] [] [1, 2, 5, 7, 12, 13, 14, 61]) c34_16)
def c34_18 : ACode :=
  (.seq (.region false [⟨some 64, none, .nw (.ient (.s 61))⟩,
    ⟨some 65, none, .ext (.s 64) 0⟩,
    ⟨some 12, none, .mv (.s 65)⟩] [] [1, 2, 5, 7, 12, 61]) c34_17)
def c34_19 : ACode :=
  (.block 6 c34_18)
def c34_20 : ACode :=
  (.seq (.cond (.s 63) .skip (.exit 5)) c34_19)
def c34_21 : ACode :=
  (.seq (.region false [⟨some 62, none, .nw (.nxt (.s 61))⟩,
    ⟨some 63, none, .ext (.s 62) 0⟩] [] [1, 2, 5, 7, 61, 63]) c34_20)
def c34_22 : ACode :=
  (.loop c34_21)
def c34_23 : ACode :=
  (.block 5 c34_22)
def c34_24 : ACode :=
  (.seq (.seq (.region false [⟨some 60, none, .mv (.s 7)⟩,
    ⟨some 61, none, .mrange (.s 60)⟩] [] [1, 2, 5, 7, 61]) c34_23) c34_13)
def c34_25 : ACode :=
  (.region false [⟨some 29, none, .mv (.s 7)⟩,
    ⟨some 30, none, .mv (.s 1)⟩,
    ⟨none, none, .nw (.mupd [.str] false (.s 29) (.s 30) (.c (.t (.bool true))))⟩] [] [1, 2, 5, 7])
def c34_26 : ACode :=
  (.region false [⟨some 46, none, .bin .add (.s 36) (.c (.t (.int .i64 1)))⟩,
    ⟨some 36, none, .mv (.s 46)⟩] [] [1, 2, 5, 7, 34, 35, 36])
def c34_27 : ACode :=
  (.region false [⟨some 43, none, .mv (.s 7)⟩,
    ⟨some 44, none, .fa 1 (.s 9)⟩,
    ⟨some 45, none, .ld false 1 (.s 44)⟩,
    ⟨none, none, .nw (.mupd [.str] false (.s 43) (.s 45) (.c (.t (.bool true))))⟩] [] [1, 2, 5, 7, 34, 35, 36])
def c34_28 : ACode :=
  (.cond (.s 42) c34_27 .skip)
def c34_29 : ACode :=
  (.seq (.region false [⟨some 40, none, .ld true 7 (.s 9)⟩,
    ⟨some 41, none, .mv (.s 1)⟩,
    ⟨some 42, none, .call 55 [(.s 40), (.s 41)]⟩] [] [1, 2, 5, 7, 9, 34, 35, 36, 42]) c34_28)
def c34_30 : ACode :=
  (.seq (.region false [⟨some 38, none, .ia 7 (.s 34) (.s 36)⟩,
    ⟨some 39, none, .ld true 7 (.s 38)⟩,
    ⟨some 9, none, .alloc [.t (.int .i64 0), .t (.str []), .nils, .nils, .nils, .nils, .nils]⟩,
    ⟨none, none, .st 7 (.s 9) (.s 39)⟩] [] [1, 2, 5, 7, 9, 34, 35, 36]) c34_29)
def c34_31 : ACode :=
  (.seq (.block 2 c34_30) c34_26)
def c34_32 : ACode :=
  (.seq (.cond (.s 37) .skip (.exit 1)) c34_31)
def c34_33 : ACode :=
  (.seq (.region false [⟨some 37, none, .bin .lss (.s 36) (.s 35)⟩] [] [1, 2, 5, 7, 34, 35, 36, 37]) c34_32)
def c34_34 : ACode :=
  (.loop c34_33)
def c34_35 : ACode :=
  (.block 1 c34_34)
def c34_36 : ACode :=
  (.seq (.region false [⟨some 33, none, .fa 0 (.s 2)⟩,
    ⟨some 34, none, .ld false 1 (.s 33)⟩,
    ⟨some 35, none, .len (.s 34)⟩,
    ⟨some 36, none, .cst (.t (.int .i64 0))⟩] [] [1, 2, 5, 7, 34, 35, 36]) c34_35)
def c34_37 : ACode :=
  (.region false [⟨some 59, none, .bin .add (.s 52) (.c (.t (.int .i64 1)))⟩,
    ⟨some 52, none, .mv (.s 59)⟩] [] [1, 2, 5, 7, 50, 51, 52])
def c34_38 : ACode :=
  (.region false [⟨some 56, none, .mv (.s 7)⟩,
    ⟨some 57, none, .fa 0 (.s 11)⟩,
    ⟨some 58, none, .ld false 1 (.s 57)⟩,
    ⟨none, none, .nw (.mupd [.str] false (.s 56) (.s 58) (.c (.t (.bool true))))⟩] [] [1, 2, 5, 7, 50, 51, 52])
def c34_39 : ACode :=
  (.seq (.region false [⟨some 54, none, .ia 2 (.s 50) (.s 52)⟩,
    ⟨some 55, none, .ld true 2 (.s 54)⟩,
    ⟨some 11, none, .alloc [.t (.str []), .nils]⟩,
    ⟨none, none, .st 2 (.s 11) (.s 55)⟩] [] [1, 2, 5, 7, 11, 50, 51, 52]) c34_38)
def c34_40 : ACode :=
  (.seq (.block 4 c34_39) c34_37)
def c34_41 : ACode :=
  (.seq (.cond (.s 53) .skip (.exit 3)) c34_40)
def c34_42 : ACode :=
  (.seq (.region false [⟨some 53, none, .bin .lss (.s 52) (.s 51)⟩] [] [1, 2, 5, 7, 50, 51, 52, 53]) c34_41)
def c34_43 : ACode :=
  (.loop c34_42)
def c34_44 : ACode :=
  (.block 3 c34_43)
def c34_45 : ACode :=
  (.seq (.region false [⟨some 49, none, .fa 5 (.s 5)⟩,
    ⟨some 50, none, .ld false 1 (.s 49)⟩,
    ⟨some 51, none, .len (.s 50)⟩,
    ⟨some 52, none, .cst (.t (.int .i64 0))⟩] [] [1, 2, 5, 7, 50, 51, 52]) c34_44)
def c34_46 : ACode :=
  (.cond (.s 47) c34_45 .skip)
def c34_47 : ACode :=
  (.seq (.region false [⟨some 48, none, .bin .eql (.s 26) (.c (.t (.int .i64 3)))⟩,
    ⟨some 47, none, .mv (.s 48)⟩] [] [1, 2, 5, 7, 47]) c34_46)
def c34_48 : ACode :=
  (.cond (.s 31) c34_36 c34_47)
def c34_49 : ACode :=
  (.seq (.region false [⟨some 32, none, .bin .eql (.s 26) (.c (.t (.int .i64 2)))⟩,
    ⟨some 31, none, .mv (.s 32)⟩] [] [1, 2, 5, 7, 26, 31]) c34_48)
def c34_50 : ACode :=
  (.cond (.s 27) c34_25 c34_49)
def c34_51 : ACode :=
  (.seq (.region false [⟨some 28, none, .bin .eql (.s 26) (.c (.t (.int .i64 1)))⟩,
    ⟨some 27, none, .mv (.s 28)⟩] [] [1, 2, 5, 7, 26, 27]) c34_50)
def c34_52 : ACode :=
  (.block 0 c34_51)
def c34_53 : ACode :=
  (.seq (.seq (.region false [⟨some 25, none, .fa 0 (.s 5)⟩,
    ⟨some 26, none, .ld false 1 (.s 25)⟩] [] [1, 2, 5, 7, 26]) c34_52) c34_24)
def c34_54 : ACode :=
  (.seq (.region false [⟨some 24, none, .mkmap false false⟩,
    ⟨some 7, none, .mv (.s 24)⟩] [] [1, 2, 5, 7]) c34_53)
def c34_55 : ACode :=
  (.seq (.region false [⟨some 19, none, .ld true 1 (.s 2)⟩,
    ⟨some 20, none, .mv (.s 1)⟩,
    ⟨some 21, none, .call 54 [(.s 19), (.s 20)]⟩,
    ⟨some 18, none, .mv (.s 21)⟩,
    ⟨some 22, none, .ext (.s 18) 0⟩,
    ⟨some 23, none, .ext (.s 18) 1⟩,
    ⟨some 5, none, .alloc [.t (.int .i64 0), .t (.str []), .nils, .nils, .nils, .nils, .nils]⟩,
    ⟨none, none, .st 7 (.s 5) (.s 22)⟩,
    ⟨some 6, none, .mv (.s 23)⟩] [] [1, 2, 5]) c34_54)
def c34 : ACode :=
  (.seq (.region false [⟨some 2, none, .box 1 (.s 0)⟩,
    ⟨some 4, none, .cst (.nils)⟩] [] [1, 2]) c34_55)
def r34 : List ARes := [.tmp 4]
def n34 : Nat := 113
/- 35 supergraph collect.argument -/
def c35_0 : ACode :=
  (.seq (.region false [⟨some 22, none, .build [.t (.int .i64 0), .t (.int .i64 0), .t (.str []), .nils, .nils] []⟩,
    ⟨none, none, .st 5 (.s 4) (.s 22)⟩,
    ⟨some 5, none, .cst (.t (.bool false))⟩] [] [4, 5]) .ret)
def c35_1 : ACode :=
  (.region false [⟨some 21, none, .bin .add (.s 11) (.c (.t (.int .i64 1)))⟩,
    ⟨some 11, none, .mv (.s 21)⟩] [] [1, 4, 9, 10, 11])
def c35_2 : ACode :=
  (.seq (.region false [⟨some 19, none, .fa 1 (.s 7)⟩,
    ⟨some 20, none, .ld true 5 (.s 19)⟩,
    ⟨none, none, .st 5 (.s 4) (.s 20)⟩,
    ⟨some 5, none, .cst (.t (.bool true))⟩] [] [4, 5]) .ret)
def c35_3 : ACode :=
  (.cond (.s 18) c35_2 .skip)
def c35_4 : ACode :=
  (.seq (.region false [⟨some 15, none, .fa 0 (.s 7)⟩,
    ⟨some 16, none, .ld false 1 (.s 15)⟩,
    ⟨some 17, none, .mv (.s 1)⟩,
    ⟨some 18, none, .bin .eql (.s 16) (.s 17)⟩] [] [1, 4, 7, 9, 10, 11, 18]) c35_3)
def c35_5 : ACode :=
  (.seq (.region false [⟨some 13, none, .ia 6 (.s 9) (.s 11)⟩,
    ⟨some 14, none, .ld true 6 (.s 13)⟩,
    ⟨some 7, none, .alloc [.t (.str []), .t (.int .i64 0), .t (.int .i64 0), .t (.str []), .nils, .nils]⟩,
    ⟨none, none, .st 6 (.s 7) (.s 14)⟩] [] [1, 4, 7, 9, 10, 11]) c35_4)
def c35_6 : ACode :=
  (.seq (.block 1 c35_5) c35_1)
def c35_7 : ACode :=
  (.seq (.cond (.s 12) .skip (.exit 0)) c35_6)
def c35_8 : ACode :=
  (.seq (.region false [⟨some 12, none, .bin .lss (.s 11) (.s 10)⟩] [] [1, 4, 9, 10, 11, 12]) c35_7)
def c35_9 : ACode :=
  (.loop c35_8)
def c35_10 : ACode :=
  (.block 0 c35_9)
def c35_11 : ACode :=
  (.seq (.seq (.region false [⟨some 8, none, .fa 1 (.s 2)⟩,
    ⟨some 9, none, .ld false 1 (.s 8)⟩,
    ⟨some 10, none, .len (.s 9)⟩,
    ⟨some 11, none, .cst (.t (.int .i64 0))⟩] [] [1, 4, 9, 10, 11]) c35_10) c35_0)
def c35 : ACode :=
  (.seq (.region false [⟨some 2, none, .box 2 (.s 0)⟩,
    ⟨some 4, none, .alloc [.t (.int .i64 0), .t (.int .i64 0), .t (.str []), .nils, .nils]⟩,
    ⟨some 5, none, .cst (.t (.bool false))⟩] [] [1, 2, 4]) c35_11)
def r35 : List ARes := [.cell 4 true 5, .tmp 5]
def n35 : Nat := 23
/- 36 supergraph value.Get -/
def c36_0 : ACode :=
  (.seq (.region false [⟨some 26, none, .fa 3 (.s 2)⟩,
    ⟨some 27, none, .ld false 1 (.s 26)⟩,
    ⟨some 28, none, .mv (.s 6)⟩,
    ⟨some 29, none, .ia 5 (.s 27) (.s 28)⟩,
    ⟨some 30, none, .ld true 5 (.s 29)⟩,
    ⟨some 31, none, .call 56 [(.s 30)]⟩,
    ⟨none, none, .st 5 (.s 4) (.s 31)⟩,
    ⟨some 5, none, .cst (.t (.bool true))⟩] [] [4, 5]) .ret)
def c36_1 : ACode :=
  (.seq (.region false [⟨some 25, none, .build [.t (.int .i64 0), .t (.int .i64 0), .t (.str []), .nils, .nils] []⟩,
    ⟨none, none, .st 5 (.s 4) (.s 25)⟩,
    ⟨some 5, none, .cst (.t (.bool false))⟩] [] [4, 5]) .ret)
def c36_2 : ACode :=
  (.cond (.s 24) c36_1 .skip)
def c36_3 : ACode :=
  (.seq (.seq (.region false [⟨some 11, none, .fa 0 (.s 2)⟩,
    ⟨some 12, none, .ld false 1 (.s 11)⟩,
    ⟨some 13, none, .bin .neq (.s 12) (.c (.t (.int .i64 6)))⟩,
    ⟨some 14, none, .mv (.s 13)⟩,
    ⟨some 15, some (14, false), .mv (.s 6)⟩,
    ⟨some 16, some (14, false), .bin .lss (.s 15) (.c (.t (.int .i64 0)))⟩,
    ⟨some 17, none, .pick (.s 14) (.c (.t (.bool true))) (.s 16)⟩,
    ⟨some 18, none, .mv (.s 17)⟩,
    ⟨some 19, some (18, false), .mv (.s 6)⟩,
    ⟨some 20, some (18, false), .fa 3 (.s 2)⟩,
    ⟨some 21, some (18, false), .ld false 1 (.s 20)⟩,
    ⟨some 22, some (18, false), .len (.s 21)⟩,
    ⟨some 23, some (18, false), .bin .geq (.s 19) (.s 22)⟩,
    ⟨some 24, none, .pick (.s 18) (.c (.t (.bool true))) (.s 23)⟩] [] [2, 4, 6, 24]) c36_2) c36_0)
def c36_4 : ACode :=
  (.seq (.region false [⟨some 7, none, .fa 4 (.s 2)⟩,
    ⟨some 8, none, .ld false 1 (.s 7)⟩,
    ⟨some 9, none, .mv (.s 1)⟩,
    ⟨some 10, none, .call 53 [(.s 8), (.s 9)]⟩,
    ⟨some 6, none, .mv (.s 10)⟩] [] [2, 4, 6]) c36_3)
def c36 : ACode :=
  (.seq (.region false [⟨some 2, none, .box 5 (.s 0)⟩,
    ⟨some 4, none, .alloc [.t (.int .i64 0), .t (.int .i64 0), .t (.str []), .nils, .nils]⟩,
    ⟨some 5, none, .cst (.t (.bool false))⟩] [] [1, 2, 4]) c36_4)
def r36 : List ARes := [.cell 4 true 5, .tmp 5]
def n36 : Nat := 32
/- 37 supergraph supergraphref18.argument -/
def c37_0 : ACode :=
  (.seq (.region false [⟨some 28, none, .build [.t (.int .i64 0), .t (.int .i64 0), .t (.str []), .nils, .nils] []⟩,
    ⟨none, none, .st 5 (.s 4) (.s 28)⟩,
    ⟨some 5, none, .cst (.t (.bool false))⟩] [] [4, 5]) .ret)
def c37_1 : ACode :=
  (.region false [⟨some 12, none, .mv (.s 6)⟩,
    ⟨some 13, none, .bin .add (.s 12) (.c (.t (.int .i64 1)))⟩,
    ⟨some 6, none, .mv (.s 13)⟩] [] [1, 2, 4, 6])
def c37_2 : ACode :=
  (.seq (.region false [⟨some 22, none, .fa 1 (.s 2)⟩,
    ⟨some 23, none, .ld false 1 (.s 22)⟩,
    ⟨some 24, none, .mv (.s 6)⟩,
    ⟨some 25, none, .ia 6 (.s 23) (.s 24)⟩,
    ⟨some 26, none, .fa 1 (.s 25)⟩,
    ⟨some 27, none, .ld true 5 (.s 26)⟩,
    ⟨none, none, .st 5 (.s 4) (.s 27)⟩,
    ⟨some 5, none, .cst (.t (.bool true))⟩] [] [4, 5]) .ret)
def c37_3 : ACode :=
  (.cond (.s 21) c37_2 .skip)
def c37_4 : ACode :=
  (.seq (.region false [⟨some 14, none, .fa 1 (.s 2)⟩,
    ⟨some 15, none, .ld false 1 (.s 14)⟩,
    ⟨some 16, none, .mv (.s 6)⟩,
    ⟨some 17, none, .ia 6 (.s 15) (.s 16)⟩,
    ⟨some 18, none, .fa 0 (.s 17)⟩,
    ⟨some 19, none, .ld false 1 (.s 18)⟩,
    ⟨some 20, none, .mv (.s 1)⟩,
    ⟨some 21, none, .bin .eql (.s 19) (.s 20)⟩] [] [1, 2, 4, 6, 21]) c37_3)
def c37_5 : ACode :=
  (.seq (.block 1 c37_4) c37_1)
def c37_6 : ACode :=
  (.cond (.s 11) .skip (.exit 0))
def c37_7 : ACode :=
  (.seq (.seq (.region false [⟨some 7, none, .mv (.s 6)⟩,
    ⟨some 8, none, .fa 1 (.s 2)⟩,
    ⟨some 9, none, .ld false 1 (.s 8)⟩,
    ⟨some 10, none, .len (.s 9)⟩,
    ⟨some 11, none, .bin .lss (.s 7) (.s 10)⟩] [] [1, 2, 4, 6, 11]) c37_6) c37_5)
def c37_8 : ACode :=
  (.loop c37_7)
def c37_9 : ACode :=
  (.block 0 c37_8)
def c37_10 : ACode :=
  (.seq (.seq (.region false [⟨some 6, none, .cst (.t (.int .i64 0))⟩] [] [1, 2, 4, 6]) c37_9) c37_0)
def c37 : ACode :=
  (.seq (.region false [⟨some 2, none, .box 2 (.s 0)⟩,
    ⟨some 4, none, .alloc [.t (.int .i64 0), .t (.int .i64 0), .t (.str []), .nils, .nils]⟩,
    ⟨some 5, none, .cst (.t (.bool false))⟩] [] [1, 2, 4]) c37_10)
def r37 : List ARes := [.cell 4 true 5, .tmp 5]
def n37 : Nat := 29
/- 38 supergraph supergraphref02.Get -/
def c38_0 : ACode :=
  (.seq (.region false [⟨some 37, none, .build [.t (.int .i64 0), .t (.int .i64 0), .t (.str []), .nils, .nils] []⟩,
    ⟨none, none, .st 5 (.s 4) (.s 37)⟩,
    ⟨some 5, none, .cst (.t (.bool false))⟩] [] [4, 5]) .ret)
def c38_1 : ACode :=
  (.region false [⟨some 16, none, .mv (.s 6)⟩,
    ⟨some 17, none, .bin .add (.s 16) (.c (.t (.int .i64 1)))⟩,
    ⟨some 6, none, .mv (.s 17)⟩] [] [1, 2, 4, 6])
def c38_2 : ACode :=
  (.seq (.region false [⟨some 31, none, .fa 3 (.s 2)⟩,
    ⟨some 32, none, .ld false 1 (.s 31)⟩,
    ⟨some 33, none, .mv (.s 6)⟩,
    ⟨some 34, none, .ia 5 (.s 32) (.s 33)⟩,
    ⟨some 35, none, .ld true 5 (.s 34)⟩,
    ⟨some 36, none, .call 57 [(.s 35)]⟩,
    ⟨none, none, .st 5 (.s 4) (.s 36)⟩,
    ⟨some 5, none, .cst (.t (.bool true))⟩] [] [4, 5]) .ret)
def c38_3 : ACode :=
  (.seq (.region false [⟨some 30, none, .build [.t (.int .i64 0), .t (.int .i64 0), .t (.str []), .nils, .nils] []⟩,
    ⟨none, none, .st 5 (.s 4) (.s 30)⟩,
    ⟨some 5, none, .cst (.t (.bool false))⟩] [] [4, 5]) .ret)
def c38_4 : ACode :=
  (.cond (.s 29) c38_3 .skip)
def c38_5 : ACode :=
  (.seq (.seq (.region false [⟨some 25, none, .mv (.s 6)⟩,
    ⟨some 26, none, .fa 3 (.s 2)⟩,
    ⟨some 27, none, .ld false 1 (.s 26)⟩,
    ⟨some 28, none, .len (.s 27)⟩,
    ⟨some 29, none, .bin .geq (.s 25) (.s 28)⟩] [] [2, 4, 6, 29]) c38_4) c38_2)
def c38_6 : ACode :=
  (.cond (.s 24) c38_5 .skip)
def c38_7 : ACode :=
  (.seq (.region false [⟨some 18, none, .fa 4 (.s 2)⟩,
    ⟨some 19, none, .ld false 1 (.s 18)⟩,
    ⟨some 20, none, .mv (.s 6)⟩,
    ⟨some 21, none, .ia 1 (.s 19) (.s 20)⟩,
    ⟨some 22, none, .ld false 1 (.s 21)⟩,
    ⟨some 23, none, .mv (.s 1)⟩,
    ⟨some 24, none, .bin .eql (.s 22) (.s 23)⟩] [] [1, 2, 4, 6, 24]) c38_6)
def c38_8 : ACode :=
  (.seq (.block 1 c38_7) c38_1)
def c38_9 : ACode :=
  (.cond (.s 15) .skip (.exit 0))
def c38_10 : ACode :=
  (.seq (.seq (.region false [⟨some 11, none, .mv (.s 6)⟩,
    ⟨some 12, none, .fa 4 (.s 2)⟩,
    ⟨some 13, none, .ld false 1 (.s 12)⟩,
    ⟨some 14, none, .len (.s 13)⟩,
    ⟨some 15, none, .bin .lss (.s 11) (.s 14)⟩] [] [1, 2, 4, 6, 15]) c38_9) c38_8)
def c38_11 : ACode :=
  (.loop c38_10)
def c38_12 : ACode :=
  (.block 0 c38_11)
def c38_13 : ACode :=
  (.seq (.seq (.region false [⟨some 6, none, .cst (.t (.int .i64 0))⟩] [] [1, 2, 4, 6]) c38_12) c38_0)
def c38_14 : ACode :=
  (.seq (.region false [⟨some 10, none, .build [.t (.int .i64 0), .t (.int .i64 0), .t (.str []), .nils, .nils] []⟩,
    ⟨none, none, .st 5 (.s 4) (.s 10)⟩,
    ⟨some 5, none, .cst (.t (.bool false))⟩] [] [4, 5]) .ret)
def c38_15 : ACode :=
  (.cond (.s 9) c38_14 .skip)
def c38_16 : ACode :=
  (.seq (.seq (.region false [⟨some 7, none, .fa 0 (.s 2)⟩,
    ⟨some 8, none, .ld false 1 (.s 7)⟩,
    ⟨some 9, none, .bin .neq (.s 8) (.c (.t (.int .i64 6)))⟩] [] [1, 2, 4, 9]) c38_15) c38_13)
def c38 : ACode :=
  (.seq (.region false [⟨some 2, none, .box 5 (.s 0)⟩,
    ⟨some 4, none, .alloc [.t (.int .i64 0), .t (.int .i64 0), .t (.str []), .nils, .nils]⟩,
    ⟨some 5, none, .cst (.t (.bool false))⟩] [] [1, 2, 4]) c38_16)
def r38 : List ARes := [.cell 4 true 5, .tmp 5]
def n38 : Nat := 38
/- 39 supergraph supergraphref08.weigh -/
def c39_0 : ACode :=
  (.seq (.region false [⟨some 73, none, .mv (.s 5)⟩,
    ⟨some 4, none, .mv (.s 73)⟩] [] [4]) .ret)
def c39_1 : ACode :=
  (.region false [⟨some 17, none, .mv (.s 6)⟩,
    ⟨some 18, none, .bin .add (.s 17) (.c (.t (.int .i64 1)))⟩,
    ⟨some 6, none, .mv (.s 18)⟩] [] [0, 1, 5, 6])
def c39_2 : ACode :=
  (.region false [⟨some 62, none, .mv (.s 5)⟩,
    ⟨some 63, none, .mv (.s 0)⟩,
    ⟨some 64, none, .mv (.s 6)⟩,
    ⟨some 65, none, .ia 7 (.s 63) (.s 64)⟩,
    ⟨some 66, none, .fa 6 (.s 65)⟩,
    ⟨some 67, none, .ld false 1 (.s 66)⟩,
    ⟨some 68, none, .mv (.s 1)⟩,
    ⟨some 69, none, .mv (.s 5)⟩,
    ⟨some 70, none, .bin .sub (.s 68) (.s 69)⟩,
    ⟨some 71, none, .call 39 [(.s 67), (.s 70)]⟩,
    ⟨some 72, none, .bin .add (.s 62) (.s 71)⟩,
    ⟨some 5, none, .mv (.s 72)⟩] [] [0, 1, 5, 6])
def c39_3 : ACode :=
  (.region false [⟨some 48, none, .mv (.s 7)⟩,
    ⟨some 49, none, .bin .add (.s 48) (.c (.t (.int .i64 1)))⟩,
    ⟨some 7, none, .mv (.s 49)⟩] [] [0, 1, 5, 6, 7])
def c39_4 : ACode :=
  (.region false [⟨some 50, none, .mv (.s 5)⟩,
    ⟨some 51, none, .mv (.s 0)⟩,
    ⟨some 52, none, .mv (.s 6)⟩,
    ⟨some 53, none, .ia 7 (.s 51) (.s 52)⟩,
    ⟨some 54, none, .fa 4 (.s 53)⟩,
    ⟨some 55, none, .ld false 1 (.s 54)⟩,
    ⟨some 56, none, .mv (.s 7)⟩,
    ⟨some 57, none, .ia 6 (.s 55) (.s 56)⟩,
    ⟨some 58, none, .fa 1 (.s 57)⟩,
    ⟨some 59, none, .ld true 5 (.s 58)⟩,
    ⟨some 60, none, .call 58 [(.s 59)]⟩,
    ⟨some 61, none, .bin .add (.s 50) (.s 60)⟩,
    ⟨some 5, none, .mv (.s 61)⟩] [] [0, 1, 5, 6, 7])
def c39_5 : ACode :=
  (.seq (.block 3 c39_4) c39_3)
def c39_6 : ACode :=
  (.cond (.s 47) .skip (.exit 2))
def c39_7 : ACode :=
  (.seq (.seq (.region false [⟨some 35, none, .mv (.s 7)⟩,
    ⟨some 36, none, .mv (.s 0)⟩,
    ⟨some 37, none, .mv (.s 6)⟩,
    ⟨some 38, none, .ia 7 (.s 36) (.s 37)⟩,
    ⟨some 39, none, .fa 4 (.s 38)⟩,
    ⟨some 40, none, .ld false 1 (.s 39)⟩,
    ⟨some 41, none, .len (.s 40)⟩,
    ⟨some 42, none, .bin .lss (.s 35) (.s 41)⟩,
    ⟨some 43, none, .mv (.s 42)⟩,
    ⟨some 44, some (43, true), .mv (.s 5)⟩,
    ⟨some 45, some (43, true), .mv (.s 1)⟩,
    ⟨some 46, some (43, true), .bin .leq (.s 44) (.s 45)⟩,
    ⟨some 47, none, .pick (.s 43) (.s 46) (.c (.t (.bool false)))⟩] [] [0, 1, 5, 6, 7, 47]) c39_6) c39_5)
def c39_8 : ACode :=
  (.loop c39_7)
def c39_9 : ACode :=
  (.block 2 c39_8)
def c39_10 : ACode :=
  (.seq (.seq (.region false [⟨some 7, none, .cst (.t (.int .i64 0))⟩] [] [0, 1, 5, 6, 7]) c39_9) c39_2)
def c39_11 : ACode :=
  (.seq (.region true [⟨some 19, none, .mv (.s 5)⟩,
    ⟨some 20, none, .bin .add (.s 19) (.c (.t (.int .i64 1)))⟩,
    ⟨some 21, none, .mv (.s 0)⟩,
    ⟨some 22, none, .mv (.s 6)⟩,
    ⟨some 23, none, .ia 7 (.s 21) (.s 22)⟩,
    ⟨some 24, none, .fa 4 (.s 23)⟩,
    ⟨some 25, none, .ld false 1 (.s 24)⟩,
    ⟨some 26, none, .len (.s 25)⟩,
    ⟨some 27, none, .bin .add (.s 20) (.s 26)⟩,
    ⟨some 28, none, .mv (.s 0)⟩,
    ⟨some 29, none, .mv (.s 6)⟩,
    ⟨some 30, none, .ia 7 (.s 28) (.s 29)⟩,
    ⟨some 31, none, .fa 5 (.s 30)⟩,
    ⟨some 32, none, .ld false 1 (.s 31)⟩,
    ⟨some 33, none, .len (.s 32)⟩,
    ⟨some 34, none, .bin .add (.s 27) (.s 33)⟩,
    ⟨some 5, none, .mv (.s 34)⟩] [[], [0], [], [], [2, 3], [4], [5], [6], [1, 7], [], [], [9, 10], [11], [12], [13], [8, 14], [15, 0, 1, 2, 3, 4, 5, 6, 7, 8, 9, 10, 11, 12, 13, 14, 15]] [0, 1, 5, 6]) c39_10)
def c39_12 : ACode :=
  (.seq (.block 1 c39_11) c39_1)
def c39_13 : ACode :=
  (.cond (.s 16) .skip (.exit 0))
def c39_14 : ACode :=
  (.seq (.seq (.region false [⟨some 8, none, .mv (.s 6)⟩,
    ⟨some 9, none, .mv (.s 0)⟩,
    ⟨some 10, none, .len (.s 9)⟩,
    ⟨some 11, none, .bin .lss (.s 8) (.s 10)⟩,
    ⟨some 12, none, .mv (.s 11)⟩,
    ⟨some 13, some (12, true), .mv (.s 5)⟩,
    ⟨some 14, some (12, true), .mv (.s 1)⟩,
    ⟨some 15, some (12, true), .bin .leq (.s 13) (.s 14)⟩,
    ⟨some 16, none, .pick (.s 12) (.s 15) (.c (.t (.bool false)))⟩] [] [0, 1, 5, 6, 16]) c39_13) c39_12)
def c39_15 : ACode :=
  (.loop c39_14)
def c39_16 : ACode :=
  (.block 0 c39_15)
def c39_17 : ACode :=
  (.seq (.seq (.region false [⟨some 6, none, .cst (.t (.int .i64 0))⟩] [] [0, 1, 5, 6]) c39_16) c39_0)
def c39_18 : ACode :=
  (.seq (.region false [⟨some 5, none, .cst (.t (.int .i64 0))⟩] [] [0, 1, 5]) c39_17)
def c39 : ACode :=
  (.seq (.region false [⟨some 4, none, .cst (.t (.int .i64 0))⟩] [] [0, 1]) c39_18)
def r39 : List ARes := [.tmp 4]
def n39 : Nat := 74
/- 40 (*supergraph collect.collector).sels -/
def c40_0 : ACode :=
  (.region false [⟨some 19, none, .bin .add (.s 10) (.c (.t (.int .i64 1)))⟩,
    ⟨some 10, none, .mv (.s 19)⟩] [] [0, 2, 8, 9, 10])
def c40_1 : ACode :=
  (.region false [⟨some 14, none, .mv (.s 0)⟩,
    ⟨some 15, none, .ld true 7 (.s 7)⟩,
    ⟨some 16, none, .mv (.s 2)⟩,
    ⟨some 17, none, .build [.t (.int .i64 0), .t (.str []), .t (.str []), .t (.str []), .nils, .nils, .nils, .t (.str [])] [(0, 7, (.s 15)), (7, 1, (.s 16))]⟩,
    ⟨some 18, none, .call 28 [(.s 14), (.s 17)]⟩] [] [0, 2, 8, 9, 10])
def c40_2 : ACode :=
  (.seq (.region false [⟨some 12, none, .ia 7 (.s 8) (.s 10)⟩,
    ⟨some 13, none, .ld true 7 (.s 12)⟩,
    ⟨some 7, none, .alloc [.t (.int .i64 0), .t (.str []), .t (.str []), .t (.str []), .nils, .nils, .nils]⟩,
    ⟨none, none, .st 7 (.s 7) (.s 13)⟩] [] [0, 2, 7, 8, 9, 10]) c40_1)
def c40_3 : ACode :=
  (.seq (.block 1 c40_2) c40_0)
def c40_4 : ACode :=
  (.seq (.cond (.s 11) .skip (.exit 0)) c40_3)
def c40_5 : ACode :=
  (.seq (.region false [⟨some 11, none, .bin .lss (.s 10) (.s 9)⟩] [] [0, 2, 8, 9, 10, 11]) c40_4)
def c40_6 : ACode :=
  (.loop c40_5)
def c40_7 : ACode :=
  (.block 0 c40_6)
def c40 : ACode :=
  (.seq (.region false [⟨some 8, none, .mv (.s 1)⟩,
    ⟨some 9, none, .len (.s 8)⟩,
    ⟨some 10, none, .cst (.t (.int .i64 0))⟩] [] [0, 2, 8, 9, 10]) c40_7)
def r40 : List ARes := []
def n40 : Nat := 20
/- 41 supergraph collect.label -/
def c41_0 : ACode :=
  (.seq (.region false [⟨some 37, none, .mv (.s 1)⟩,
    ⟨some 4, none, .mv (.s 37)⟩] [] [4]) .ret)
def c41_1 : ACode :=
  (.region false [⟨some 36, none, .bin .add (.s 11) (.c (.t (.int .i64 1)))⟩,
    ⟨some 11, none, .mv (.s 36)⟩] [] [1, 9, 10, 11])
def c41_2 : ACode :=
  (.seq (.region false [⟨some 34, none, .fa 2 (.s 7)⟩,
    ⟨some 35, none, .ld false 1 (.s 34)⟩,
    ⟨some 4, none, .mv (.s 35)⟩] [] [4]) .ret)
def c41_3 : ACode :=
  (.cond (.s 33) c41_2 .skip)
def c41_4 : ACode :=
  (.seq (.region false [⟨some 23, none, .mv (.s 8)⟩,
    ⟨some 24, none, .mv (.s 23)⟩,
    ⟨some 25, some (24, true), .fa 0 (.s 7)⟩,
    ⟨some 26, some (24, true), .ld false 1 (.s 25)⟩,
    ⟨some 27, some (24, true), .bin .eql (.s 26) (.c (.t (.int .i64 3)))⟩,
    ⟨some 28, none, .pick (.s 24) (.s 27) (.c (.t (.bool false)))⟩,
    ⟨some 29, none, .mv (.s 28)⟩,
    ⟨some 30, some (29, true), .fa 2 (.s 7)⟩,
    ⟨some 31, some (29, true), .ld false 1 (.s 30)⟩,
    ⟨some 32, some (29, true), .bin .neq (.s 31) (.c (.t (.str [])))⟩,
    ⟨some 33, none, .pick (.s 29) (.s 32) (.c (.t (.bool false)))⟩] [] [1, 7, 33]) c41_3)
def c41_5 : ACode :=
  (.seq (.seq (.region false [⟨some 19, none, .ld true 2 (.s 6)⟩,
    ⟨some 20, none, .call 35 [(.s 19), (.c (.t (.str [108, 97, 98, 101, 108])))]⟩,
    ⟨some 18, none, .mv (.s 20)⟩,
    ⟨some 21, none, .ext (.s 18) 0⟩,
    ⟨some 22, none, .ext (.s 18) 1⟩,
    ⟨some 7, none, .alloc [.t (.int .i64 0), .t (.int .i64 0), .t (.str []), .nils, .nils]⟩,
    ⟨none, none, .st 5 (.s 7) (.s 21)⟩,
    ⟨some 8, none, .mv (.s 22)⟩] [] [1, 7, 8]) c41_4) (.exit 0))
def c41_6 : ACode :=
  (.cond (.s 17) c41_5 .skip)
def c41_7 : ACode :=
  (.seq (.region false [⟨some 15, none, .fa 0 (.s 6)⟩,
    ⟨some 16, none, .ld false 1 (.s 15)⟩,
    ⟨some 17, none, .bin .eql (.s 16) (.c (.t (.str [100, 101, 102, 101, 114])))⟩] [] [1, 6, 9, 10, 11, 17]) c41_6)
def c41_8 : ACode :=
  (.seq (.region false [⟨some 13, none, .ia 2 (.s 9) (.s 11)⟩,
    ⟨some 14, none, .ld true 2 (.s 13)⟩,
    ⟨some 6, none, .alloc [.t (.str []), .nils]⟩,
    ⟨none, none, .st 2 (.s 6) (.s 14)⟩] [] [1, 6, 9, 10, 11]) c41_7)
def c41_9 : ACode :=
  (.seq (.block 1 c41_8) c41_1)
def c41_10 : ACode :=
  (.seq (.cond (.s 12) .skip (.exit 0)) c41_9)
def c41_11 : ACode :=
  (.seq (.region false [⟨some 12, none, .bin .lss (.s 11) (.s 10)⟩] [] [1, 9, 10, 11, 12]) c41_10)
def c41_12 : ACode :=
  (.loop c41_11)
def c41_13 : ACode :=
  (.block 0 c41_12)
def c41_14 : ACode :=
  (.seq (.seq (.region false [⟨some 9, none, .mv (.s 0)⟩,
    ⟨some 10, none, .len (.s 9)⟩,
    ⟨some 11, none, .cst (.t (.int .i64 0))⟩] [] [1, 9, 10, 11]) c41_13) c41_0)
def c41 : ACode :=
  (.seq (.region false [⟨some 4, none, .cst (.t (.str []))⟩] [] [0, 1]) c41_14)
def r41 : List ARes := [.tmp 4]
def n41 : Nat := 38
/- 42 supergraph fragment.Find -/
def c42_0 : ACode :=
  (.seq (.region false [⟨some 21, none, .build [.t (.str []), .t (.str []), .nils] []⟩,
    ⟨none, none, .st 3 (.s 4) (.s 21)⟩,
    ⟨some 5, none, .cst (.t (.bool false))⟩] [] [4, 5]) .ret)
def c42_1 : ACode :=
  (.region false [⟨some 20, none, .bin .add (.s 11) (.c (.t (.int .i64 1)))⟩,
    ⟨some 11, none, .mv (.s 20)⟩] [] [1, 4, 9, 10, 11])
def c42_2 : ACode :=
  (.seq (.region false [⟨some 19, none, .ld true 3 (.s 7)⟩,
    ⟨none, none, .st 3 (.s 4) (.s 19)⟩,
    ⟨some 5, none, .cst (.t (.bool true))⟩] [] [4, 5]) .ret)
def c42_3 : ACode :=
  (.cond (.s 18) c42_2 .skip)
def c42_4 : ACode :=
  (.seq (.region false [⟨some 15, none, .fa 0 (.s 7)⟩,
    ⟨some 16, none, .ld false 1 (.s 15)⟩,
    ⟨some 17, none, .mv (.s 1)⟩,
    ⟨some 18, none, .bin .eql (.s 16) (.s 17)⟩] [] [1, 4, 7, 9, 10, 11, 18]) c42_3)
def c42_5 : ACode :=
  (.seq (.region false [⟨some 13, none, .ia 3 (.s 9) (.s 11)⟩,
    ⟨some 14, none, .ld true 3 (.s 13)⟩,
    ⟨some 7, none, .alloc [.t (.str []), .t (.str []), .nils]⟩,
    ⟨none, none, .st 3 (.s 7) (.s 14)⟩] [] [1, 4, 7, 9, 10, 11]) c42_4)
def c42_6 : ACode :=
  (.seq (.block 1 c42_5) c42_1)
def c42_7 : ACode :=
  (.seq (.cond (.s 12) .skip (.exit 0)) c42_6)
def c42_8 : ACode :=
  (.seq (.region false [⟨some 12, none, .bin .lss (.s 11) (.s 10)⟩] [] [1, 4, 9, 10, 11, 12]) c42_7)
def c42_9 : ACode :=
  (.loop c42_8)
def c42_10 : ACode :=
  (.block 0 c42_9)
def c42_11 : ACode :=
  (.seq (.seq (.region false [⟨some 8, none, .fa 1 (.s 2)⟩,
    ⟨some 9, none, .ld false 1 (.s 8)⟩,
    ⟨some 10, none, .len (.s 9)⟩,
    ⟨some 11, none, .cst (.t (.int .i64 0))⟩] [] [1, 4, 9, 10, 11]) c42_10) c42_0)
def c42 : ACode :=
  (.seq (.region false [⟨some 2, none, .box 2 (.s 0)⟩,
    ⟨some 4, none, .alloc [.t (.str []), .t (.str []), .nils]⟩,
    ⟨some 5, none, .cst (.t (.bool false))⟩] [] [1, 2, 4]) c42_11)
def r42 : List ARes := [.cell 4 true 3, .tmp 5]
def n42 : Nat := 22
/- 43 (*supergraph collect.collector).field -/
def c43_0 : ACode :=
  (.region true [⟨some 38, none, .mv (.s 0)⟩,
    ⟨some 39, none, .nilck (.s 38)⟩,
    ⟨some 40, none, .fa 9 (.s 39)⟩,
    ⟨some 41, none, .ld false 1 (.s 40)⟩,
    ⟨some 42, none, .mv (.s 5)⟩,
    ⟨some 43, none, .mv (.s 0)⟩,
    ⟨some 44, none, .nilck (.s 43)⟩,
    ⟨some 45, none, .fa 9 (.s 44)⟩,
    ⟨some 46, none, .ld false 1 (.s 45)⟩,
    ⟨some 47, none, .mv (.s 5)⟩,
    ⟨some 48, none, .ia 2 (.s 46) (.s 47)⟩,
    ⟨some 49, none, .fa 1 (.s 48)⟩,
    ⟨some 50, none, .ld false 1 (.s 49)⟩,
    ⟨some 51, none, .ld true 8 (.s 3)⟩,
    ⟨some 52, none, .bsl false 8 [[.int .i64 0, .str [], .str [], .str [], .lst [], .lst [], .lst [], .str []]] [(0, (.s 51))]⟩,
    ⟨some 53, none, .app 8 144 (.s 50) (.s 52)⟩,
    ⟨some 54, none, .ia 2 (.s 41) (.s 42)⟩,
    ⟨some 55, none, .fa 1 (.s 54)⟩,
    ⟨none, none, .st 1 (.s 55) (.s 53)⟩] [[], [0], [1], [2], [], [], [5], [6], [7], [], [8, 9], [10], [11], [], [13], [12, 14], [3, 4, 0, 1, 2, 3, 4, 5, 6, 7, 8, 9, 10, 11, 12, 13, 14, 15], [16, 0, 1, 2, 3, 4, 5, 6, 7, 8, 9, 10, 11, 12, 13, 14, 15], [17, 15, 15, 0, 1, 2, 3, 4, 5, 6, 7, 8, 9, 10, 11, 12, 13, 14, 15]] [])
def c43_1 : ACode :=
  (.region true [⟨some 27, none, .mv (.s 0)⟩,
    ⟨some 28, none, .mv (.s 0)⟩,
    ⟨some 29, none, .nilck (.s 28)⟩,
    ⟨some 30, none, .fa 9 (.s 29)⟩,
    ⟨some 31, none, .ld false 1 (.s 30)⟩,
    ⟨some 32, none, .ld false 1 (.s 4)⟩,
    ⟨some 33, none, .build [.t (.str []), .nils] [(0, 1, (.s 32))]⟩,
    ⟨some 34, none, .bsl false 2 [[.str [], .lst []]] [(0, (.s 33))]⟩,
    ⟨some 35, none, .app 2 40 (.s 31) (.s 34)⟩,
    ⟨some 36, none, .nilck (.s 27)⟩,
    ⟨some 37, none, .fa 9 (.s 36)⟩,
    ⟨none, none, .st 1 (.s 37) (.s 35)⟩] [[], [], [1], [2], [3], [], [5], [6], [4, 7], [0, 0, 1, 2, 3, 4, 5, 6, 7, 8], [9, 0, 1, 2, 3, 4, 5, 6, 7, 8], [10, 8, 8, 0, 1, 2, 3, 4, 5, 6, 7, 8]] [0, 3, 5])
def c43_2 : ACode :=
  (.seq (.region false [⟨some 22, none, .mv (.s 0)⟩,
    ⟨some 23, none, .nilck (.s 22)⟩,
    ⟨some 24, none, .fa 9 (.s 23)⟩,
    ⟨some 25, none, .ld false 1 (.s 24)⟩,
    ⟨some 26, none, .len (.s 25)⟩,
    ⟨some 5, none, .mv (.s 26)⟩] [] [0, 3, 4, 5]) c43_1)
def c43_3 : ACode :=
  (.cond (.s 21) c43_2 .skip)
def c43_4 : ACode :=
  (.seq (.seq (.region false [⟨some 20, none, .mv (.s 5)⟩,
    ⟨some 21, none, .bin .lss (.s 20) (.c (.t (.int .i64 0)))⟩] [] [0, 3, 4, 5, 21]) c43_3) c43_0)
def c43_5 : ACode :=
  (.seq (.region false [⟨some 14, none, .mv (.s 0)⟩,
    ⟨some 15, none, .nilck (.s 14)⟩,
    ⟨some 16, none, .fa 9 (.s 15)⟩,
    ⟨some 17, none, .ld false 1 (.s 16)⟩,
    ⟨some 18, none, .mkfn 60 [(.s 4)]⟩,
    ⟨some 19, none, .call 59 [(.s 17), (.s 18)]⟩,
    ⟨some 5, none, .mv (.s 19)⟩] [] [0, 3, 4, 5]) c43_4)
def c43_6 : ACode :=
  (.region false [⟨some 11, none, .fa 0 (.s 3)⟩,
    ⟨some 12, none, .fa 2 (.s 11)⟩,
    ⟨some 13, none, .ld false 1 (.s 12)⟩,
    ⟨none, none, .st 1 (.s 4) (.s 13)⟩] [] [0, 3, 4])
def c43_7 : ACode :=
  (.cond (.s 10) c43_6 .skip)
def c43_8 : ACode :=
  (.seq (.seq (.region false [⟨some 9, none, .ld false 1 (.s 4)⟩,
    ⟨some 10, none, .bin .eql (.s 9) (.c (.t (.str [])))⟩] [] [0, 3, 4, 10]) c43_7) c43_5)
def c43_9 : ACode :=
  (.seq (.region false [⟨some 6, none, .fa 0 (.s 3)⟩,
    ⟨some 7, none, .fa 1 (.s 6)⟩,
    ⟨some 8, none, .ld false 1 (.s 7)⟩,
    ⟨some 4, none, .alloc [.t (.str [])]⟩,
    ⟨none, none, .st 1 (.s 4) (.s 8)⟩] [] [0, 3, 4]) c43_8)
def c43 : ACode :=
  (.seq (.region false [⟨some 3, none, .box 8 (.s 1)⟩] [] [0, 3]) c43_9)
def r43 : List ARes := []
def n43 : Nat := 56
/- 44 supergraph supergraphref18.label -/
def c44_0 : ACode :=
  (.seq (.region false [⟨some 39, none, .mv (.s 1)⟩,
    ⟨some 4, none, .mv (.s 39)⟩] [] [4]) .ret)
def c44_1 : ACode :=
  (.region false [⟨some 12, none, .mv (.s 5)⟩,
    ⟨some 13, none, .bin .add (.s 12) (.c (.t (.int .i64 1)))⟩,
    ⟨some 5, none, .mv (.s 13)⟩] [] [0, 1, 5])
def c44_2 : ACode :=
  (.seq (.region false [⟨some 38, none, .mv (.s 1)⟩,
    ⟨some 4, none, .mv (.s 38)⟩] [] [4]) .ret)
def c44_3 : ACode :=
  (.seq (.region false [⟨some 36, none, .fa 2 (.s 6)⟩,
    ⟨some 37, none, .ld false 1 (.s 36)⟩,
    ⟨some 4, none, .mv (.s 37)⟩] [] [4]) .ret)
def c44_4 : ACode :=
  (.cond (.s 35) c44_3 .skip)
def c44_5 : ACode :=
  (.seq (.seq (.region false [⟨some 28, none, .fa 0 (.s 6)⟩,
    ⟨some 29, none, .ld false 1 (.s 28)⟩,
    ⟨some 30, none, .bin .eql (.s 29) (.c (.t (.int .i64 3)))⟩,
    ⟨some 31, none, .mv (.s 30)⟩,
    ⟨some 32, some (31, true), .fa 2 (.s 6)⟩,
    ⟨some 33, some (31, true), .ld false 1 (.s 32)⟩,
    ⟨some 34, some (31, true), .bin .neq (.s 33) (.c (.t (.str [])))⟩,
    ⟨some 35, none, .pick (.s 31) (.s 34) (.c (.t (.bool false)))⟩] [] [1, 6, 35]) c44_4) c44_2)
def c44_6 : ACode :=
  (.seq (.region false [⟨some 21, none, .mv (.s 0)⟩,
    ⟨some 22, none, .mv (.s 5)⟩,
    ⟨some 23, none, .ia 2 (.s 21) (.s 22)⟩,
    ⟨some 24, none, .ld true 2 (.s 23)⟩,
    ⟨some 25, none, .call 37 [(.s 24), (.c (.t (.str [108, 97, 98, 101, 108])))]⟩,
    ⟨some 20, none, .mv (.s 25)⟩,
    ⟨some 26, none, .ext (.s 20) 0⟩,
    ⟨some 27, none, .ext (.s 20) 1⟩,
    ⟨some 6, none, .alloc [.t (.int .i64 0), .t (.int .i64 0), .t (.str []), .nils, .nils]⟩,
    ⟨none, none, .st 5 (.s 6) (.s 26)⟩,
    ⟨some 7, none, .mv (.s 27)⟩] [] [1, 6]) c44_5)
def c44_7 : ACode :=
  (.cond (.s 19) c44_6 .skip)
def c44_8 : ACode :=
  (.seq (.region false [⟨some 14, none, .mv (.s 0)⟩,
    ⟨some 15, none, .mv (.s 5)⟩,
    ⟨some 16, none, .ia 2 (.s 14) (.s 15)⟩,
    ⟨some 17, none, .fa 0 (.s 16)⟩,
    ⟨some 18, none, .ld false 1 (.s 17)⟩,
    ⟨some 19, none, .bin .eql (.s 18) (.c (.t (.str [100, 101, 102, 101, 114])))⟩] [] [0, 1, 5, 19]) c44_7)
def c44_9 : ACode :=
  (.seq (.block 1 c44_8) c44_1)
def c44_10 : ACode :=
  (.cond (.s 11) .skip (.exit 0))
def c44_11 : ACode :=
  (.seq (.seq (.region false [⟨some 8, none, .mv (.s 5)⟩,
    ⟨some 9, none, .mv (.s 0)⟩,
    ⟨some 10, none, .len (.s 9)⟩,
    ⟨some 11, none, .bin .lss (.s 8) (.s 10)⟩] [] [0, 1, 5, 11]) c44_10) c44_9)
def c44_12 : ACode :=
  (.loop c44_11)
def c44_13 : ACode :=
  (.block 0 c44_12)
def c44_14 : ACode :=
  (.seq (.seq (.region false [⟨some 5, none, .cst (.t (.int .i64 0))⟩] [] [0, 1, 5]) c44_13) c44_0)
def c44 : ACode :=
  (.seq (.region false [⟨some 4, none, .cst (.t (.str []))⟩] [] [0, 1]) c44_14)
def r44 : List ARes := [.tmp 4]
def n44 : Nat := 40
/- 45 supergraph supergraphref11.Is -/
def c45_0 : ACode :=
  (.seq (.region false [⟨some 7, none, .ld true 1 (.s 3)⟩,
    ⟨some 8, none, .mv (.s 2)⟩,
    ⟨some 9, none, .call 62 [(.s 7), (.s 8)]⟩,
    ⟨some 10, none, .mv (.s 1)⟩,
    ⟨some 11, none, .call 61 [(.s 9), (.s 10)]⟩,
    ⟨some 6, none, .mv (.s 11)⟩] [] [6]) .ret)
def c45 : ACode :=
  (.seq (.region false [⟨some 3, none, .box 1 (.s 0)⟩,
    ⟨some 6, none, .cst (.t (.bool false))⟩] [] [1, 2, 3]) c45_0)
def r45 : List ARes := [.tmp 6]
def n45 : Nat := 12
/- 46 (*supergraph supergraphref18.work).sels -/
def c46_0 : ACode :=
  (.region false [⟨some 11, none, .mv (.s 6)⟩,
    ⟨some 12, none, .bin .add (.s 11) (.c (.t (.int .i64 1)))⟩,
    ⟨some 6, none, .mv (.s 12)⟩] [] [0, 1, 2, 6])
def c46_1 : ACode :=
  (.region false [⟨some 13, none, .mv (.s 0)⟩,
    ⟨some 14, none, .mv (.s 1)⟩,
    ⟨some 15, none, .mv (.s 6)⟩,
    ⟨some 16, none, .ia 7 (.s 14) (.s 15)⟩,
    ⟨some 17, none, .ld true 7 (.s 16)⟩,
    ⟨some 18, none, .mv (.s 2)⟩,
    ⟨some 19, none, .build [.t (.int .i64 0), .t (.str []), .t (.str []), .t (.str []), .nils, .nils, .nils, .t (.str [])] [(0, 7, (.s 17)), (7, 1, (.s 18))]⟩,
    ⟨some 20, none, .call 29 [(.s 13), (.s 19)]⟩] [] [0, 1, 2, 6])
def c46_2 : ACode :=
  (.seq (.block 1 c46_1) c46_0)
def c46_3 : ACode :=
  (.cond (.s 10) .skip (.exit 0))
def c46_4 : ACode :=
  (.seq (.seq (.region false [⟨some 7, none, .mv (.s 6)⟩,
    ⟨some 8, none, .mv (.s 1)⟩,
    ⟨some 9, none, .len (.s 8)⟩,
    ⟨some 10, none, .bin .lss (.s 7) (.s 9)⟩] [] [0, 1, 2, 6, 10]) c46_3) c46_2)
def c46_5 : ACode :=
  (.loop c46_4)
def c46_6 : ACode :=
  (.block 0 c46_5)
def c46 : ACode :=
  (.seq (.region false [⟨some 6, none, .cst (.t (.int .i64 0))⟩] [] [0, 1, 2, 6]) c46_6)
def r46 : List ARes := []
def n46 : Nat := 21
/- 47 supergraph supergraphref13.Find -/
def c47_0 : ACode :=
  (.seq (.region false [⟨some 27, none, .build [.t (.str []), .t (.str []), .nils] []⟩,
    ⟨none, none, .st 3 (.s 4) (.s 27)⟩,
    ⟨some 5, none, .cst (.t (.bool false))⟩] [] [4, 5]) .ret)
def c47_1 : ACode :=
  (.region false [⟨some 12, none, .mv (.s 6)⟩,
    ⟨some 13, none, .bin .add (.s 12) (.c (.t (.int .i64 1)))⟩,
    ⟨some 6, none, .mv (.s 13)⟩] [] [1, 2, 4, 6])
def c47_2 : ACode :=
  (.seq (.region false [⟨some 22, none, .fa 1 (.s 2)⟩,
    ⟨some 23, none, .ld false 1 (.s 22)⟩,
    ⟨some 24, none, .mv (.s 6)⟩,
    ⟨some 25, none, .ia 3 (.s 23) (.s 24)⟩,
    ⟨some 26, none, .ld true 3 (.s 25)⟩,
    ⟨none, none, .st 3 (.s 4) (.s 26)⟩,
    ⟨some 5, none, .cst (.t (.bool true))⟩] [] [4, 5]) .ret)
def c47_3 : ACode :=
  (.cond (.s 21) c47_2 .skip)
def c47_4 : ACode :=
  (.seq (.region false [⟨some 14, none, .fa 1 (.s 2)⟩,
    ⟨some 15, none, .ld false 1 (.s 14)⟩,
    ⟨some 16, none, .mv (.s 6)⟩,
    ⟨some 17, none, .ia 3 (.s 15) (.s 16)⟩,
    ⟨some 18, none, .fa 0 (.s 17)⟩,
    ⟨some 19, none, .ld false 1 (.s 18)⟩,
    ⟨some 20, none, .mv (.s 1)⟩,
    ⟨some 21, none, .bin .eql (.s 19) (.s 20)⟩] [] [1, 2, 4, 6, 21]) c47_3)
def c47_5 : ACode :=
  (.seq (.block 1 c47_4) c47_1)
def c47_6 : ACode :=
  (.cond (.s 11) .skip (.exit 0))
def c47_7 : ACode :=
  (.seq (.seq (.region false [⟨some 7, none, .mv (.s 6)⟩,
    ⟨some 8, none, .fa 1 (.s 2)⟩,
    ⟨some 9, none, .ld false 1 (.s 8)⟩,
    ⟨some 10, none, .len (.s 9)⟩,
    ⟨some 11, none, .bin .lss (.s 7) (.s 10)⟩] [] [1, 2, 4, 6, 11]) c47_6) c47_5)
def c47_8 : ACode :=
  (.loop c47_7)
def c47_9 : ACode :=
  (.block 0 c47_8)
def c47_10 : ACode :=
  (.seq (.seq (.region false [⟨some 6, none, .cst (.t (.int .i64 0))⟩] [] [1, 2, 4, 6]) c47_9) c47_0)
def c47 : ACode :=
  (.seq (.region false [⟨some 2, none, .box 2 (.s 0)⟩,
    ⟨some 4, none, .alloc [.t (.str []), .t (.str []), .nils]⟩,
    ⟨some 5, none, .cst (.t (.bool false))⟩] [] [1, 2, 4]) c47_10)
def r47 : List ARes := [.cell 4 true 3, .tmp 5]
def n47 : Nat := 28
/- 48 (*supergraph supergraphref18.work).fresh -/
def c48_0 : ACode :=
  (.seq (.region false [⟨some 4, none, .cst (.t (.bool true))⟩] [] [4]) .ret)
def c48_1 : ACode :=
  (.seq (.region true [⟨some 24, none, .mv (.s 0)⟩,
    ⟨some 25, none, .mv (.s 0)⟩,
    ⟨some 26, none, .nilck (.s 25)⟩,
    ⟨some 27, none, .fa 9 (.s 26)⟩,
    ⟨some 28, none, .ld false 1 (.s 27)⟩,
    ⟨some 29, none, .ld true 2 (.s 3)⟩,
    ⟨some 30, none, .bsl false 2 [[.str [], .str []]] [(0, (.s 29))]⟩,
    ⟨some 31, none, .app 2 32 (.s 28) (.s 30)⟩,
    ⟨some 32, none, .nilck (.s 24)⟩,
    ⟨some 33, none, .fa 9 (.s 32)⟩,
    ⟨none, none, .st 1 (.s 33) (.s 31)⟩] [[], [], [1], [2], [3], [], [5], [4, 6], [0, 0, 1, 2, 3, 4, 5, 6, 7], [8, 0, 1, 2, 3, 4, 5, 6, 7], [9, 7, 7, 0, 1, 2, 3, 4, 5, 6, 7]] []) c48_0)
def c48_2 : ACode :=
  (.region false [⟨some 13, none, .mv (.s 5)⟩,
    ⟨some 14, none, .bin .add (.s 13) (.c (.t (.int .i64 1)))⟩,
    ⟨some 5, none, .mv (.s 14)⟩] [] [0, 3, 5])
def c48_3 : ACode :=
  (.seq (.region false [⟨some 4, none, .cst (.t (.bool false))⟩] [] [4]) .ret)
def c48_4 : ACode :=
  (.cond (.s 23) c48_3 .skip)
def c48_5 : ACode :=
  (.seq (.region true [⟨some 15, none, .mv (.s 0)⟩,
    ⟨some 16, none, .nilck (.s 15)⟩,
    ⟨some 17, none, .fa 9 (.s 16)⟩,
    ⟨some 18, none, .ld false 1 (.s 17)⟩,
    ⟨some 19, none, .mv (.s 5)⟩,
    ⟨some 20, none, .ia 2 (.s 18) (.s 19)⟩,
    ⟨some 21, none, .ld true 2 (.s 20)⟩,
    ⟨some 22, none, .ld true 2 (.s 3)⟩,
    ⟨some 23, none, .nw (.eqst false [.str, .str] (.s 21) (.s 22))⟩] [[], [0], [1], [2], [], [3, 4], [5], [], [6, 7]] [0, 3, 5, 23]) c48_4)
def c48_6 : ACode :=
  (.seq (.block 1 c48_5) c48_2)
def c48_7 : ACode :=
  (.cond (.s 12) .skip (.exit 0))
def c48_8 : ACode :=
  (.seq (.seq (.region false [⟨some 6, none, .mv (.s 5)⟩,
    ⟨some 7, none, .mv (.s 0)⟩,
    ⟨some 8, none, .nilck (.s 7)⟩,
    ⟨some 9, none, .fa 9 (.s 8)⟩,
    ⟨some 10, none, .ld false 1 (.s 9)⟩,
    ⟨some 11, none, .len (.s 10)⟩,
    ⟨some 12, none, .bin .lss (.s 6) (.s 11)⟩] [] [0, 3, 5, 12]) c48_7) c48_6)
def c48_9 : ACode :=
  (.loop c48_8)
def c48_10 : ACode :=
  (.block 0 c48_9)
def c48_11 : ACode :=
  (.seq (.seq (.region false [⟨some 5, none, .cst (.t (.int .i64 0))⟩] [] [0, 3, 5]) c48_10) c48_1)
def c48 : ACode :=
  (.seq (.region false [⟨some 3, none, .box 2 (.s 1)⟩,
    ⟨some 4, none, .cst (.t (.bool false))⟩] [] [0, 3]) c48_11)
def r48 : List ARes := [.tmp 4]
def n48 : Nat := 34
/- 49 (*supergraph supergraphref18.work).add -/
def c49_0 : ACode :=
  (.region true [⟨some 46, none, .mv (.s 0)⟩,
    ⟨some 47, none, .mv (.s 0)⟩,
    ⟨some 48, none, .nilck (.s 47)⟩,
    ⟨some 49, none, .fa 10 (.s 48)⟩,
    ⟨some 50, none, .ld false 1 (.s 49)⟩,
    ⟨some 51, none, .mv (.s 4)⟩,
    ⟨some 52, none, .ld true 8 (.s 3)⟩,
    ⟨some 53, none, .bsl true 8 [[.int .i64 0, .str [], .str [], .str [], .lst [], .lst [], .lst [], .str []]] [(0, (.s 52))]⟩,
    ⟨some 54, none, .build [.t (.str []), .nils] [(0, 1, (.s 51)), (1, 1, (.s 53))]⟩,
    ⟨some 55, none, .bsl false 2 [[.str [], .lst []]] [(0, (.s 54))]⟩,
    ⟨some 56, none, .app 2 40 (.s 50) (.s 55)⟩,
    ⟨some 57, none, .nilck (.s 46)⟩,
    ⟨some 58, none, .fa 10 (.s 57)⟩,
    ⟨none, none, .st 1 (.s 58) (.s 56)⟩] [[], [], [1], [2], [3], [], [], [6], [5, 7], [8], [4, 9], [0, 0, 1, 2, 3, 4, 5, 6, 7, 8, 9, 10], [11, 0, 1, 2, 3, 4, 5, 6, 7, 8, 9, 10], [12, 10, 10, 0, 1, 2, 3, 4, 5, 6, 7, 8, 9, 10]] [])
def c49_1 : ACode :=
  (.region false [⟨some 16, none, .mv (.s 5)⟩,
    ⟨some 17, none, .bin .add (.s 16) (.c (.t (.int .i64 1)))⟩,
    ⟨some 5, none, .mv (.s 17)⟩] [] [0, 3, 4, 5])
def c49_2 : ACode :=
  (.seq (.region true [⟨some 28, none, .mv (.s 0)⟩,
    ⟨some 29, none, .nilck (.s 28)⟩,
    ⟨some 30, none, .fa 10 (.s 29)⟩,
    ⟨some 31, none, .ld false 1 (.s 30)⟩,
    ⟨some 32, none, .mv (.s 5)⟩,
    ⟨some 33, none, .mv (.s 0)⟩,
    ⟨some 34, none, .nilck (.s 33)⟩,
    ⟨some 35, none, .fa 10 (.s 34)⟩,
    ⟨some 36, none, .ld false 1 (.s 35)⟩,
    ⟨some 37, none, .mv (.s 5)⟩,
    ⟨some 38, none, .ia 2 (.s 36) (.s 37)⟩,
    ⟨some 39, none, .fa 1 (.s 38)⟩,
    ⟨some 40, none, .ld false 1 (.s 39)⟩,
    ⟨some 41, none, .ld true 8 (.s 3)⟩,
    ⟨some 42, none, .bsl false 8 [[.int .i64 0, .str [], .str [], .str [], .lst [], .lst [], .lst [], .str []]] [(0, (.s 41))]⟩,
    ⟨some 43, none, .app 8 144 (.s 40) (.s 42)⟩,
    ⟨some 44, none, .ia 2 (.s 31) (.s 32)⟩,
    ⟨some 45, none, .fa 1 (.s 44)⟩,
    ⟨none, none, .st 1 (.s 45) (.s 43)⟩] [[], [0], [1], [2], [], [], [5], [6], [7], [], [8, 9], [10], [11], [], [13], [12, 14], [3, 4, 0, 1, 2, 3, 4, 5, 6, 7, 8, 9, 10, 11, 12, 13, 14, 15], [16, 0, 1, 2, 3, 4, 5, 6, 7, 8, 9, 10, 11, 12, 13, 14, 15], [17, 15, 15, 0, 1, 2, 3, 4, 5, 6, 7, 8, 9, 10, 11, 12, 13, 14, 15]] []) .ret)
def c49_3 : ACode :=
  (.cond (.s 27) c49_2 .skip)
def c49_4 : ACode :=
  (.seq (.region false [⟨some 18, none, .mv (.s 0)⟩,
    ⟨some 19, none, .nilck (.s 18)⟩,
    ⟨some 20, none, .fa 10 (.s 19)⟩,
    ⟨some 21, none, .ld false 1 (.s 20)⟩,
    ⟨some 22, none, .mv (.s 5)⟩,
    ⟨some 23, none, .ia 2 (.s 21) (.s 22)⟩,
    ⟨some 24, none, .fa 0 (.s 23)⟩,
    ⟨some 25, none, .ld false 1 (.s 24)⟩,
    ⟨some 26, none, .mv (.s 4)⟩,
    ⟨some 27, none, .bin .eql (.s 25) (.s 26)⟩] [] [0, 3, 4, 5, 27]) c49_3)
def c49_5 : ACode :=
  (.seq (.block 1 c49_4) c49_1)
def c49_6 : ACode :=
  (.cond (.s 15) .skip (.exit 0))
def c49_7 : ACode :=
  (.seq (.seq (.region false [⟨some 9, none, .mv (.s 5)⟩,
    ⟨some 10, none, .mv (.s 0)⟩,
    ⟨some 11, none, .nilck (.s 10)⟩,
    ⟨some 12, none, .fa 10 (.s 11)⟩,
    ⟨some 13, none, .ld false 1 (.s 12)⟩,
    ⟨some 14, none, .len (.s 13)⟩,
    ⟨some 15, none, .bin .lss (.s 9) (.s 14)⟩] [] [0, 3, 4, 5, 15]) c49_6) c49_5)
def c49_8 : ACode :=
  (.loop c49_7)
def c49_9 : ACode :=
  (.block 0 c49_8)
def c49_10 : ACode :=
  (.seq (.seq (.region false [⟨some 5, none, .cst (.t (.int .i64 0))⟩] [] [0, 3, 4, 5]) c49_9) c49_0)
def c49_11 : ACode :=
  (.seq (.region false [⟨some 6, none, .fa 0 (.s 3)⟩,
    ⟨some 7, none, .ld true 7 (.s 6)⟩,
    ⟨some 8, none, .call 63 [(.s 7)]⟩,
    ⟨some 4, none, .mv (.s 8)⟩] [] [0, 3, 4]) c49_10)
def c49 : ACode :=
  (.seq (.region false [⟨some 3, none, .box 8 (.s 1)⟩] [] [0, 3]) c49_11)
def r49 : List ARes := []
def n49 : Nat := 59
/- 50 supergraph supergraphref08.SameArgs -/
def c50_0 : ACode :=
  (.seq (.region false [⟨some 4, none, .cst (.t (.bool true))⟩] [] [4]) .ret)
def c50_1 : ACode :=
  (.region false [⟨some 15, none, .mv (.s 5)⟩,
    ⟨some 16, none, .bin .add (.s 15) (.c (.t (.int .i64 1)))⟩,
    ⟨some 5, none, .mv (.s 16)⟩] [] [0, 1, 5])
def c50_2 : ACode :=
  (.seq (.region false [⟨some 4, none, .cst (.t (.bool false))⟩] [] [4]) .ret)
def c50_3 : ACode :=
  (.cond (.s 41) c50_2 .skip)
def c50_4 : ACode :=
  (.seq (.region true [⟨some 17, none, .mv (.s 0)⟩,
    ⟨some 18, none, .mv (.s 5)⟩,
    ⟨some 19, none, .ia 6 (.s 17) (.s 18)⟩,
    ⟨some 20, none, .fa 0 (.s 19)⟩,
    ⟨some 21, none, .ld false 1 (.s 20)⟩,
    ⟨some 22, none, .mv (.s 1)⟩,
    ⟨some 23, none, .mv (.s 5)⟩,
    ⟨some 24, none, .ia 6 (.s 22) (.s 23)⟩,
    ⟨some 25, none, .fa 0 (.s 24)⟩,
    ⟨some 26, none, .ld false 1 (.s 25)⟩,
    ⟨some 27, none, .bin .neq (.s 21) (.s 26)⟩,
    ⟨some 28, none, .mv (.s 27)⟩,
    ⟨some 29, some (28, false), .mv (.s 0)⟩,
    ⟨some 30, some (28, false), .mv (.s 5)⟩,
    ⟨some 31, some (28, false), .ia 6 (.s 29) (.s 30)⟩,
    ⟨some 32, some (28, false), .fa 1 (.s 31)⟩,
    ⟨some 33, some (28, false), .ld true 5 (.s 32)⟩,
    ⟨some 34, some (28, false), .mv (.s 1)⟩,
    ⟨some 35, some (28, false), .mv (.s 5)⟩,
    ⟨some 36, some (28, false), .ia 6 (.s 34) (.s 35)⟩,
    ⟨some 37, some (28, false), .fa 1 (.s 36)⟩,
    ⟨some 38, some (28, false), .ld true 5 (.s 37)⟩,
    ⟨some 39, some (28, false), .call 64 [(.s 33), (.s 38)]⟩,
    ⟨some 40, some (28, false), .un .not (.s 39)⟩,
    ⟨some 41, none, .pick (.s 28) (.c (.t (.bool true))) (.s 40)⟩] [[], [], [0, 1], [2], [3], [], [], [5, 6], [7], [8], [4, 9], [10], [11], [11], [12, 13, 11], [14, 11], [15, 11], [11], [11], [17, 18, 11], [19, 11], [20, 11], [16, 21, 11, 11], [22, 11], [11, 23]] [0, 1, 5, 41]) c50_3)
def c50_5 : ACode :=
  (.seq (.block 1 c50_4) c50_1)
def c50_6 : ACode :=
  (.cond (.s 14) .skip (.exit 0))
def c50_7 : ACode :=
  (.seq (.seq (.region false [⟨some 11, none, .mv (.s 5)⟩,
    ⟨some 12, none, .mv (.s 0)⟩,
    ⟨some 13, none, .len (.s 12)⟩,
    ⟨some 14, none, .bin .lss (.s 11) (.s 13)⟩] [] [0, 1, 5, 14]) c50_6) c50_5)
def c50_8 : ACode :=
  (.loop c50_7)
def c50_9 : ACode :=
  (.block 0 c50_8)
def c50_10 : ACode :=
  (.seq (.seq (.region false [⟨some 5, none, .cst (.t (.int .i64 0))⟩] [] [0, 1, 5]) c50_9) c50_0)
def c50_11 : ACode :=
  (.seq (.region false [⟨some 4, none, .cst (.t (.bool false))⟩] [] [4]) .ret)
def c50_12 : ACode :=
  (.cond (.s 10) c50_11 .skip)
def c50_13 : ACode :=
  (.seq (.seq (.region false [⟨some 6, none, .mv (.s 0)⟩,
    ⟨some 7, none, .len (.s 6)⟩,
    ⟨some 8, none, .mv (.s 1)⟩,
    ⟨some 9, none, .len (.s 8)⟩,
    ⟨some 10, none, .bin .neq (.s 7) (.s 9)⟩] [] [0, 1, 10]) c50_12) c50_10)
def c50 : ACode :=
  (.seq (.region false [⟨some 4, none, .cst (.t (.bool false))⟩] [] [0, 1]) c50_13)
def r50 : List ARes := [.tmp 4]
def n50 : Nat := 42
/- 51 supergraph supergraphref08.SameDirs -/
def c51_0 : ACode :=
  (.seq (.region false [⟨some 4, none, .cst (.t (.bool true))⟩] [] [4]) .ret)
def c51_1 : ACode :=
  (.region false [⟨some 15, none, .mv (.s 5)⟩,
    ⟨some 16, none, .bin .add (.s 15) (.c (.t (.int .i64 1)))⟩,
    ⟨some 5, none, .mv (.s 16)⟩] [] [0, 1, 5])
def c51_2 : ACode :=
  (.seq (.region false [⟨some 4, none, .cst (.t (.bool false))⟩] [] [4]) .ret)
def c51_3 : ACode :=
  (.cond (.s 41) c51_2 .skip)
def c51_4 : ACode :=
  (.seq (.region true [⟨some 17, none, .mv (.s 0)⟩,
    ⟨some 18, none, .mv (.s 5)⟩,
    ⟨some 19, none, .ia 2 (.s 17) (.s 18)⟩,
    ⟨some 20, none, .fa 0 (.s 19)⟩,
    ⟨some 21, none, .ld false 1 (.s 20)⟩,
    ⟨some 22, none, .mv (.s 1)⟩,
    ⟨some 23, none, .mv (.s 5)⟩,
    ⟨some 24, none, .ia 2 (.s 22) (.s 23)⟩,
    ⟨some 25, none, .fa 0 (.s 24)⟩,
    ⟨some 26, none, .ld false 1 (.s 25)⟩,
    ⟨some 27, none, .bin .neq (.s 21) (.s 26)⟩,
    ⟨some 28, none, .mv (.s 27)⟩,
    ⟨some 29, some (28, false), .mv (.s 0)⟩,
    ⟨some 30, some (28, false), .mv (.s 5)⟩,
    ⟨some 31, some (28, false), .ia 2 (.s 29) (.s 30)⟩,
    ⟨some 32, some (28, false), .fa 1 (.s 31)⟩,
    ⟨some 33, some (28, false), .ld false 1 (.s 32)⟩,
    ⟨some 34, some (28, false), .mv (.s 1)⟩,
    ⟨some 35, some (28, false), .mv (.s 5)⟩,
    ⟨some 36, some (28, false), .ia 2 (.s 34) (.s 35)⟩,
    ⟨some 37, some (28, false), .fa 1 (.s 36)⟩,
    ⟨some 38, some (28, false), .ld false 1 (.s 37)⟩,
    ⟨some 39, some (28, false), .call 50 [(.s 33), (.s 38)]⟩,
    ⟨some 40, some (28, false), .un .not (.s 39)⟩,
    ⟨some 41, none, .pick (.s 28) (.c (.t (.bool true))) (.s 40)⟩] [[], [], [0, 1], [2], [3], [], [], [5, 6], [7], [8], [4, 9], [10], [11], [11], [12, 13, 11], [14, 11], [15, 11], [11], [11], [17, 18, 11], [19, 11], [20, 11], [16, 21, 11, 11], [22, 11], [11, 23]] [0, 1, 5, 41]) c51_3)
def c51_5 : ACode :=
  (.seq (.block 1 c51_4) c51_1)
def c51_6 : ACode :=
  (.cond (.s 14) .skip (.exit 0))
def c51_7 : ACode :=
  (.seq (.seq (.region false [⟨some 11, none, .mv (.s 5)⟩,
    ⟨some 12, none, .mv (.s 0)⟩,
    ⟨some 13, none, .len (.s 12)⟩,
    ⟨some 14, none, .bin .lss (.s 11) (.s 13)⟩] [] [0, 1, 5, 14]) c51_6) c51_5)
def c51_8 : ACode :=
  (.loop c51_7)
def c51_9 : ACode :=
  (.block 0 c51_8)
def c51_10 : ACode :=
  (.seq (.seq (.region false [⟨some 5, none, .cst (.t (.int .i64 0))⟩] [] [0, 1, 5]) c51_9) c51_0)
def c51_11 : ACode :=
  (.seq (.region false [⟨some 4, none, .cst (.t (.bool false))⟩] [] [4]) .ret)
def c51_12 : ACode :=
  (.cond (.s 10) c51_11 .skip)
def c51_13 : ACode :=
  (.seq (.seq (.region false [⟨some 6, none, .mv (.s 0)⟩,
    ⟨some 7, none, .len (.s 6)⟩,
    ⟨some 8, none, .mv (.s 1)⟩,
    ⟨some 9, none, .len (.s 8)⟩,
    ⟨some 10, none, .bin .neq (.s 7) (.s 9)⟩] [] [0, 1, 10]) c51_12) c51_10)
def c51 : ACode :=
  (.seq (.region false [⟨some 4, none, .cst (.t (.bool false))⟩] [] [0, 1]) c51_13)
def r51 : List ARes := [.tmp 4]
def n51 : Nat := 42
/- 52 slices.IndexFunc[[]supergraph collect.Entry,supergraph collect.Entry] -/
def c52_0 : ACode :=
  (.seq (.region false [⟨some 4, none, .cst (.t (.int .i64 (-1)))⟩] [] [4]) .ret)
def c52_1 : ACode :=
  (.region false [⟨some 18, none, .bin .add (.s 8) (.c (.t (.int .i64 1)))⟩,
    ⟨some 8, none, .mv (.s 18)⟩] [] [0, 1, 7, 8])
def c52_2 : ACode :=
  (.seq (.region false [⟨some 17, none, .mv (.s 5)⟩,
    ⟨some 4, none, .mv (.s 17)⟩] [] [4]) .ret)
def c52_3 : ACode :=
  (.cond (.s 16) c52_2 .skip)
def c52_4 : ACode :=
  (.seq (.region false [⟨some 11, none, .mv (.s 1)⟩,
    ⟨some 12, none, .mv (.s 0)⟩,
    ⟨some 13, none, .mv (.s 5)⟩,
    ⟨some 14, none, .ia 8 (.s 12) (.s 13)⟩,
    ⟨some 15, none, .ld true 8 (.s 14)⟩,
    ⟨some 16, none, .callv (.s 11) [(.s 15)]⟩] [] [0, 1, 5, 7, 8, 16]) c52_3)
def c52_5 : ACode :=
  (.seq (.region false [⟨some 10, none, .mv (.s 8)⟩,
    ⟨some 5, none, .mv (.s 10)⟩] [] [0, 1, 5, 7, 8]) c52_4)
def c52_6 : ACode :=
  (.seq (.block 1 c52_5) c52_1)
def c52_7 : ACode :=
  (.seq (.cond (.s 9) .skip (.exit 0)) c52_6)
def c52_8 : ACode :=
  (.seq (.region false [⟨some 9, none, .bin .lss (.s 8) (.s 7)⟩] [] [0, 1, 7, 8, 9]) c52_7)
def c52_9 : ACode :=
  (.loop c52_8)
def c52_10 : ACode :=
  (.block 0 c52_9)
def c52_11 : ACode :=
  (.seq (.seq (.region false [⟨some 6, none, .mv (.s 0)⟩,
    ⟨some 7, none, .len (.s 6)⟩,
    ⟨some 8, none, .cst (.t (.int .i64 0))⟩] [] [0, 1, 7, 8]) c52_10) c52_0)
def c52 : ACode :=
  (.seq (.region false [⟨some 4, none, .cst (.t (.int .i64 0))⟩] [] [0, 1]) c52_11)
def r52 : List ARes := [.tmp 4]
def n52 : Nat := 19
/- 53 slices.Index[[]string,string] -/
def c53_0 : ACode :=
  (.seq (.region false [⟨some 4, none, .cst (.t (.int .i64 (-1)))⟩] [] [4]) .ret)
def c53_1 : ACode :=
  (.region false [⟨some 18, none, .bin .add (.s 8) (.c (.t (.int .i64 1)))⟩,
    ⟨some 8, none, .mv (.s 18)⟩] [] [0, 1, 7, 8])
def c53_2 : ACode :=
  (.seq (.region false [⟨some 17, none, .mv (.s 5)⟩,
    ⟨some 4, none, .mv (.s 17)⟩] [] [4]) .ret)
def c53_3 : ACode :=
  (.cond (.s 16) c53_2 .skip)
def c53_4 : ACode :=
  (.seq (.region false [⟨some 11, none, .mv (.s 1)⟩,
    ⟨some 12, none, .mv (.s 0)⟩,
    ⟨some 13, none, .mv (.s 5)⟩,
    ⟨some 14, none, .ia 1 (.s 12) (.s 13)⟩,
    ⟨some 15, none, .ld false 1 (.s 14)⟩,
    ⟨some 16, none, .bin .eql (.s 11) (.s 15)⟩] [] [0, 1, 5, 7, 8, 16]) c53_3)
def c53_5 : ACode :=
  (.seq (.region false [⟨some 10, none, .mv (.s 8)⟩,
    ⟨some 5, none, .mv (.s 10)⟩] [] [0, 1, 5, 7, 8]) c53_4)
def c53_6 : ACode :=
  (.seq (.block 1 c53_5) c53_1)
def c53_7 : ACode :=
  (.seq (.cond (.s 9) .skip (.exit 0)) c53_6)
def c53_8 : ACode :=
  (.seq (.region false [⟨some 9, none, .bin .lss (.s 8) (.s 7)⟩] [] [0, 1, 7, 8, 9]) c53_7)
def c53_9 : ACode :=
  (.loop c53_8)
def c53_10 : ACode :=
  (.block 0 c53_9)
def c53_11 : ACode :=
  (.seq (.seq (.region false [⟨some 6, none, .mv (.s 0)⟩,
    ⟨some 7, none, .len (.s 6)⟩,
    ⟨some 8, none, .cst (.t (.int .i64 0))⟩] [] [0, 1, 7, 8]) c53_10) c53_0)
def c53 : ACode :=
  (.seq (.region false [⟨some 4, none, .cst (.t (.int .i64 0))⟩] [] [0, 1]) c53_11)
def r53 : List ARes := [.tmp 4]
def n53 : Nat := 19
/- 54 supergraph schema.Find -/
def c54_0 : ACode :=
  (.seq (.region false [⟨some 21, none, .build [.t (.int .i64 0), .t (.str []), .nils, .nils, .nils, .nils, .nils] []⟩,
    ⟨none, none, .st 7 (.s 4) (.s 21)⟩,
    ⟨some 5, none, .cst (.t (.bool false))⟩] [] [4, 5]) .ret)
def c54_1 : ACode :=
  (.region false [⟨some 20, none, .bin .add (.s 11) (.c (.t (.int .i64 1)))⟩,
    ⟨some 11, none, .mv (.s 20)⟩] [] [1, 4, 9, 10, 11])
def c54_2 : ACode :=
  (.seq (.region false [⟨some 19, none, .ld true 7 (.s 7)⟩,
    ⟨none, none, .st 7 (.s 4) (.s 19)⟩,
    ⟨some 5, none, .cst (.t (.bool true))⟩] [] [4, 5]) .ret)
def c54_3 : ACode :=
  (.cond (.s 18) c54_2 .skip)
def c54_4 : ACode :=
  (.seq (.region false [⟨some 15, none, .fa 1 (.s 7)⟩,
    ⟨some 16, none, .ld false 1 (.s 15)⟩,
    ⟨some 17, none, .mv (.s 1)⟩,
    ⟨some 18, none, .bin .eql (.s 16) (.s 17)⟩] [] [1, 4, 7, 9, 10, 11, 18]) c54_3)
def c54_5 : ACode :=
  (.seq (.region false [⟨some 13, none, .ia 7 (.s 9) (.s 11)⟩,
    ⟨some 14, none, .ld true 7 (.s 13)⟩,
    ⟨some 7, none, .alloc [.t (.int .i64 0), .t (.str []), .nils, .nils, .nils, .nils, .nils]⟩,
    ⟨none, none, .st 7 (.s 7) (.s 14)⟩] [] [1, 4, 7, 9, 10, 11]) c54_4)
def c54_6 : ACode :=
  (.seq (.block 1 c54_5) c54_1)
def c54_7 : ACode :=
  (.seq (.cond (.s 12) .skip (.exit 0)) c54_6)
def c54_8 : ACode :=
  (.seq (.region false [⟨some 12, none, .bin .lss (.s 11) (.s 10)⟩] [] [1, 4, 9, 10, 11, 12]) c54_7)
def c54_9 : ACode :=
  (.loop c54_8)
def c54_10 : ACode :=
  (.block 0 c54_9)
def c54_11 : ACode :=
  (.seq (.seq (.region false [⟨some 8, none, .fa 0 (.s 2)⟩,
    ⟨some 9, none, .ld false 1 (.s 8)⟩,
    ⟨some 10, none, .len (.s 9)⟩,
    ⟨some 11, none, .cst (.t (.int .i64 0))⟩] [] [1, 4, 9, 10, 11]) c54_10) c54_0)
def c54 : ACode :=
  (.seq (.region false [⟨some 2, none, .box 1 (.s 0)⟩,
    ⟨some 4, none, .alloc [.t (.int .i64 0), .t (.str []), .nils, .nils, .nils, .nils, .nils]⟩,
    ⟨some 5, none, .cst (.t (.bool false))⟩] [] [1, 2, 4]) c54_11)
def r54 : List ARes := [.cell 4 true 7, .tmp 5]
def n54 : Nat := 22
/- 55 supergraph abstract.implements -/
def c55_0 : ACode :=
  (.seq (.region false [⟨some 5, none, .fa 2 (.s 2)⟩,
    ⟨some 6, none, .ld false 1 (.s 5)⟩,
    ⟨some 7, none, .mv (.s 1)⟩,
    ⟨some 8, none, .call 33 [(.s 6), (.s 7)]⟩,
    ⟨some 4, none, .mv (.s 8)⟩] [] [4]) .ret)
def c55 : ACode :=
  (.seq (.region false [⟨some 2, none, .box 7 (.s 0)⟩,
    ⟨some 4, none, .cst (.t (.bool false))⟩] [] [1, 2]) c55_0)
def r55 : List ARes := [.tmp 4]
def n55 : Nat := 9
/- 56 supergraph value.Copy -/
def c56_0 : ACode :=
  (.seq (.region false [⟨some 11, none, .ld true 5 (.s 1)⟩,
    ⟨none, none, .st 5 (.s 2) (.s 11)⟩] [] [2]) .ret)
def c56_1 : ACode :=
  (.seq (.region false [⟨some 7, none, .fa 4 (.s 1)⟩,
    ⟨some 8, none, .ld false 1 (.s 7)⟩,
    ⟨some 9, none, .call 66 [(.s 8)]⟩,
    ⟨some 10, none, .fa 4 (.s 1)⟩,
    ⟨none, none, .st 1 (.s 10) (.s 9)⟩] [] [1, 2]) c56_0)
def c56_2 : ACode :=
  (.seq (.region false [⟨some 3, none, .fa 3 (.s 1)⟩,
    ⟨some 4, none, .ld false 1 (.s 3)⟩,
    ⟨some 5, none, .call 65 [(.s 4)]⟩,
    ⟨some 6, none, .fa 3 (.s 1)⟩,
    ⟨none, none, .st 1 (.s 6) (.s 5)⟩] [] [1, 2]) c56_1)
def c56 : ACode :=
  (.seq (.region false [⟨some 1, none, .box 5 (.s 0)⟩,
    ⟨some 2, none, .alloc [.t (.int .i64 0), .t (.int .i64 0), .t (.str []), .nils, .nils]⟩] [] [1, 2]) c56_2)
def r56 : List ARes := [.cell 2 true 5]
def n56 : Nat := 12
/- 57 supergraph supergraphref02.Copy -/
def c57_0 : ACode :=
  (.seq (.region true [⟨some 3, none, .fa 0 (.s 1)⟩,
    ⟨some 4, none, .ld false 1 (.s 3)⟩,
    ⟨some 5, none, .fa 1 (.s 1)⟩,
    ⟨some 6, none, .ld false 1 (.s 5)⟩,
    ⟨some 7, none, .fa 2 (.s 1)⟩,
    ⟨some 8, none, .ld false 1 (.s 7)⟩,
    ⟨some 9, none, .fa 3 (.s 1)⟩,
    ⟨some 10, none, .ld false 1 (.s 9)⟩,
    ⟨some 11, none, .call 67 [(.s 10)]⟩,
    ⟨some 12, none, .bsl true 1 [] []⟩,
    ⟨some 13, none, .fa 4 (.s 1)⟩,
    ⟨some 14, none, .ld false 1 (.s 13)⟩,
    ⟨some 15, none, .app 1 16 (.s 12) (.s 14)⟩,
    ⟨some 16, none, .build [.t (.int .i64 0), .t (.int .i64 0), .t (.str []), .nils, .nils] [(0, 1, (.s 4)), (1, 1, (.s 6)), (2, 1, (.s 8)), (3, 1, (.s 11)), (4, 1, (.s 15))]⟩,
    ⟨none, none, .st 5 (.s 2) (.s 16)⟩] [[], [0], [], [2], [], [4], [], [6], [7], [], [], [10], [9, 11, 8], [1, 3, 5, 8, 12], [13, 12, 0, 1, 2, 3, 4, 5, 6, 7, 8, 9, 10, 11, 12, 13]] [2]) .ret)
def c57 : ACode :=
  (.seq (.region false [⟨some 1, none, .box 5 (.s 0)⟩,
    ⟨some 2, none, .alloc [.t (.int .i64 0), .t (.int .i64 0), .t (.str []), .nils, .nils]⟩] [] [1, 2]) c57_0)
def r57 : List ARes := [.cell 2 true 5]
def n57 : Nat := 17
/- 58 supergraph supergraphref02.Size -/
def c58_0 : ACode :=
  (.seq (.region false [⟨some 20, none, .mv (.s 3)⟩,
    ⟨some 2, none, .mv (.s 20)⟩] [] [2]) .ret)
def c58_1 : ACode :=
  (.region false [⟨some 10, none, .mv (.s 4)⟩,
    ⟨some 11, none, .bin .add (.s 10) (.c (.t (.int .i64 1)))⟩,
    ⟨some 4, none, .mv (.s 11)⟩] [] [1, 3, 4])
def c58_2 : ACode :=
  (.region false [⟨some 12, none, .mv (.s 3)⟩,
    ⟨some 13, none, .fa 3 (.s 1)⟩,
    ⟨some 14, none, .ld false 1 (.s 13)⟩,
    ⟨some 15, none, .mv (.s 4)⟩,
    ⟨some 16, none, .ia 5 (.s 14) (.s 15)⟩,
    ⟨some 17, none, .ld true 5 (.s 16)⟩,
    ⟨some 18, none, .call 58 [(.s 17)]⟩,
    ⟨some 19, none, .bin .add (.s 12) (.s 18)⟩,
    ⟨some 3, none, .mv (.s 19)⟩] [] [1, 3, 4])
def c58_3 : ACode :=
  (.seq (.block 1 c58_2) c58_1)
def c58_4 : ACode :=
  (.cond (.s 9) .skip (.exit 0))
def c58_5 : ACode :=
  (.seq (.seq (.region false [⟨some 5, none, .mv (.s 4)⟩,
    ⟨some 6, none, .fa 3 (.s 1)⟩,
    ⟨some 7, none, .ld false 1 (.s 6)⟩,
    ⟨some 8, none, .len (.s 7)⟩,
    ⟨some 9, none, .bin .lss (.s 5) (.s 8)⟩] [] [1, 3, 4, 9]) c58_4) c58_3)
def c58_6 : ACode :=
  (.loop c58_5)
def c58_7 : ACode :=
  (.block 0 c58_6)
def c58_8 : ACode :=
  (.seq (.seq (.region false [⟨some 4, none, .cst (.t (.int .i64 0))⟩] [] [1, 3, 4]) c58_7) c58_0)
def c58_9 : ACode :=
  (.seq (.region false [⟨some 3, none, .cst (.t (.int .i64 1))⟩] [] [1, 3]) c58_8)
def c58 : ACode :=
  (.seq (.region false [⟨some 1, none, .box 5 (.s 0)⟩,
    ⟨some 2, none, .cst (.t (.int .i64 0))⟩] [] [1]) c58_9)
def r58 : List ARes := [.tmp 2]
def n58 : Nat := 21
/- 59 slices.IndexFunc[[]supergraph collect.Group,supergraph collect.Group] -/
def c59_0 : ACode :=
  (.seq (.region false [⟨some 4, none, .cst (.t (.int .i64 (-1)))⟩] [] [4]) .ret)
def c59_1 : ACode :=
  (.region false [⟨some 18, none, .bin .add (.s 8) (.c (.t (.int .i64 1)))⟩,
    ⟨some 8, none, .mv (.s 18)⟩] [] [0, 1, 7, 8])
def c59_2 : ACode :=
  (.seq (.region false [⟨some 17, none, .mv (.s 5)⟩,
    ⟨some 4, none, .mv (.s 17)⟩] [] [4]) .ret)
def c59_3 : ACode :=
  (.cond (.s 16) c59_2 .skip)
def c59_4 : ACode :=
  (.seq (.region false [⟨some 11, none, .mv (.s 1)⟩,
    ⟨some 12, none, .mv (.s 0)⟩,
    ⟨some 13, none, .mv (.s 5)⟩,
    ⟨some 14, none, .ia 2 (.s 12) (.s 13)⟩,
    ⟨some 15, none, .ld true 2 (.s 14)⟩,
    ⟨some 16, none, .callv (.s 11) [(.s 15)]⟩] [] [0, 1, 5, 7, 8, 16]) c59_3)
def c59_5 : ACode :=
  (.seq (.region false [⟨some 10, none, .mv (.s 8)⟩,
    ⟨some 5, none, .mv (.s 10)⟩] [] [0, 1, 5, 7, 8]) c59_4)
def c59_6 : ACode :=
  (.seq (.block 1 c59_5) c59_1)
def c59_7 : ACode :=
  (.seq (.cond (.s 9) .skip (.exit 0)) c59_6)
def c59_8 : ACode :=
  (.seq (.region false [⟨some 9, none, .bin .lss (.s 8) (.s 7)⟩] [] [0, 1, 7, 8, 9]) c59_7)
def c59_9 : ACode :=
  (.loop c59_8)
def c59_10 : ACode :=
  (.block 0 c59_9)
def c59_11 : ACode :=
  (.seq (.seq (.region false [⟨some 6, none, .mv (.s 0)⟩,
    ⟨some 7, none, .len (.s 6)⟩,
    ⟨some 8, none, .cst (.t (.int .i64 0))⟩] [] [0, 1, 7, 8]) c59_10) c59_0)
def c59 : ACode :=
  (.seq (.region false [⟨some 4, none, .cst (.t (.int .i64 0))⟩] [] [0, 1]) c59_11)
def r59 : List ARes := [.tmp 4]
def n59 : Nat := 19
/- 60 (*supergraph collect.collector).field 1 -/
def c60_0 : ACode :=
  (.seq (.region false [⟨some 4, none, .fa 0 (.s 2)⟩,
    ⟨some 5, none, .ld false 1 (.s 4)⟩,
    ⟨some 6, none, .ld false 1 (.s 1)⟩,
    ⟨some 7, none, .bin .eql (.s 5) (.s 6)⟩,
    ⟨some 3, none, .mv (.s 7)⟩] [] [3]) .ret)
def c60 : ACode :=
  (.seq (.region false [⟨some 2, none, .box 2 (.s 0)⟩,
    ⟨some 3, none, .cst (.t (.bool false))⟩] [] [1, 2]) c60_0)
def r60 : List ARes := [.tmp 3]
def n60 : Nat := 8
/- 61 supergraph supergraphref11.has -/
def c61_0 : ACode :=
  (.seq (.region false [⟨some 4, none, .cst (.t (.bool false))⟩] [] [4]) .ret)
def c61_1 : ACode :=
  (.region false [⟨some 10, none, .mv (.s 5)⟩,
    ⟨some 11, none, .bin .add (.s 10) (.c (.t (.int .i64 1)))⟩,
    ⟨some 5, none, .mv (.s 11)⟩] [] [0, 1, 5])
def c61_2 : ACode :=
  (.seq (.region false [⟨some 4, none, .cst (.t (.bool true))⟩] [] [4]) .ret)
def c61_3 : ACode :=
  (.cond (.s 17) c61_2 .skip)
def c61_4 : ACode :=
  (.seq (.region false [⟨some 12, none, .mv (.s 0)⟩,
    ⟨some 13, none, .mv (.s 5)⟩,
    ⟨some 14, none, .ia 1 (.s 12) (.s 13)⟩,
    ⟨some 15, none, .ld false 1 (.s 14)⟩,
    ⟨some 16, none, .mv (.s 1)⟩,
    ⟨some 17, none, .bin .eql (.s 15) (.s 16)⟩] [] [0, 1, 5, 17]) c61_3)
def c61_5 : ACode :=
  (.seq (.block 1 c61_4) c61_1)
def c61_6 : ACode :=
  (.cond (.s 9) .skip (.exit 0))
def c61_7 : ACode :=
  (.seq (.seq (.region false [⟨some 6, none, .mv (.s 5)⟩,
    ⟨some 7, none, .mv (.s 0)⟩,
    ⟨some 8, none, .len (.s 7)⟩,
    ⟨some 9, none, .bin .lss (.s 6) (.s 8)⟩] [] [0, 1, 5, 9]) c61_6) c61_5)
def c61_8 : ACode :=
  (.loop c61_7)
def c61_9 : ACode :=
  (.block 0 c61_8)
def c61_10 : ACode :=
  (.seq (.seq (.region false [⟨some 5, none, .cst (.t (.int .i64 0))⟩] [] [0, 1, 5]) c61_9) c61_0)
def c61 : ACode :=
  (.seq (.region false [⟨some 4, none, .cst (.t (.bool false))⟩] [] [0, 1]) c61_10)
def r61 : List ARes := [.tmp 4]
def n61 : Nat := 18
/- 62 supergraph supergraphref11.Possible -/
def c62_0 : ACode :=
  (.seq (.region false [⟨some 80, none, .mv (.s 5)⟩,
    ⟨some 4, none, .mv (.s 80)⟩] [] [4]) .ret)
def c62_1 : ACode :=
  (.region false [⟨some 25, none, .mv (.s 8)⟩,
    ⟨some 26, none, .bin .add (.s 25) (.c (.t (.int .i64 1)))⟩,
    ⟨some 8, none, .mv (.s 26)⟩] [] [1, 2, 5, 6, 7, 8])
def c62_2 : ACode :=
  (.region false [⟨some 75, none, .mv (.s 5)⟩,
    ⟨some 76, none, .fa 1 (.s 9)⟩,
    ⟨some 77, none, .ld false 1 (.s 76)⟩,
    ⟨some 78, none, .bsl false 1 [[.str []]] [(0, (.s 77))]⟩,
    ⟨some 79, none, .app 1 16 (.s 75) (.s 78)⟩,
    ⟨some 5, none, .mv (.s 79)⟩] [] [1, 2, 5, 6, 7, 8])
def c62_3 : ACode :=
  (.cond (.s 74) c62_2 .skip)
def c62_4 : ACode :=
  (.seq (.region false [⟨some 74, none, .mv (.s 10)⟩] [] [1, 2, 5, 6, 7, 8, 9, 74]) c62_3)
def c62_5 : ACode :=
  (.seq (.region false [⟨some 62, none, .mv (.s 10)⟩,
    ⟨some 63, none, .mv (.s 62)⟩,
    ⟨some 64, some (63, false), .fa 0 (.s 6)⟩,
    ⟨some 65, some (63, false), .ld false 1 (.s 64)⟩,
    ⟨some 66, some (63, false), .bin .eql (.s 65) (.c (.t (.int .i64 3)))⟩,
    ⟨some 67, some (63, false), .mv (.s 66)⟩,
    ⟨some 68, some (67, true), .ld true 7 (.s 6)⟩,
    ⟨some 69, some (67, true), .fa 1 (.s 9)⟩,
    ⟨some 70, some (67, true), .ld false 1 (.s 69)⟩,
    ⟨some 71, some (67, true), .call 70 [(.s 68), (.s 70)]⟩,
    ⟨some 72, some (63, false), .pick (.s 67) (.s 71) (.c (.t (.bool false)))⟩,
    ⟨some 73, none, .pick (.s 63) (.c (.t (.bool true))) (.s 72)⟩,
    ⟨some 10, none, .mv (.s 73)⟩] [] [1, 2, 5, 6, 7, 8, 9, 10]) c62_4)
def c62_6 : ACode :=
  (.seq (.region false [⟨some 50, none, .mv (.s 10)⟩,
    ⟨some 51, none, .mv (.s 50)⟩,
    ⟨some 52, some (51, false), .fa 0 (.s 6)⟩,
    ⟨some 53, some (51, false), .ld false 1 (.s 52)⟩,
    ⟨some 54, some (51, false), .bin .eql (.s 53) (.c (.t (.int .i64 2)))⟩,
    ⟨some 55, some (51, false), .mv (.s 54)⟩,
    ⟨some 56, some (55, true), .fa 2 (.s 9)⟩,
    ⟨some 57, some (55, true), .ld false 1 (.s 56)⟩,
    ⟨some 58, some (55, true), .mv (.s 1)⟩,
    ⟨some 59, some (55, true), .call 61 [(.s 57), (.s 58)]⟩,
    ⟨some 60, some (51, false), .pick (.s 55) (.s 59) (.c (.t (.bool false)))⟩,
    ⟨some 61, none, .pick (.s 51) (.c (.t (.bool true))) (.s 60)⟩,
    ⟨some 10, none, .mv (.s 61)⟩] [] [1, 2, 5, 6, 7, 8, 9, 10]) c62_5)
def c62_7 : ACode :=
  (.seq (.region false [⟨some 41, none, .fa 0 (.s 6)⟩,
    ⟨some 42, none, .ld false 1 (.s 41)⟩,
    ⟨some 43, none, .bin .eql (.s 42) (.c (.t (.int .i64 1)))⟩,
    ⟨some 44, none, .mv (.s 43)⟩,
    ⟨some 45, some (44, true), .fa 1 (.s 9)⟩,
    ⟨some 46, some (44, true), .ld false 1 (.s 45)⟩,
    ⟨some 47, some (44, true), .mv (.s 1)⟩,
    ⟨some 48, some (44, true), .bin .eql (.s 46) (.s 47)⟩,
    ⟨some 49, none, .pick (.s 44) (.s 48) (.c (.t (.bool false)))⟩,
    ⟨some 10, none, .mv (.s 49)⟩] [] [1, 2, 5, 6, 7, 8, 9, 10]) c62_6)
def c62_8 : ACode :=
  (.cond (.s 40) (.exit 1) .skip)
def c62_9 : ACode :=
  (.seq (.seq (.region false [⟨some 32, none, .fa 0 (.s 9)⟩,
    ⟨some 33, none, .ld false 1 (.s 32)⟩,
    ⟨some 34, none, .bin .neq (.s 33) (.c (.t (.int .i64 1)))⟩,
    ⟨some 35, none, .mv (.s 34)⟩,
    ⟨some 36, some (35, false), .ld true 1 (.s 2)⟩,
    ⟨some 37, some (35, false), .mv (.s 8)⟩,
    ⟨some 38, some (35, false), .call 69 [(.s 36), (.s 37)]⟩,
    ⟨some 39, some (35, false), .un .not (.s 38)⟩,
    ⟨some 40, none, .pick (.s 35) (.c (.t (.bool true))) (.s 39)⟩] [] [1, 2, 5, 6, 7, 8, 9, 40]) c62_8) c62_7)
def c62_10 : ACode :=
  (.seq (.region false [⟨some 27, none, .fa 0 (.s 2)⟩,
    ⟨some 28, none, .ld false 1 (.s 27)⟩,
    ⟨some 29, none, .mv (.s 8)⟩,
    ⟨some 30, none, .ia 7 (.s 28) (.s 29)⟩,
    ⟨some 31, none, .ld true 7 (.s 30)⟩,
    ⟨some 9, none, .alloc [.t (.int .i64 0), .t (.str []), .nils, .nils, .nils, .nils, .nils]⟩,
    ⟨none, none, .st 7 (.s 9) (.s 31)⟩] [] [1, 2, 5, 6, 7, 8, 9]) c62_9)
def c62_11 : ACode :=
  (.seq (.block 1 c62_10) c62_1)
def c62_12 : ACode :=
  (.cond (.s 24) .skip (.exit 0))
def c62_13 : ACode :=
  (.seq (.seq (.region false [⟨some 17, none, .mv (.s 8)⟩,
    ⟨some 18, none, .fa 0 (.s 2)⟩,
    ⟨some 19, none, .ld false 1 (.s 18)⟩,
    ⟨some 20, none, .len (.s 19)⟩,
    ⟨some 21, none, .bin .lss (.s 17) (.s 20)⟩,
    ⟨some 22, none, .mv (.s 21)⟩,
    ⟨some 23, some (22, true), .mv (.s 7)⟩,
    ⟨some 24, none, .pick (.s 22) (.s 23) (.c (.t (.bool false)))⟩] [] [1, 2, 5, 6, 7, 8, 24]) c62_12) c62_11)
def c62_14 : ACode :=
  (.loop c62_13)
def c62_15 : ACode :=
  (.block 0 c62_14)
def c62_16 : ACode :=
  (.seq (.seq (.region false [⟨some 8, none, .cst (.t (.int .i64 0))⟩] [] [1, 2, 5, 6, 7, 8]) c62_15) c62_0)
def c62_17 : ACode :=
  (.seq (.region false [⟨some 12, none, .ld true 1 (.s 2)⟩,
    ⟨some 13, none, .mv (.s 1)⟩,
    ⟨some 14, none, .call 68 [(.s 12), (.s 13)]⟩,
    ⟨some 11, none, .mv (.s 14)⟩,
    ⟨some 15, none, .ext (.s 11) 0⟩,
    ⟨some 16, none, .ext (.s 11) 1⟩,
    ⟨some 6, none, .alloc [.t (.int .i64 0), .t (.str []), .nils, .nils, .nils, .nils, .nils]⟩,
    ⟨none, none, .st 7 (.s 6) (.s 15)⟩,
    ⟨some 7, none, .mv (.s 16)⟩] [] [1, 2, 5, 6, 7]) c62_16)
def c62_18 : ACode :=
  (.seq (.region false [⟨some 5, none, .cst (.nils)⟩] [] [1, 2, 5]) c62_17)
def c62 : ACode :=
  (.seq (.region false [⟨some 2, none, .box 1 (.s 0)⟩,
    ⟨some 4, none, .cst (.nils)⟩] [] [1, 2]) c62_18)
def r62 : List ARes := [.tmp 4]
def n62 : Nat := 81
/- 63 supergraph supergraphref18.key -/
def c63_0 : ACode :=
  (.seq (.region false [⟨some 8, none, .fa 2 (.s 1)⟩,
    ⟨some 9, none, .ld false 1 (.s 8)⟩,
    ⟨some 2, none, .mv (.s 9)⟩] [] [2]) .ret)
def c63_1 : ACode :=
  (.seq (.region false [⟨some 6, none, .fa 1 (.s 1)⟩,
    ⟨some 7, none, .ld false 1 (.s 6)⟩,
    ⟨some 2, none, .mv (.s 7)⟩] [] [2]) .ret)
def c63_2 : ACode :=
  (.cond (.s 5) c63_1 .skip)
def c63_3 : ACode :=
  (.seq (.seq (.region false [⟨some 3, none, .fa 1 (.s 1)⟩,
    ⟨some 4, none, .ld false 1 (.s 3)⟩,
    ⟨some 5, none, .bin .neq (.s 4) (.c (.t (.str [])))⟩] [] [1, 5]) c63_2) c63_0)
def c63 : ACode :=
  (.seq (.region false [⟨some 1, none, .box 7 (.s 0)⟩,
    ⟨some 2, none, .cst (.t (.str []))⟩] [] [1]) c63_3)
def r63 : List ARes := [.tmp 2]
def n63 : Nat := 10
/- 64 supergraph supergraphref02.Same -/
def c64_0 : ACode :=
  (.seq (.region false [⟨some 5, none, .ld true 5 (.s 2)⟩,
    ⟨some 6, none, .ld true 5 (.s 3)⟩,
    ⟨some 7, none, .call 71 [(.s 5), (.s 6)]⟩,
    ⟨some 8, none, .bin .eql (.s 7) (.c (.t (.int .i64 0)))⟩,
    ⟨some 4, none, .mv (.s 8)⟩] [] [4]) .ret)
def c64 : ACode :=
  (.seq (.region false [⟨some 2, none, .box 5 (.s 0)⟩,
    ⟨some 3, none, .box 5 (.s 1)⟩,
    ⟨some 4, none, .cst (.t (.bool false))⟩] [] [2, 3]) c64_0)
def r64 : List ARes := [.tmp 4]
def n64 : Nat := 9
/- 65 supergraph value.copies -/
def c65_0 : ACode :=
  (.seq (.region false [⟨some 18, none, .mv (.s 3)⟩,
    ⟨some 2, none, .mv (.s 18)⟩] [] [2]) .ret)
def c65_1 : ACode :=
  (.region false [⟨some 17, none, .bin .add (.s 8) (.c (.t (.int .i64 1)))⟩,
    ⟨some 8, none, .mv (.s 17)⟩] [] [3, 6, 7, 8])
def c65_2 : ACode :=
  (.region false [⟨some 12, none, .mv (.s 3)⟩,
    ⟨some 13, none, .ld true 5 (.s 5)⟩,
    ⟨some 14, none, .call 56 [(.s 13)]⟩,
    ⟨some 15, none, .bsl false 5 [[.int .i64 0, .int .i64 0, .str [], .lst [], .lst []]] [(0, (.s 14))]⟩,
    ⟨some 16, none, .app 5 80 (.s 12) (.s 15)⟩,
    ⟨some 3, none, .mv (.s 16)⟩] [] [3, 6, 7, 8])
def c65_3 : ACode :=
  (.seq (.region false [⟨some 10, none, .ia 5 (.s 6) (.s 8)⟩,
    ⟨some 11, none, .ld true 5 (.s 10)⟩,
    ⟨some 5, none, .alloc [.t (.int .i64 0), .t (.int .i64 0), .t (.str []), .nils, .nils]⟩,
    ⟨none, none, .st 5 (.s 5) (.s 11)⟩] [] [3, 5, 6, 7, 8]) c65_2)
def c65_4 : ACode :=
  (.seq (.block 1 c65_3) c65_1)
def c65_5 : ACode :=
  (.seq (.cond (.s 9) .skip (.exit 0)) c65_4)
def c65_6 : ACode :=
  (.seq (.region false [⟨some 9, none, .bin .lss (.s 8) (.s 7)⟩] [] [3, 6, 7, 8, 9]) c65_5)
def c65_7 : ACode :=
  (.loop c65_6)
def c65_8 : ACode :=
  (.block 0 c65_7)
def c65_9 : ACode :=
  (.seq (.seq (.region false [⟨some 6, none, .mv (.s 0)⟩,
    ⟨some 7, none, .len (.s 6)⟩,
    ⟨some 8, none, .cst (.t (.int .i64 0))⟩] [] [3, 6, 7, 8]) c65_8) c65_0)
def c65_10 : ACode :=
  (.seq (.region false [⟨some 3, none, .cst (.nils)⟩] [] [0, 3]) c65_9)
def c65 : ACode :=
  (.seq (.region false [⟨some 2, none, .cst (.nils)⟩] [] [0]) c65_10)
def r65 : List ARes := [.tmp 2]
def n65 : Nat := 19
/- 66 slices.Clone[[]string,string] -/
def c66_0 : ACode :=
  (.seq (.region false [⟨some 5, none, .bsl true 1 [] []⟩,
    ⟨some 6, none, .mv (.s 0)⟩,
    ⟨some 7, none, .app 1 16 (.s 5) (.s 6)⟩,
    ⟨some 2, none, .mv (.s 7)⟩] [] [2]) .ret)
def c66_1 : ACode :=
  (.seq (.region false [⟨some 2, none, .cst (.nils)⟩] [] [2]) .ret)
def c66_2 : ACode :=
  (.cond (.s 4) c66_1 .skip)
def c66_3 : ACode :=
  (.seq (.seq (.region false [⟨some 3, none, .mv (.s 0)⟩,
    ⟨some 4, none, .nw (.eqn false (.s 3))⟩] [] [0, 4]) c66_2) c66_0)
def c66 : ACode :=
  (.seq (.region false [⟨some 2, none, .cst (.nils)⟩] [] [0]) c66_3)
def r66 : List ARes := [.tmp 2]
def n66 : Nat := 8
/- 67 supergraph supergraphref02.copies -/
def c67_0 : ACode :=
  (.seq (.region false [⟨some 19, none, .mv (.s 3)⟩,
    ⟨some 2, none, .mv (.s 19)⟩] [] [2]) .ret)
def c67_1 : ACode :=
  (.region false [⟨some 9, none, .mv (.s 4)⟩,
    ⟨some 10, none, .bin .add (.s 9) (.c (.t (.int .i64 1)))⟩,
    ⟨some 4, none, .mv (.s 10)⟩] [] [0, 3, 4])
def c67_2 : ACode :=
  (.region false [⟨some 11, none, .mv (.s 3)⟩,
    ⟨some 12, none, .mv (.s 0)⟩,
    ⟨some 13, none, .mv (.s 4)⟩,
    ⟨some 14, none, .ia 5 (.s 12) (.s 13)⟩,
    ⟨some 15, none, .ld true 5 (.s 14)⟩,
    ⟨some 16, none, .call 57 [(.s 15)]⟩,
    ⟨some 17, none, .bsl false 5 [[.int .i64 0, .int .i64 0, .str [], .lst [], .lst []]] [(0, (.s 16))]⟩,
    ⟨some 18, none, .app 5 80 (.s 11) (.s 17)⟩,
    ⟨some 3, none, .mv (.s 18)⟩] [] [0, 3, 4])
def c67_3 : ACode :=
  (.seq (.block 1 c67_2) c67_1)
def c67_4 : ACode :=
  (.cond (.s 8) .skip (.exit 0))
def c67_5 : ACode :=
  (.seq (.seq (.region false [⟨some 5, none, .mv (.s 4)⟩,
    ⟨some 6, none, .mv (.s 0)⟩,
    ⟨some 7, none, .len (.s 6)⟩,
    ⟨some 8, none, .bin .lss (.s 5) (.s 7)⟩] [] [0, 3, 4, 8]) c67_4) c67_3)
def c67_6 : ACode :=
  (.loop c67_5)
def c67_7 : ACode :=
  (.block 0 c67_6)
def c67_8 : ACode :=
  (.seq (.seq (.region false [⟨some 4, none, .cst (.t (.int .i64 0))⟩] [] [0, 3, 4]) c67_7) c67_0)
def c67_9 : ACode :=
  (.seq (.region false [⟨some 3, none, .cst (.nils)⟩] [] [0, 3]) c67_8)
def c67 : ACode :=
  (.seq (.region false [⟨some 2, none, .cst (.nils)⟩] [] [0]) c67_9)
def r67 : List ARes := [.tmp 2]
def n67 : Nat := 20
/- 68 supergraph supergraphref10.Find -/
def c68_0 : ACode :=
  (.seq (.region false [⟨some 27, none, .build [.t (.int .i64 0), .t (.str []), .nils, .nils, .nils, .nils, .nils] []⟩,
    ⟨none, none, .st 7 (.s 4) (.s 27)⟩,
    ⟨some 5, none, .cst (.t (.bool false))⟩] [] [4, 5]) .ret)
def c68_1 : ACode :=
  (.region false [⟨some 12, none, .mv (.s 6)⟩,
    ⟨some 13, none, .bin .add (.s 12) (.c (.t (.int .i64 1)))⟩,
    ⟨some 6, none, .mv (.s 13)⟩] [] [1, 2, 4, 6])
def c68_2 : ACode :=
  (.seq (.region false [⟨some 22, none, .fa 0 (.s 2)⟩,
    ⟨some 23, none, .ld false 1 (.s 22)⟩,
    ⟨some 24, none, .mv (.s 6)⟩,
    ⟨some 25, none, .ia 7 (.s 23) (.s 24)⟩,
    ⟨some 26, none, .ld true 7 (.s 25)⟩,
    ⟨none, none, .st 7 (.s 4) (.s 26)⟩,
    ⟨some 5, none, .cst (.t (.bool true))⟩] [] [4, 5]) .ret)
def c68_3 : ACode :=
  (.cond (.s 21) c68_2 .skip)
def c68_4 : ACode :=
  (.seq (.region false [⟨some 14, none, .fa 0 (.s 2)⟩,
    ⟨some 15, none, .ld false 1 (.s 14)⟩,
    ⟨some 16, none, .mv (.s 6)⟩,
    ⟨some 17, none, .ia 7 (.s 15) (.s 16)⟩,
    ⟨some 18, none, .fa 1 (.s 17)⟩,
    ⟨some 19, none, .ld false 1 (.s 18)⟩,
    ⟨some 20, none, .mv (.s 1)⟩,
    ⟨some 21, none, .bin .eql (.s 19) (.s 20)⟩] [] [1, 2, 4, 6, 21]) c68_3)
def c68_5 : ACode :=
  (.seq (.block 1 c68_4) c68_1)
def c68_6 : ACode :=
  (.cond (.s 11) .skip (.exit 0))
def c68_7 : ACode :=
  (.seq (.seq (.region false [⟨some 7, none, .mv (.s 6)⟩,
    ⟨some 8, none, .fa 0 (.s 2)⟩,
    ⟨some 9, none, .ld false 1 (.s 8)⟩,
    ⟨some 10, none, .len (.s 9)⟩,
    ⟨some 11, none, .bin .lss (.s 7) (.s 10)⟩] [] [1, 2, 4, 6, 11]) c68_6) c68_5)
def c68_8 : ACode :=
  (.loop c68_7)
def c68_9 : ACode :=
  (.block 0 c68_8)
def c68_10 : ACode :=
  (.seq (.seq (.region false [⟨some 6, none, .cst (.t (.int .i64 0))⟩] [] [1, 2, 4, 6]) c68_9) c68_0)
def c68 : ACode :=
  (.seq (.region false [⟨some 2, none, .box 1 (.s 0)⟩,
    ⟨some 4, none, .alloc [.t (.int .i64 0), .t (.str []), .nils, .nils, .nils, .nils, .nils]⟩,
    ⟨some 5, none, .cst (.t (.bool false))⟩] [] [1, 2, 4]) c68_10)
def r68 : List ARes := [.cell 4 true 7, .tmp 5]
def n68 : Nat := 28
/- 69 supergraph supergraphref11.first -/
def c69_0 : ACode :=
  (.seq (.region false [⟨some 4, none, .cst (.t (.bool true))⟩] [] [4]) .ret)
def c69_1 : ACode :=
  (.region false [⟨some 9, none, .mv (.s 5)⟩,
    ⟨some 10, none, .bin .add (.s 9) (.c (.t (.int .i64 1)))⟩,
    ⟨some 5, none, .mv (.s 10)⟩] [] [1, 2, 5])
def c69_2 : ACode :=
  (.seq (.region false [⟨some 4, none, .cst (.t (.bool false))⟩] [] [4]) .ret)
def c69_3 : ACode :=
  (.cond (.s 23) c69_2 .skip)
def c69_4 : ACode :=
  (.seq (.region true [⟨some 11, none, .fa 0 (.s 2)⟩,
    ⟨some 12, none, .ld false 1 (.s 11)⟩,
    ⟨some 13, none, .mv (.s 5)⟩,
    ⟨some 14, none, .ia 7 (.s 12) (.s 13)⟩,
    ⟨some 15, none, .fa 1 (.s 14)⟩,
    ⟨some 16, none, .ld false 1 (.s 15)⟩,
    ⟨some 17, none, .fa 0 (.s 2)⟩,
    ⟨some 18, none, .ld false 1 (.s 17)⟩,
    ⟨some 19, none, .mv (.s 1)⟩,
    ⟨some 20, none, .ia 7 (.s 18) (.s 19)⟩,
    ⟨some 21, none, .fa 1 (.s 20)⟩,
    ⟨some 22, none, .ld false 1 (.s 21)⟩,
    ⟨some 23, none, .bin .eql (.s 16) (.s 22)⟩] [[], [0], [], [1, 2], [3], [4], [], [6], [], [7, 8], [9], [10], [5, 11]] [1, 2, 5, 23]) c69_3)
def c69_5 : ACode :=
  (.seq (.block 1 c69_4) c69_1)
def c69_6 : ACode :=
  (.cond (.s 8) .skip (.exit 0))
def c69_7 : ACode :=
  (.seq (.seq (.region false [⟨some 6, none, .mv (.s 5)⟩,
    ⟨some 7, none, .mv (.s 1)⟩,
    ⟨some 8, none, .bin .lss (.s 6) (.s 7)⟩] [] [1, 2, 5, 8]) c69_6) c69_5)
def c69_8 : ACode :=
  (.loop c69_7)
def c69_9 : ACode :=
  (.block 0 c69_8)
def c69_10 : ACode :=
  (.seq (.seq (.region false [⟨some 5, none, .cst (.t (.int .i64 0))⟩] [] [1, 2, 5]) c69_9) c69_0)
def c69 : ACode :=
  (.seq (.region false [⟨some 2, none, .box 1 (.s 0)⟩,
    ⟨some 4, none, .cst (.t (.bool false))⟩] [] [1, 2]) c69_10)
def r69 : List ARes := [.tmp 4]
def n69 : Nat := 24
/- 70 supergraph supergraphref11.member -/
def c70_0 : ACode :=
  (.seq (.region false [⟨some 4, none, .cst (.t (.bool false))⟩] [] [4]) .ret)
def c70_1 : ACode :=
  (.region false [⟨some 11, none, .mv (.s 5)⟩,
    ⟨some 12, none, .bin .add (.s 11) (.c (.t (.int .i64 1)))⟩,
    ⟨some 5, none, .mv (.s 12)⟩] [] [1, 2, 5])
def c70_2 : ACode :=
  (.seq (.region false [⟨some 4, none, .cst (.t (.bool true))⟩] [] [4]) .ret)
def c70_3 : ACode :=
  (.cond (.s 20) c70_2 .skip)
def c70_4 : ACode :=
  (.seq (.region false [⟨some 13, none, .fa 5 (.s 2)⟩,
    ⟨some 14, none, .ld false 1 (.s 13)⟩,
    ⟨some 15, none, .mv (.s 5)⟩,
    ⟨some 16, none, .ia 2 (.s 14) (.s 15)⟩,
    ⟨some 17, none, .fa 0 (.s 16)⟩,
    ⟨some 18, none, .ld false 1 (.s 17)⟩,
    ⟨some 19, none, .mv (.s 1)⟩,
    ⟨some 20, none, .bin .eql (.s 18) (.s 19)⟩] [] [1, 2, 5, 20]) c70_3)
def c70_5 : ACode :=
  (.seq (.block 1 c70_4) c70_1)
def c70_6 : ACode :=
  (.cond (.s 10) .skip (.exit 0))
def c70_7 : ACode :=
  (.seq (.seq (.region false [⟨some 6, none, .mv (.s 5)⟩,
    ⟨some 7, none, .fa 5 (.s 2)⟩,
    ⟨some 8, none, .ld false 1 (.s 7)⟩,
    ⟨some 9, none, .len (.s 8)⟩,
    ⟨some 10, none, .bin .lss (.s 6) (.s 9)⟩] [] [1, 2, 5, 10]) c70_6) c70_5)
def c70_8 : ACode :=
  (.loop c70_7)
def c70_9 : ACode :=
  (.block 0 c70_8)
def c70_10 : ACode :=
  (.seq (.seq (.region false [⟨some 5, none, .cst (.t (.int .i64 0))⟩] [] [1, 2, 5]) c70_9) c70_0)
def c70 : ACode :=
  (.seq (.region false [⟨some 2, none, .box 7 (.s 0)⟩,
    ⟨some 4, none, .cst (.t (.bool false))⟩] [] [1, 2]) c70_10)
def r70 : List ARes := [.tmp 4]
def n70 : Nat := 21
/- 71 supergraph supergraphref02.Compare -/
def c71_0 : ACode :=
  (.seq (.region false [⟨some 69, none, .mv (.s 5)⟩,
    ⟨some 4, none, .mv (.s 69)⟩] [] [4]) .ret)
def c71_1 : ACode :=
  (.region false [⟨some 28, none, .mv (.s 6)⟩,
    ⟨some 29, none, .bin .add (.s 28) (.c (.t (.int .i64 1)))⟩,
    ⟨some 6, none, .mv (.s 29)⟩] [] [2, 3, 5, 6])
def c71_2 : ACode :=
  (.region true [⟨some 58, none, .fa 3 (.s 2)⟩,
    ⟨some 59, none, .ld false 1 (.s 58)⟩,
    ⟨some 60, none, .mv (.s 6)⟩,
    ⟨some 61, none, .ia 5 (.s 59) (.s 60)⟩,
    ⟨some 62, none, .ld true 5 (.s 61)⟩,
    ⟨some 63, none, .fa 3 (.s 3)⟩,
    ⟨some 64, none, .ld false 1 (.s 63)⟩,
    ⟨some 65, none, .mv (.s 6)⟩,
    ⟨some 66, none, .ia 5 (.s 64) (.s 65)⟩,
    ⟨some 67, none, .ld true 5 (.s 66)⟩,
    ⟨some 68, none, .call 71 [(.s 62), (.s 67)]⟩,
    ⟨some 5, none, .mv (.s 68)⟩] [[], [0], [], [1, 2], [3], [], [5], [], [6, 7], [8], [4, 9], [10, 10, 0, 1, 2, 3, 4, 5, 6, 7, 8, 9, 10]] [2, 3, 5, 6])
def c71_3 : ACode :=
  (.cond (.s 57) c71_2 .skip)
def c71_4 : ACode :=
  (.seq (.region false [⟨some 56, none, .mv (.s 5)⟩,
    ⟨some 57, none, .bin .eql (.s 56) (.c (.t (.int .i64 0)))⟩] [] [2, 3, 5, 6, 57]) c71_3)
def c71_5 : ACode :=
  (.seq (.region true [⟨some 49, none, .ld true 5 (.s 2)⟩,
    ⟨some 50, none, .mv (.s 6)⟩,
    ⟨some 51, none, .call 74 [(.s 49), (.s 50)]⟩,
    ⟨some 52, none, .ld true 5 (.s 3)⟩,
    ⟨some 53, none, .mv (.s 6)⟩,
    ⟨some 54, none, .call 74 [(.s 52), (.s 53)]⟩,
    ⟨some 55, none, .call 73 [(.s 51), (.s 54)]⟩,
    ⟨some 5, none, .mv (.s 55)⟩] [[], [], [0, 1], [], [], [3, 4, 2], [2, 5, 5], [6, 6, 0, 1, 2, 3, 4, 5, 6]] [2, 3, 5, 6]) c71_4)
def c71_6 : ACode :=
  (.seq (.region false [⟨some 42, none, .fa 3 (.s 2)⟩,
    ⟨some 43, none, .ld false 1 (.s 42)⟩,
    ⟨some 44, none, .len (.s 43)⟩,
    ⟨some 45, none, .fa 3 (.s 3)⟩,
    ⟨some 46, none, .ld false 1 (.s 45)⟩,
    ⟨some 47, none, .len (.s 46)⟩,
    ⟨some 48, none, .call 72 [(.s 44), (.s 47)]⟩,
    ⟨some 4, none, .mv (.s 48)⟩] [] [4]) .ret)
def c71_7 : ACode :=
  (.cond (.s 41) c71_6 .skip)
def c71_8 : ACode :=
  (.seq (.seq (.region false [⟨some 30, none, .mv (.s 6)⟩,
    ⟨some 31, none, .fa 3 (.s 2)⟩,
    ⟨some 32, none, .ld false 1 (.s 31)⟩,
    ⟨some 33, none, .len (.s 32)⟩,
    ⟨some 34, none, .bin .geq (.s 30) (.s 33)⟩,
    ⟨some 35, none, .mv (.s 34)⟩,
    ⟨some 36, some (35, false), .mv (.s 6)⟩,
    ⟨some 37, some (35, false), .fa 3 (.s 3)⟩,
    ⟨some 38, some (35, false), .ld false 1 (.s 37)⟩,
    ⟨some 39, some (35, false), .len (.s 38)⟩,
    ⟨some 40, some (35, false), .bin .geq (.s 36) (.s 39)⟩,
    ⟨some 41, none, .pick (.s 35) (.c (.t (.bool true))) (.s 40)⟩] [] [2, 3, 6, 41]) c71_7) c71_5)
def c71_9 : ACode :=
  (.seq (.block 1 c71_8) c71_1)
def c71_10 : ACode :=
  (.cond (.s 27) .skip (.exit 0))
def c71_11 : ACode :=
  (.seq (.seq (.region false [⟨some 26, none, .mv (.s 5)⟩,
    ⟨some 27, none, .bin .eql (.s 26) (.c (.t (.int .i64 0)))⟩] [] [2, 3, 5, 6, 27]) c71_10) c71_9)
def c71_12 : ACode :=
  (.loop c71_11)
def c71_13 : ACode :=
  (.block 0 c71_12)
def c71_14 : ACode :=
  (.seq (.seq (.region false [⟨some 6, none, .cst (.t (.int .i64 0))⟩] [] [2, 3, 5, 6]) c71_13) c71_0)
def c71_15 : ACode :=
  (.region false [⟨some 21, none, .fa 2 (.s 2)⟩,
    ⟨some 22, none, .ld false 1 (.s 21)⟩,
    ⟨some 23, none, .fa 2 (.s 3)⟩,
    ⟨some 24, none, .ld false 1 (.s 23)⟩,
    ⟨some 25, none, .call 73 [(.s 22), (.s 24)]⟩,
    ⟨some 5, none, .mv (.s 25)⟩] [] [2, 3, 5])
def c71_16 : ACode :=
  (.cond (.s 20) c71_15 .skip)
def c71_17 : ACode :=
  (.seq (.seq (.region false [⟨some 19, none, .mv (.s 5)⟩,
    ⟨some 20, none, .bin .eql (.s 19) (.c (.t (.int .i64 0)))⟩] [] [2, 3, 5, 20]) c71_16) c71_14)
def c71_18 : ACode :=
  (.region false [⟨some 14, none, .fa 1 (.s 2)⟩,
    ⟨some 15, none, .ld false 1 (.s 14)⟩,
    ⟨some 16, none, .fa 1 (.s 3)⟩,
    ⟨some 17, none, .ld false 1 (.s 16)⟩,
    ⟨some 18, none, .call 72 [(.s 15), (.s 17)]⟩,
    ⟨some 5, none, .mv (.s 18)⟩] [] [2, 3, 5])
def c71_19 : ACode :=
  (.cond (.s 13) c71_18 .skip)
def c71_20 : ACode :=
  (.seq (.seq (.region false [⟨some 12, none, .mv (.s 5)⟩,
    ⟨some 13, none, .bin .eql (.s 12) (.c (.t (.int .i64 0)))⟩] [] [2, 3, 5, 13]) c71_19) c71_17)
def c71_21 : ACode :=
  (.seq (.region false [⟨some 7, none, .fa 0 (.s 2)⟩,
    ⟨some 8, none, .ld false 1 (.s 7)⟩,
    ⟨some 9, none, .fa 0 (.s 3)⟩,
    ⟨some 10, none, .ld false 1 (.s 9)⟩,
    ⟨some 11, none, .call 72 [(.s 8), (.s 10)]⟩,
    ⟨some 5, none, .mv (.s 11)⟩] [] [2, 3, 5]) c71_20)
def c71 : ACode :=
  (.seq (.region false [⟨some 2, none, .box 5 (.s 0)⟩,
    ⟨some 3, none, .box 5 (.s 1)⟩,
    ⟨some 4, none, .cst (.t (.int .i64 0))⟩] [] [2, 3]) c71_21)
def r71 : List ARes := [.tmp 4]
def n71 : Nat := 70
/- 72 supergraph supergraphref02.ints -/
def c72_0 : ACode :=
  (.seq (.region false [⟨some 4, none, .cst (.t (.int .i64 0))⟩] [] [4]) .ret)
def c72_1 : ACode :=
  (.seq (.region false [⟨some 4, none, .cst (.t (.int .i64 1))⟩] [] [4]) .ret)
def c72_2 : ACode :=
  (.cond (.s 10) c72_1 .skip)
def c72_3 : ACode :=
  (.seq (.seq (.region false [⟨some 8, none, .mv (.s 0)⟩,
    ⟨some 9, none, .mv (.s 1)⟩,
    ⟨some 10, none, .bin .gtr (.s 8) (.s 9)⟩] [] [10]) c72_2) c72_0)
def c72_4 : ACode :=
  (.seq (.region false [⟨some 4, none, .cst (.t (.int .i64 (-1)))⟩] [] [4]) .ret)
def c72_5 : ACode :=
  (.cond (.s 7) c72_4 .skip)
def c72_6 : ACode :=
  (.seq (.seq (.region false [⟨some 5, none, .mv (.s 0)⟩,
    ⟨some 6, none, .mv (.s 1)⟩,
    ⟨some 7, none, .bin .lss (.s 5) (.s 6)⟩] [] [0, 1, 7]) c72_5) c72_3)
def c72 : ACode :=
  (.seq (.region false [⟨some 4, none, .cst (.t (.int .i64 0))⟩] [] [0, 1]) c72_6)
def r72 : List ARes := [.tmp 4]
def n72 : Nat := 11
/- 73 supergraph supergraphref02.strings -/
def c73_0 : ACode :=
  (.seq (.region false [⟨some 4, none, .cst (.t (.int .i64 0))⟩] [] [4]) .ret)
def c73_1 : ACode :=
  (.seq (.region false [⟨some 4, none, .cst (.t (.int .i64 1))⟩] [] [4]) .ret)
def c73_2 : ACode :=
  (.cond (.s 10) c73_1 .skip)
def c73_3 : ACode :=
  (.seq (.seq (.region false [⟨some 8, none, .mv (.s 0)⟩,
    ⟨some 9, none, .mv (.s 1)⟩,
    ⟨some 10, none, .bin .gtr (.s 8) (.s 9)⟩] [] [10]) c73_2) c73_0)
def c73_4 : ACode :=
  (.seq (.region false [⟨some 4, none, .cst (.t (.int .i64 (-1)))⟩] [] [4]) .ret)
def c73_5 : ACode :=
  (.cond (.s 7) c73_4 .skip)
def c73_6 : ACode :=
  (.seq (.seq (.region false [⟨some 5, none, .mv (.s 0)⟩,
    ⟨some 6, none, .mv (.s 1)⟩,
    ⟨some 7, none, .bin .lss (.s 5) (.s 6)⟩] [] [0, 1, 7]) c73_5) c73_3)
def c73 : ACode :=
  (.seq (.region false [⟨some 4, none, .cst (.t (.int .i64 0))⟩] [] [0, 1]) c73_6)
def r73 : List ARes := [.tmp 4]
def n73 : Nat := 11
/- 74 supergraph supergraphref02.key -/
def c74_0 : ACode :=
  (.seq (.region false [⟨some 4, none, .cst (.t (.str []))⟩] [] [4]) .ret)
def c74_1 : ACode :=
  (.seq (.region false [⟨some 10, none, .fa 4 (.s 2)⟩,
    ⟨some 11, none, .ld false 1 (.s 10)⟩,
    ⟨some 12, none, .mv (.s 1)⟩,
    ⟨some 13, none, .ia 1 (.s 11) (.s 12)⟩,
    ⟨some 14, none, .ld false 1 (.s 13)⟩,
    ⟨some 4, none, .mv (.s 14)⟩] [] [4]) .ret)
def c74_2 : ACode :=
  (.cond (.s 9) c74_1 .skip)
def c74_3 : ACode :=
  (.seq (.seq (.region false [⟨some 5, none, .mv (.s 1)⟩,
    ⟨some 6, none, .fa 4 (.s 2)⟩,
    ⟨some 7, none, .ld false 1 (.s 6)⟩,
    ⟨some 8, none, .len (.s 7)⟩,
    ⟨some 9, none, .bin .lss (.s 5) (.s 8)⟩] [] [1, 2, 9]) c74_2) c74_0)
def c74 : ACode :=
  (.seq (.region false [⟨some 2, none, .box 5 (.s 0)⟩,
    ⟨some 4, none, .cst (.t (.str []))⟩] [] [1, 2]) c74_3)
def r74 : List ARes := [.tmp 4]
def n74 : Nat := 15

end Go.GB.C11


/-
  D11A: contracts of chapter 11's functions: finding definitions and fields, lists of names.
-/
namespace Go.GB.C11
open Go.GB
set_option linter.unusedSimpArgs false
set_option linter.unusedVariables false
set_option maxRecDepth 100000
set_option maxHeartbeats 2000000
structure Pr (P : Program) : Prop where
  mixed : P.follows .mixedOrders = true
  i21 : fnInfo P 21 = some (n21, c21.bare, r21)
  i23 : fnInfo P 23 = some (n23, c23.bare, r23)
  i34 : fnInfo P 34 = some (n34, c34.bare, r34)
  i62 : fnInfo P 62 = some (n62, c62.bare, r62)
  i45 : fnInfo P 45 = some (n45, c45.bare, r45)
  i68 : fnInfo P 68 = some (n68, c68.bare, r68)
  i33 : fnInfo P 33 = some (n33, c33.bare, r33)
  i54 : fnInfo P 54 = some (n54, c54.bare, r54)
  i55 : fnInfo P 55 = some (n55, c55.bare, r55)
  i69 : fnInfo P 69 = some (n69, c69.bare, r69)
  i61 : fnInfo P 61 = some (n61, c61.bare, r61)
  i70 : fnInfo P 70 = some (n70, c70.bare, r70)
  i53 : fnInfo P 53 = some (n53, c53.bare, r53)
variable {P : Program}

def findDef (n : Str) : List Def → Option Def
  | [] => none
  | d :: r => if (d.name == n) = true then some d else findDef n r
theorem findDef_mem {n : Str} : ∀ {l : List Def} {d : Def}, findDef n l = some d → d ∈ l
  | [], d, h => by simp [findDef] at h
  | x :: r, d, h => by
    simp only [findDef] at h
    split at h
    · cases h; exact List.mem_cons_self ..
    · exact List.mem_cons_of_mem _ (findDef_mem h)
theorem find_ok (H : Pr P) (ds : List Def) (hl : ds.length ≤ 140737488355328) (n : Str) : FnOk P 54 [docV ds, .t (.str n)] ⟨[], 0⟩ { v := .tup [((findDef n ds).getD Def.zero).v, .t (.bool (findDef n ds).isSome)] } := by
  refine FnOk.run H.i54 H.mixed rfl rfl ?_
  refine fR rfl ?_
  refine lM rfl rfl rfl ?_
  refine fM rfl ?_
  refine rList ds (fun i (_ : Unit) => { env := [(1, .t (.str n)), (4, .ptr 1 0), (9, .t (.lst (ds.map Def.enc))), (10, .t (.int .i64 ds.length)), (11, .t (.int .i64 i))], s := ⟨[(1, .cells [.t (.int .i64 0), .t (.str []), .nils, .nils, .nils, .nils, .nils])], 2⟩ }) (fun r i _ => findDef n ds = findDef n r) 2 () rfl rfl rfl rfl rfl ?_ ?_
  · intro _ hinv
    refine fR rfl ?_
    refine Run.condF rfl rfl (by simp) ?_
    refine fR rfl ?_
    have e : findDef n ds = none := by rw [hinv]; rfl
    rw [e]
    refine Run.fin rfl (EndOk.go ?_); exact .tup2 (.agg (.cons (.t rfl) (.cons (.t rfl) (.cons (.nil rfl) (.cons (.nil rfl) (.cons (.nil rfl) (.cons (.nil rfl) (.cons (.nil rfl) .nil)))))))) (.t rfl)
  · intro i x r _ h1 hi hd hinv ih
    refine fR rfl ?_
    refine Run.condT rfl rfl (by simp; omega) ?_
    refine fR rfl ?_
    refine Mid.elemMap rfl rfl rfl h1 rfl rfl ?_
    refine fM rfl ?_
    refine Run.cond rfl rfl (fun h => ?_) (fun h => ?_)
    · refine fR rfl ?_
      have e : findDef n ds = some x := by rw [hinv]; simp only [findDef]; rw [if_pos h]
      rw [e]
      refine Run.fin rfl (EndOk.go ?_); exact .tup2 (.le (.same rfl)) (.t rfl)
    · refine fR rfl ?_
      refine aL rfl rfl rfl rfl rfl ?_
      refine fM rfl ?_
      have h' : ¬ (x.name == n) = true := by rw [h]; simp
      exact rWeak 2 rfl (ih () (by rw [hinv]; simp only [findDef]; rw [if_neg h'])) rfl rfl rfl

theorem rFind_ok (H : Pr P) (ds : List Def) (hl : ds.length ≤ 140737488355328) (n : Str) : FnOk P 68 [docV ds, .t (.str n)] ⟨[], 0⟩ { v := .tup [((findDef n ds).getD Def.zero).v, .t (.bool (findDef n ds).isSome)] } := by
  refine FnOk.run H.i68 H.mixed rfl rfl ?_
  refine fR rfl ?_
  refine rList ds (fun i (_ : Unit) => { env := [(1, .t (.str n)), (2, .ptr 0 0), (4, .ptr 1 0), (6, .t (.int .i64 i))], s := ⟨[(0, .cells [.t (.lst (ds.map Def.enc))]), (1, .cells [.t (.int .i64 0), .t (.str []), .nils, .nils, .nils, .nils, .nils])], 2⟩ }) (fun r i _ => findDef n (ds) = findDef n r) 2 () rfl rfl rfl rfl rfl ?_ ?_
  · intro _ hinv
    refine fR rfl ?_
    refine lM rfl rfl rfl ?_
    refine fM rfl ?_
    refine Run.condF rfl rfl (by simp) ?_
    refine fR rfl ?_
    have e : findDef n (ds) = none := by rw [hinv]; rfl
    rw [e]
    refine Run.fin rfl (EndOk.go ?_); exact .tup2 (.agg (.cons (.t rfl) (.cons (.t rfl) (.cons (.nil rfl) (.cons (.nil rfl) (.cons (.nil rfl) (.cons (.nil rfl) (.cons (.nil rfl) .nil)))))))) (.t rfl)
  · intro i x r _ h1 hi hd hinv ih
    refine fR rfl ?_
    refine lM rfl rfl rfl ?_
    refine fM rfl ?_
    refine Run.condT rfl rfl (by simp; omega) ?_
    refine fR rfl ?_
    refine Mid.elemMap rfl rfl rfl h1 rfl rfl ?_
    refine fM rfl ?_
    refine Run.cond rfl rfl (fun h => ?_) (fun h => ?_)
    · refine fR rfl ?_
      refine Mid.elemMap rfl rfl rfl h1 rfl rfl ?_
      refine fM rfl ?_
      have e : findDef n (ds) = some x := by rw [hinv]; simp only [findDef]; rw [if_pos h]
      rw [e]
      refine Run.fin rfl (EndOk.go ?_); exact .tup2 (.le (.same rfl)) (.t rfl)
    · refine fR rfl ?_
      refine aL rfl rfl rfl rfl rfl ?_
      refine fM rfl ?_
      have h' : ¬ (x.name == n) = true := by rw [h]; simp
      exact rWeak 2 rfl (ih () (by rw [hinv]; simp only [findDef]; rw [if_neg h'])) rfl rfl rfl

def indexS (s : Str) : List Str → Int → Int
  | [], _ => -1
  | x :: r, i => if (s == x) = true then i else indexS s r (i + 1)
theorem index_ok (H : Pr P) (l : List Str) (hl : l.length ≤ 140737488355328) (s : Str) : FnOk P 53 [.t (.lst (l.map sE)), .t (.str s)] ⟨[], 0⟩ { v := .t (.int .i64 (indexS s l 0)) } := by
  refine FnOk.run H.i53 H.mixed rfl rfl ?_
  refine fR rfl ?_
  refine lM rfl rfl rfl ?_
  refine fM rfl ?_
  refine rList l (fun i (_ : Unit) => { env := [(0, .t (.lst (l.map sE))), (1, .t (.str s)), (7, .t (.int .i64 l.length)), (8, .t (.int .i64 i))], s := ⟨[], 0⟩ }) (fun r i _ => indexS s l 0 = indexS s r i) 0 () rfl rfl rfl rfl rfl ?_ ?_
  · intro _ hinv
    refine fR rfl ?_
    refine Run.condF rfl rfl (by simp) ?_
    refine fR rfl ?_
    refine Run.fin rfl (EndOk.go ?_); exact .t (by rw [hinv]; simp [indexS])
  · intro i x r _ h1 hi hd hinv ih
    refine fR rfl ?_
    refine Run.condT rfl rfl (by simp; omega) ?_
    refine fR rfl ?_
    refine Mid.elemMap rfl rfl rfl h1 rfl rfl ?_
    refine fM rfl ?_
    refine Run.cond rfl rfl (fun h => ?_) (fun h => ?_)
    · refine fR rfl ?_
      refine Run.fin rfl (EndOk.go ?_); exact .t (by rw [hinv]; simp only [indexS]; rw [if_pos h])
    · refine fR rfl ?_
      refine aL rfl rfl rfl rfl rfl ?_
      refine fM rfl ?_
      have h' : ¬ (s == x) = true := by rw [h]; simp
      exact rWeak 0 rfl (ih () (by rw [hinv]; simp only [indexS]; rw [if_neg h']; rfl)) rfl rfl rfl

theorem index_mem (s : Str) : ∀ (l : List Str) (i : Int), 0 ≤ i → (decide (indexS s l i ≥ 0)) = decide (s ∈ l)
  | [], i, _ => by simp [indexS]
  | x :: r, i, hi => by
    by_cases h : s = x
    · subst h; simp [indexS, hi]
    · have h' : ¬ (s == x) = true := by simpa using h
      have e : indexS s (x :: r) i = indexS s r (i + 1) := by simp only [indexS]; rw [if_neg h']
      rw [e, index_mem s r (i + 1) (by omega)]; simp [h]

theorem contains_ok (H : Pr P) (l : List Str) (hl : l.length ≤ 140737488355328) (s : Str) : FnOk P 33 [.t (.lst (l.map sE)), .t (.str s)] ⟨[], 0⟩ { v := .t (.bool (decide (s ∈ l))) } := by
  refine FnOk.run H.i33 H.mixed rfl rfl ?_
  refine fR rfl ?_
  refine Mid.call (index_ok H l hl s) rfl rfl rfl rfl ?_
  refine fM rfl ?_
  refine Run.fin rfl (EndOk.go ?_); exact .t (by rw [← index_mem s l 0 (by omega)])

end Go.GB.C11

