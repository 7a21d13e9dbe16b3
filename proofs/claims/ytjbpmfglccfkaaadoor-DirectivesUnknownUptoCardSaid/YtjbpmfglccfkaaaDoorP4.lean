/-
  YtjbpmfglccfkaaaDoorP4: lemmas of this proof (part 4). No conditions.
-/
import Derived.Test.YtjbpmfglccfkaaaDoorP3

/-
  F23Code: the code of some functions as abstract code (printed by program).
-/
namespace Go.GB.C11
open Go.GB
/- 3 supergraph supergraphlaw23.DirectivesSets -/
def c3_0 : ACode :=
  (.seq (.region false [⟨some 58, none, .mv (.s 4)⟩,
    ⟨some 59, none, .bin .neq (.s 58) (.c (.t (.int .i64 0)))⟩,
    ⟨some 60, none, .mv (.s 59)⟩,
    ⟨some 61, some (60, false), .mv (.s 7)⟩,
    ⟨some 62, some (60, false), .mv (.s 0)⟩,
    ⟨some 63, some (60, false), .bin .eql (.s 61) (.s 62)⟩,
    ⟨some 64, none, .pick (.s 60) (.c (.t (.bool true))) (.s 63)⟩,
    ⟨some 65, none, .mv (.s 64)⟩,
    ⟨some 66, some (65, true), .call 12 []⟩,
    ⟨some 67, none, .pick (.s 65) (.s 66) (.c (.t (.bool false)))⟩,
    ⟨some 2, none, .mv (.s 67)⟩] [] [2]) .ret)
def c3_1 : ACode :=
  (.region false [⟨some 37, none, .mv (.s 8)⟩,
    ⟨some 38, none, .bin .add (.s 37) (.c (.t (.int .i64 1)))⟩,
    ⟨some 8, none, .mv (.s 38)⟩] [] [0, 3, 4, 5, 7, 8])
def c3_2 : ACode :=
  (.region false [⟨some 52, none, .mv (.s 7)⟩,
    ⟨some 53, none, .mv (.s 3)⟩,
    ⟨some 54, none, .mv (.s 8)⟩,
    ⟨some 55, none, .ia 1 (.s 53) (.s 54)⟩,
    ⟨some 56, none, .ld false 1 (.s 55)⟩,
    ⟨some 57, none, .bin .add (.s 52) (.s 56)⟩,
    ⟨some 7, none, .mv (.s 57)⟩] [] [0, 3, 4, 5, 7, 8])
def c3_3 : ACode :=
  (.region false [⟨some 50, none, .mv (.s 7)⟩,
    ⟨some 51, none, .bin .add (.s 50) (.c (.t (.str [32])))⟩,
    ⟨some 7, none, .mv (.s 51)⟩] [] [0, 3, 4, 5, 7, 8])
def c3_4 : ACode :=
  (.cond (.s 49) c3_3 .skip)
def c3_5 : ACode :=
  (.seq (.seq (.region false [⟨some 48, none, .mv (.s 8)⟩,
    ⟨some 49, none, .bin .gtr (.s 48) (.c (.t (.int .i64 0)))⟩] [] [0, 3, 4, 5, 7, 8, 49]) c3_4) c3_2)
def c3_6 : ACode :=
  (.seq (.region false [⟨some 2, none, .cst (.t (.bool false))⟩] [] [2]) .ret)
def c3_7 : ACode :=
  (.cond (.s 47) c3_6 .skip)
def c3_8 : ACode :=
  (.seq (.seq (.region true [⟨some 39, none, .mv (.s 3)⟩,
    ⟨some 40, none, .mv (.s 8)⟩,
    ⟨some 41, none, .ia 1 (.s 39) (.s 40)⟩,
    ⟨some 42, none, .ld false 1 (.s 41)⟩,
    ⟨some 43, none, .mv (.s 5)⟩,
    ⟨some 44, none, .mv (.s 8)⟩,
    ⟨some 45, none, .ia 1 (.s 43) (.s 44)⟩,
    ⟨some 46, none, .ld false 1 (.s 45)⟩,
    ⟨some 47, none, .bin .neq (.s 42) (.s 46)⟩] [[], [], [0, 1], [2], [], [], [4, 5], [6], [3, 7]] [0, 3, 4, 5, 7, 8, 47]) c3_7) c3_5)
def c3_9 : ACode :=
  (.seq (.block 1 c3_8) c3_1)
def c3_10 : ACode :=
  (.cond (.s 36) .skip (.exit 0))
def c3_11 : ACode :=
  (.seq (.seq (.region false [⟨some 33, none, .mv (.s 8)⟩,
    ⟨some 34, none, .mv (.s 3)⟩,
    ⟨some 35, none, .len (.s 34)⟩,
    ⟨some 36, none, .bin .lss (.s 33) (.s 35)⟩] [] [0, 3, 4, 5, 7, 8, 36]) c3_10) c3_9)
def c3_12 : ACode :=
  (.loop c3_11)
def c3_13 : ACode :=
  (.block 0 c3_12)
def c3_14 : ACode :=
  (.seq (.seq (.region false [⟨some 8, none, .cst (.t (.int .i64 0))⟩] [] [0, 3, 4, 5, 7, 8]) c3_13) c3_0)
def c3_15 : ACode :=
  (.seq (.region false [⟨some 7, none, .cst (.t (.str []))⟩] [] [0, 3, 4, 5, 7]) c3_14)
def c3_16 : ACode :=
  (.seq (.region false [⟨some 2, none, .cst (.t (.bool false))⟩] [] [2]) .ret)
def c3_17 : ACode :=
  (.cond (.s 32) c3_16 .skip)
def c3_18 : ACode :=
  (.seq (.seq (.region false [⟨some 23, none, .mv (.s 3)⟩,
    ⟨some 24, none, .len (.s 23)⟩,
    ⟨some 25, none, .mv (.s 5)⟩,
    ⟨some 26, none, .len (.s 25)⟩,
    ⟨some 27, none, .bin .neq (.s 24) (.s 26)⟩,
    ⟨some 28, none, .mv (.s 27)⟩,
    ⟨some 29, some (28, false), .mv (.s 4)⟩,
    ⟨some 30, some (28, false), .mv (.s 6)⟩,
    ⟨some 31, some (28, false), .bin .neq (.s 29) (.s 30)⟩,
    ⟨some 32, none, .pick (.s 28) (.c (.t (.bool true))) (.s 31)⟩] [] [0, 3, 4, 5, 32]) c3_17) c3_15)
def c3_19 : ACode :=
  (.seq (.region false [⟨some 19, none, .mv (.s 0)⟩,
    ⟨some 20, none, .call 14 [(.s 19)]⟩,
    ⟨some 18, none, .mv (.s 20)⟩,
    ⟨some 21, none, .ext (.s 18) 0⟩,
    ⟨some 22, none, .ext (.s 18) 1⟩,
    ⟨some 5, none, .mv (.s 21)⟩,
    ⟨some 6, none, .mv (.s 22)⟩] [] [0, 3, 4, 5, 6]) c3_18)
def c3_20 : ACode :=
  (.seq (.region false [⟨some 14, none, .mv (.s 0)⟩,
    ⟨some 15, none, .call 13 [(.s 14)]⟩,
    ⟨some 13, none, .mv (.s 15)⟩,
    ⟨some 16, none, .ext (.s 13) 0⟩,
    ⟨some 17, none, .ext (.s 13) 1⟩,
    ⟨some 3, none, .mv (.s 16)⟩,
    ⟨some 4, none, .mv (.s 17)⟩] [] [0, 3, 4]) c3_19)
def c3_21 : ACode :=
  (.seq (.region false [⟨some 12, none, .call 12 []⟩,
    ⟨some 2, none, .mv (.s 12)⟩] [] [2]) .ret)
def c3_22 : ACode :=
  (.cond (.s 11) c3_21 .skip)
def c3_23 : ACode :=
  (.seq (.seq (.region false [⟨some 9, none, .mv (.s 0)⟩,
    ⟨some 10, none, .lens (.s 9)⟩,
    ⟨some 11, none, .bin .gtr (.s 10) (.c (.t (.int .i64 1000)))⟩] [] [0, 11]) c3_22) c3_20)
def c3 : ACode :=
  (.seq (.region false [⟨some 2, none, .cst (.t (.bool false))⟩] [] [0]) c3_23)
def r3 : List ARes := [.tmp 2]
def n3 : Nat := 68
/- 4 supergraph supergraphlaw23.DirectivesCheck -/
def c4_0 : ACode :=
  (.seq (.region true [⟨some 6, none, .ld true 1 (.s 1)⟩,
    ⟨some 7, none, .call 17 [(.s 6)]⟩,
    ⟨some 8, none, .ld true 1 (.s 1)⟩,
    ⟨some 9, none, .call 18 [(.s 8)]⟩,
    ⟨some 10, none, .call 16 [(.s 7), (.s 9)]⟩,
    ⟨some 11, none, .mv (.s 10)⟩,
    ⟨some 12, some (11, true), .call 12 []⟩,
    ⟨some 13, none, .pick (.s 11) (.s 12) (.c (.t (.bool false)))⟩,
    ⟨some 2, none, .mv (.s 13)⟩] [[], [0], [], [2, 1], [1, 3, 3], [4, 4], [5, 5], [5, 6], [7, 6, 0, 1, 2, 3, 4, 5, 6, 7]] [2]) .ret)
def c4_1 : ACode :=
  (.seq (.region false [⟨some 5, none, .call 12 []⟩,
    ⟨some 2, none, .mv (.s 5)⟩] [] [2]) .ret)
def c4_2 : ACode :=
  (.cond (.s 4) c4_1 .skip)
def c4_3 : ACode :=
  (.seq (.seq (.region false [⟨some 3, none, .ld true 1 (.s 1)⟩,
    ⟨some 4, none, .call 15 [(.s 3)]⟩] [] [1, 4]) c4_2) c4_0)
def c4 : ACode :=
  (.seq (.region false [⟨some 1, none, .box 1 (.s 0)⟩,
    ⟨some 2, none, .cst (.t (.bool false))⟩] [] [1]) c4_3)
def r4 : List ARes := [.tmp 2]
def n4 : Nat := 14
/- 5 supergraph supergraphlaw23.DirectivesUnknown -/
def c5_0 : ACode :=
  (.seq (.region true [⟨some 100, none, .mv (.s 9)⟩,
    ⟨some 101, none, .mv (.s 11)⟩,
    ⟨some 102, none, .sll 2 (.s 100) (some (.s 101)) none⟩,
    ⟨some 103, none, .mv (.s 10)⟩,
    ⟨some 104, none, .mv (.s 11)⟩,
    ⟨some 105, none, .bin .add (.s 104) (.c (.t (.int .i64 1)))⟩,
    ⟨some 106, none, .sll 2 (.s 103) (some (.s 105)) none⟩,
    ⟨some 107, none, .call 16 [(.s 102), (.s 106)]⟩,
    ⟨some 108, none, .mv (.s 107)⟩,
    ⟨some 109, some (108, true), .call 12 []⟩,
    ⟨some 110, none, .pick (.s 108) (.s 109) (.c (.t (.bool false)))⟩,
    ⟨some 6, none, .mv (.s 110)⟩] [[], [], [0, 1], [], [], [4], [3, 5], [2, 6], [7, 7], [8, 8], [8, 9], [10, 9, 0, 1, 2, 3, 4, 5, 6, 7, 8, 9, 10]] [6]) .ret)
def c5_1 : ACode :=
  (.seq (.region false [⟨some 6, none, .cst (.t (.bool false))⟩] [] [6]) .ret)
def c5_2 : ACode :=
  (.cond (.s 99) c5_1 .skip)
def c5_3 : ACode :=
  (.seq (.seq (.region true [⟨some 88, none, .mv (.s 10)⟩,
    ⟨some 89, none, .mv (.s 11)⟩,
    ⟨some 90, none, .ia 2 (.s 88) (.s 89)⟩,
    ⟨some 91, none, .ld true 2 (.s 90)⟩,
    ⟨some 92, none, .fa 0 (.s 3)⟩,
    ⟨some 93, none, .ld false 1 (.s 92)⟩,
    ⟨some 94, none, .mv (.s 1)⟩,
    ⟨some 95, none, .ia 7 (.s 93) (.s 94)⟩,
    ⟨some 96, none, .fa 1 (.s 95)⟩,
    ⟨some 97, none, .ld false 1 (.s 96)⟩,
    ⟨some 98, none, .build [.t (.int .i64 0), .t (.str [])] [(0, 1, (.c (.t (.int .i64 29)))), (1, 1, (.s 97))]⟩,
    ⟨some 99, none, .nw (.eqst true [.int .i64, .str] (.s 91) (.s 98))⟩] [[], [], [0, 1], [2], [], [4], [], [5, 6], [7], [8], [9], [3, 10]] [9, 10, 11, 99]) c5_2) c5_0)
def c5_4 : ACode :=
  (.region false [⟨some 86, none, .mv (.s 11)⟩,
    ⟨some 87, none, .bin .add (.s 86) (.c (.t (.int .i64 1)))⟩,
    ⟨some 11, none, .mv (.s 87)⟩] [] [1, 3, 9, 10, 11])
def c5_5 : ACode :=
  (.block 1 c5_4)
def c5_6 : ACode :=
  (.cond (.s 85) .skip (.exit 0))
def c5_7 : ACode :=
  (.seq (.seq (.region true [⟨some 71, none, .mv (.s 11)⟩,
    ⟨some 72, none, .mv (.s 9)⟩,
    ⟨some 73, none, .len (.s 72)⟩,
    ⟨some 74, none, .bin .lss (.s 71) (.s 73)⟩,
    ⟨some 75, none, .mv (.s 74)⟩,
    ⟨some 76, some (75, true), .mv (.s 9)⟩,
    ⟨some 77, some (75, true), .mv (.s 11)⟩,
    ⟨some 78, some (75, true), .ia 2 (.s 76) (.s 77)⟩,
    ⟨some 79, some (75, true), .ld true 2 (.s 78)⟩,
    ⟨some 80, some (75, true), .mv (.s 10)⟩,
    ⟨some 81, some (75, true), .mv (.s 11)⟩,
    ⟨some 82, some (75, true), .ia 2 (.s 80) (.s 81)⟩,
    ⟨some 83, some (75, true), .ld true 2 (.s 82)⟩,
    ⟨some 84, some (75, true), .nw (.eqst false [.int .i64, .str] (.s 79) (.s 83))⟩,
    ⟨some 85, none, .pick (.s 75) (.s 84) (.c (.t (.bool false)))⟩] [[], [], [1], [0, 2], [3], [4], [4], [5, 6, 4], [7, 4], [4], [4], [9, 10, 4], [11, 4], [8, 12, 4], [4, 13]] [1, 3, 9, 10, 11, 85]) c5_6) c5_5)
def c5_8 : ACode :=
  (.loop c5_7)
def c5_9 : ACode :=
  (.seq (.block 0 c5_8) c5_3)
def c5_10 : ACode :=
  (.seq (.region false [⟨some 11, none, .cst (.t (.int .i64 0))⟩] [] [1, 3, 9, 10, 11]) c5_9)
def c5_11 : ACode :=
  (.seq (.region false [⟨some 6, none, .cst (.t (.bool false))⟩] [] [6]) .ret)
def c5_12 : ACode :=
  (.cond (.s 70) c5_11 .skip)
def c5_13 : ACode :=
  (.seq (.seq (.region false [⟨some 65, none, .mv (.s 10)⟩,
    ⟨some 66, none, .len (.s 65)⟩,
    ⟨some 67, none, .mv (.s 9)⟩,
    ⟨some 68, none, .len (.s 67)⟩,
    ⟨some 69, none, .bin .add (.s 68) (.c (.t (.int .i64 1)))⟩,
    ⟨some 70, none, .bin .neq (.s 66) (.s 69)⟩] [] [1, 3, 9, 10, 70]) c5_12) c5_10)
def c5_14 : ACode :=
  (.seq (.region true [⟨some 61, none, .ld true 1 (.s 3)⟩,
    ⟨some 62, none, .call 17 [(.s 61)]⟩,
    ⟨some 63, none, .ld true 1 (.s 7)⟩,
    ⟨some 64, none, .call 17 [(.s 63)]⟩,
    ⟨some 9, none, .mv (.s 62)⟩,
    ⟨some 10, none, .mv (.s 64)⟩] [[], [0], [], [2, 1], [1, 3, 0, 1], [3, 4, 0, 1, 2, 3, 4]] [1, 3, 9, 10]) c5_13)
def c5_15 : ACode :=
  (.seq (.region false [⟨some 55, none, .fa 0 (.s 7)⟩,
    ⟨some 56, none, .ld false 1 (.s 55)⟩,
    ⟨some 57, none, .mv (.s 1)⟩,
    ⟨some 58, none, .mv (.s 8)⟩,
    ⟨some 59, none, .ia 7 (.s 56) (.s 57)⟩,
    ⟨some 60, none, .fa 3 (.s 59)⟩,
    ⟨none, none, .st 1 (.s 60) (.s 58)⟩] [] [1, 3, 7]) c5_14)
def c5_16 : ACode :=
  (.seq (.region false [⟨some 50, none, .mv (.s 8)⟩,
    ⟨some 51, none, .mv (.s 2)⟩,
    ⟨some 52, none, .build [.t (.str []), .nils] [(0, 1, (.s 51))]⟩,
    ⟨some 53, none, .bsl false 2 [[.str [], .lst []]] [(0, (.s 52))]⟩,
    ⟨some 54, none, .app 2 40 (.s 50) (.s 53)⟩,
    ⟨some 8, none, .mv (.s 54)⟩] [] [1, 3, 7, 8]) c5_15)
def c5_17 : ACode :=
  (.seq (.region false [⟨some 42, none, .mv (.s 8)⟩,
    ⟨some 43, none, .fa 0 (.s 3)⟩,
    ⟨some 44, none, .ld false 1 (.s 43)⟩,
    ⟨some 45, none, .mv (.s 1)⟩,
    ⟨some 46, none, .ia 7 (.s 44) (.s 45)⟩,
    ⟨some 47, none, .fa 3 (.s 46)⟩,
    ⟨some 48, none, .ld false 1 (.s 47)⟩,
    ⟨some 49, none, .app 2 40 (.s 42) (.s 48)⟩,
    ⟨some 8, none, .mv (.s 49)⟩] [] [1, 2, 3, 7, 8]) c5_16)
def c5_18 : ACode :=
  (.seq (.region false [⟨some 8, none, .cst (.nils)⟩] [] [1, 2, 3, 7, 8]) c5_17)
def c5_19 : ACode :=
  (.seq (.region false [⟨some 36, none, .fa 0 (.s 7)⟩,
    ⟨some 37, none, .ld false 1 (.s 36)⟩,
    ⟨some 38, none, .fa 0 (.s 3)⟩,
    ⟨some 39, none, .ld false 1 (.s 38)⟩,
    ⟨some 40, none, .app 7 144 (.s 37) (.s 39)⟩,
    ⟨some 41, none, .fa 0 (.s 7)⟩,
    ⟨none, none, .st 1 (.s 41) (.s 40)⟩] [] [1, 2, 3, 7]) c5_18)
def c5_20 : ACode :=
  (.seq (.region false [⟨some 7, none, .alloc [.nils]⟩] [] [1, 2, 3, 7]) c5_19)
def c5_21 : ACode :=
  (.seq (.region false [⟨some 35, none, .call 12 []⟩,
    ⟨some 6, none, .mv (.s 35)⟩] [] [6]) .ret)
def c5_22 : ACode :=
  (.cond (.s 34) c5_21 .skip)
def c5_23 : ACode :=
  (.seq (.seq (.region false [⟨some 12, none, .ld true 1 (.s 3)⟩,
    ⟨some 13, none, .call 15 [(.s 12)]⟩,
    ⟨some 14, none, .mv (.s 13)⟩,
    ⟨some 15, some (14, false), .mv (.s 1)⟩,
    ⟨some 16, some (14, false), .bin .lss (.s 15) (.c (.t (.int .i64 0)))⟩,
    ⟨some 17, none, .pick (.s 14) (.c (.t (.bool true))) (.s 16)⟩,
    ⟨some 18, none, .mv (.s 17)⟩,
    ⟨some 19, some (18, false), .mv (.s 1)⟩,
    ⟨some 20, some (18, false), .fa 0 (.s 3)⟩,
    ⟨some 21, some (18, false), .ld false 1 (.s 20)⟩,
    ⟨some 22, some (18, false), .len (.s 21)⟩,
    ⟨some 23, some (18, false), .bin .geq (.s 19) (.s 22)⟩,
    ⟨some 24, none, .pick (.s 18) (.c (.t (.bool true))) (.s 23)⟩,
    ⟨some 25, none, .mv (.s 24)⟩,
    ⟨some 26, some (25, false), .build [.t (.str []), .nils] [(0, 1, (.c (.t (.str [107, 101, 121]))))]⟩,
    ⟨some 27, some (25, false), .build [.t (.str []), .nils] [(0, 1, (.c (.t (.str [116, 97, 103]))))]⟩,
    ⟨some 28, some (25, false), .build [.t (.str []), .nils] [(0, 1, (.c (.t (.str [97, 117, 116, 104, 101, 110, 116, 105, 99, 97, 116, 101, 100]))))]⟩,
    ⟨some 29, some (25, false), .build [.t (.str []), .nils] [(0, 1, (.c (.t (.str [115, 99, 111, 112, 101, 115]))))]⟩,
    ⟨some 30, some (25, false), .build [.t (.str []), .nils] [(0, 1, (.c (.t (.str [99, 97, 99, 104, 101, 67, 111, 110, 116, 114, 111, 108]))))]⟩,
    ⟨some 31, some (25, false), .bsl true 2 [[.str [], .lst []], [.str [], .lst []], [.str [], .lst []], [.str [], .lst []], [.str [], .lst []]] [(0, (.s 26)), (1, (.s 27)), (2, (.s 28)), (3, (.s 29)), (4, (.s 30))]⟩,
    ⟨some 32, some (25, false), .mv (.s 2)⟩,
    ⟨some 33, some (25, false), .call 19 [(.s 31), (.s 32)]⟩,
    ⟨some 34, none, .pick (.s 25) (.c (.t (.bool true))) (.s 33)⟩] [] [1, 2, 3, 34]) c5_22) c5_20)
def c5 : ACode :=
  (.seq (.region false [⟨some 3, none, .box 1 (.s 0)⟩,
    ⟨some 6, none, .cst (.t (.bool false))⟩] [] [1, 2, 3]) c5_23)
def r5 : List ARes := [.tmp 6]
def n5 : Nat := 111
/- 6 supergraph supergraphlaw23.DirectivesPublic -/
def n6 : Nat := 89
/- 7 supergraph supergraphlaw23.DirectivesFind -/
def n7 : Nat := 60
/- 8 supergraph supergraphlaw25.MovesSound -/
def n8 : Nat := 95
/- 9 supergraph supergraphlaw25.MovesOrder -/
def n9 : Nat := 67
/- 10 supergraph supergraphlaw25.MovesAlone -/
def n10 : Nat := 136
/- 11 supergraph supergraphlaw25.MovesFinds -/
def n11 : Nat := 96
/- 12 supergraph supergraphlaw23.exampleHolds -/
def c12_0 : ACode :=
  (.seq (.region false [⟨some 13, none, .mv (.s 2)⟩,
    ⟨some 14, none, .bin .eql (.s 13) (.c (.t (.int .i64 0)))⟩,
    ⟨some 15, none, .mv (.s 14)⟩,
    ⟨some 16, some (15, true), .mv (.s 1)⟩,
    ⟨some 17, some (15, true), .len (.s 16)⟩,
    ⟨some 18, some (15, true), .bin .eql (.s 17) (.c (.t (.int .i64 2)))⟩,
    ⟨some 19, none, .pick (.s 15) (.s 18) (.c (.t (.bool false)))⟩,
    ⟨some 20, none, .mv (.s 19)⟩,
    ⟨some 21, some (20, true), .mv (.s 1)⟩,
    ⟨some 22, some (20, true), .ia 1 (.s 21) (.c (.t (.int .i64 1)))⟩,
    ⟨some 23, some (20, true), .ld false 1 (.s 22)⟩,
    ⟨some 24, some (20, true), .bin .eql (.s 23) (.c (.t (.str [110, 97, 109, 101])))⟩,
    ⟨some 25, none, .pick (.s 20) (.s 24) (.c (.t (.bool false)))⟩,
    ⟨some 26, none, .mv (.s 25)⟩,
    ⟨some 27, some (26, true), .ld true 1 (.s 3)⟩,
    ⟨some 28, some (26, true), .call 17 [(.s 27)]⟩,
    ⟨some 29, some (26, true), .build [.t (.int .i64 0), .t (.str [])] [(0, 1, (.c (.t (.int .i64 29)))), (1, 1, (.c (.t (.str [84]))))]⟩,
    ⟨some 30, some (26, true), .bsl true 2 [[.int .i64 0, .str []]] [(0, (.s 29))]⟩,
    ⟨some 31, some (26, true), .call 16 [(.s 28), (.s 30)]⟩,
    ⟨some 32, none, .pick (.s 26) (.s 31) (.c (.t (.bool false)))⟩,
    ⟨some 33, none, .mv (.s 32)⟩,
    ⟨some 34, some (33, true), .build [.t (.str []), .nils] [(0, 1, (.c (.t (.str [98]))))]⟩,
    ⟨some 35, some (33, true), .bsl true 2 [[.str [], .lst []]] [(0, (.s 34))]⟩,
    ⟨some 36, some (33, true), .call 25 [(.s 35), (.c (.t (.str [98])))]⟩,
    ⟨some 37, none, .pick (.s 33) (.s 36) (.c (.t (.bool false)))⟩,
    ⟨some 0, none, .mv (.s 37)⟩] [] [0]) .ret)
def c12_1 : ACode :=
  (.seq (.region false [⟨some 8, none, .build [.t (.str []), .nils] [(0, 1, (.c (.t (.str [99, 111, 115, 116]))))]⟩,
    ⟨some 9, none, .bsl true 2 [[.str [], .lst []]] [(0, (.s 8))]⟩,
    ⟨some 10, none, .build [.t (.int .i64 0), .t (.str []), .nils, .nils, .nils, .nils, .nils] [(0, 1, (.c (.t (.int .i64 1)))), (1, 1, (.c (.t (.str [84])))), (3, 1, (.s 9))]⟩,
    ⟨some 11, none, .bsl true 7 [[.int .i64 0, .str [], .lst [], .lst [], .lst [], .lst [], .lst []]] [(0, (.s 10))]⟩,
    ⟨some 12, none, .build [.nils] [(0, 1, (.s 11))]⟩,
    ⟨some 3, none, .alloc [.nils]⟩,
    ⟨none, none, .st 1 (.s 3) (.s 12)⟩] [] [1, 2, 3]) c12_0)
def c12_2 : ACode :=
  (.seq (.region false [⟨some 5, none, .call 13 [(.c (.t (.str [105, 100, 32, 110, 97, 109, 101])))]⟩,
    ⟨some 4, none, .mv (.s 5)⟩,
    ⟨some 6, none, .ext (.s 4) 0⟩,
    ⟨some 7, none, .ext (.s 4) 1⟩,
    ⟨some 1, none, .mv (.s 6)⟩,
    ⟨some 2, none, .mv (.s 7)⟩] [] [1, 2]) c12_1)
def c12 : ACode :=
  (.seq (.region false [⟨some 0, none, .cst (.t (.bool false))⟩] [] []) c12_2)
def r12 : List ARes := [.tmp 0]
def n12 : Nat := 38
/- 13 supergraph directives.Set -/
def c13_0 : ACode :=
  (.seq (.region false [⟨some 48, none, .mv (.s 4)⟩,
    ⟨some 2, none, .mv (.s 48)⟩,
    ⟨some 3, none, .cst (.t (.int .i64 0))⟩] [] [2, 3]) .ret)
def c13_1 : ACode :=
  (.region false [⟨some 47, none, .bin .add (.s 30) (.c (.t (.int .i64 1)))⟩,
    ⟨some 30, none, .mv (.s 47)⟩] [] [4, 29, 30])
def c13_2 : ACode :=
  (.region false [⟨some 46, none, .bin .add (.s 34) (.c (.t (.int .i64 1)))⟩,
    ⟨some 34, none, .mv (.s 46)⟩] [] [4, 7, 29, 30, 33, 34])
def c13_3 : ACode :=
  (.seq (.region false [⟨some 2, none, .cst (.nils)⟩,
    ⟨some 3, none, .cst (.t (.int .i64 7))⟩] [] [2, 3]) .ret)
def c13_4 : ACode :=
  (.cond (.s 45) c13_3 .skip)
def c13_5 : ACode :=
  (.seq (.region true [⟨some 37, none, .mv (.s 4)⟩,
    ⟨some 38, none, .mv (.s 7)⟩,
    ⟨some 39, none, .ia 1 (.s 37) (.s 38)⟩,
    ⟨some 40, none, .ld false 1 (.s 39)⟩,
    ⟨some 41, none, .mv (.s 4)⟩,
    ⟨some 42, none, .mv (.s 8)⟩,
    ⟨some 43, none, .ia 1 (.s 41) (.s 42)⟩,
    ⟨some 44, none, .ld false 1 (.s 43)⟩,
    ⟨some 45, none, .bin .eql (.s 40) (.s 44)⟩] [[], [], [0, 1], [2], [], [], [4, 5], [6], [3, 7]] [4, 7, 29, 30, 33, 34, 45]) c13_4)
def c13_6 : ACode :=
  (.seq (.region false [⟨some 36, none, .mv (.s 34)⟩,
    ⟨some 8, none, .mv (.s 36)⟩] [] [4, 7, 8, 29, 30, 33, 34]) c13_5)
def c13_7 : ACode :=
  (.seq (.block 5 c13_6) c13_2)
def c13_8 : ACode :=
  (.seq (.cond (.s 35) .skip (.exit 4)) c13_7)
def c13_9 : ACode :=
  (.seq (.region false [⟨some 35, none, .bin .lss (.s 34) (.s 33)⟩] [] [4, 7, 29, 30, 33, 34, 35]) c13_8)
def c13_10 : ACode :=
  (.loop c13_9)
def c13_11 : ACode :=
  (.block 4 c13_10)
def c13_12 : ACode :=
  (.seq (.region false [⟨some 33, none, .mv (.s 7)⟩,
    ⟨some 34, none, .cst (.t (.int .i64 0))⟩] [] [4, 7, 29, 30, 33, 34]) c13_11)
def c13_13 : ACode :=
  (.seq (.region false [⟨some 32, none, .mv (.s 30)⟩,
    ⟨some 7, none, .mv (.s 32)⟩] [] [4, 7, 29, 30]) c13_12)
def c13_14 : ACode :=
  (.seq (.block 3 c13_13) c13_1)
def c13_15 : ACode :=
  (.seq (.cond (.s 31) .skip (.exit 2)) c13_14)
def c13_16 : ACode :=
  (.seq (.region false [⟨some 31, none, .bin .lss (.s 30) (.s 29)⟩] [] [4, 29, 30, 31]) c13_15)
def c13_17 : ACode :=
  (.loop c13_16)
def c13_18 : ACode :=
  (.block 2 c13_17)
def c13_19 : ACode :=
  (.seq (.seq (.region false [⟨some 28, none, .mv (.s 4)⟩,
    ⟨some 29, none, .len (.s 28)⟩,
    ⟨some 30, none, .cst (.t (.int .i64 0))⟩] [] [4, 29, 30]) c13_18) c13_0)
def c13_20 : ACode :=
  (.seq (.region false [⟨some 2, none, .cst (.nils)⟩,
    ⟨some 3, none, .cst (.t (.int .i64 4))⟩] [] [2, 3]) .ret)
def c13_21 : ACode :=
  (.cond (.s 27) c13_20 .skip)
def c13_22 : ACode :=
  (.seq (.seq (.region false [⟨some 25, none, .mv (.s 4)⟩,
    ⟨some 26, none, .len (.s 25)⟩,
    ⟨some 27, none, .bin .gtr (.s 26) (.c (.t (.int .i64 4)))⟩] [] [4, 27]) c13_21) c13_19)
def c13_23 : ACode :=
  (.region false [⟨some 24, none, .bin .add (.s 13) (.c (.t (.int .i64 1)))⟩,
    ⟨some 13, none, .mv (.s 24)⟩] [] [4, 11, 12, 13])
def c13_24 : ACode :=
  (.seq (.region false [⟨some 2, none, .cst (.nils)⟩,
    ⟨some 3, none, .cst (.t (.int .i64 3))⟩] [] [2, 3]) .ret)
def c13_25 : ACode :=
  (.cond (.s 23) c13_24 .skip)
def c13_26 : ACode :=
  (.seq (.region false [⟨some 17, none, .mv (.s 6)⟩,
    ⟨some 18, none, .call 47 [(.s 17)]⟩,
    ⟨some 19, none, .un .not (.s 18)⟩,
    ⟨some 20, none, .mv (.s 19)⟩,
    ⟨some 21, some (20, false), .mv (.s 6)⟩,
    ⟨some 22, some (20, false), .call 48 [(.s 21)]⟩,
    ⟨some 23, none, .pick (.s 20) (.c (.t (.bool true))) (.s 22)⟩] [] [4, 11, 12, 13, 23]) c13_25)
def c13_27 : ACode :=
  (.seq (.region false [⟨some 15, none, .ia 1 (.s 11) (.s 13)⟩,
    ⟨some 16, none, .ld false 1 (.s 15)⟩,
    ⟨some 6, none, .mv (.s 16)⟩] [] [4, 6, 11, 12, 13]) c13_26)
def c13_28 : ACode :=
  (.seq (.block 1 c13_27) c13_23)
def c13_29 : ACode :=
  (.seq (.cond (.s 14) .skip (.exit 0)) c13_28)
def c13_30 : ACode :=
  (.seq (.region false [⟨some 14, none, .bin .lss (.s 13) (.s 12)⟩] [] [4, 11, 12, 13, 14]) c13_29)
def c13_31 : ACode :=
  (.loop c13_30)
def c13_32 : ACode :=
  (.block 0 c13_31)
def c13_33 : ACode :=
  (.seq (.seq (.region false [⟨some 11, none, .mv (.s 4)⟩,
    ⟨some 12, none, .len (.s 11)⟩,
    ⟨some 13, none, .cst (.t (.int .i64 0))⟩] [] [4, 11, 12, 13]) c13_32) c13_22)
def c13_34 : ACode :=
  (.seq (.region false [⟨some 9, none, .mv (.s 0)⟩,
    ⟨some 10, none, .call 46 [(.s 9), (.c (.t (.str [32])))]⟩,
    ⟨some 4, none, .mv (.s 10)⟩] [] [4]) c13_33)
def c13 : ACode :=
  (.seq (.region false [⟨some 2, none, .cst (.nils)⟩,
    ⟨some 3, none, .cst (.t (.int .i64 0))⟩] [] [0]) c13_34)
def r13 : List ARes := [.tmp 2, .tmp 3]
def n13 : Nat := 49
/- 14 supergraph supergraphref23.Set -/
/- 15 supergraph supergraphref10.Large -/
def c15_0 : ACode :=
  (.seq (.region false [⟨some 69, none, .mv (.s 3)⟩,
    ⟨some 70, none, .bin .gtr (.s 69) (.c (.t (.int .i64 1000)))⟩,
    ⟨some 2, none, .mv (.s 70)⟩] [] [2]) .ret)
def c15_1 : ACode :=
  (.region false [⟨some 16, none, .mv (.s 4)⟩,
    ⟨some 17, none, .bin .add (.s 16) (.c (.t (.int .i64 1)))⟩,
    ⟨some 4, none, .mv (.s 17)⟩] [] [1, 3, 4])
def c15_2 : ACode :=
  (.region false [⟨some 50, none, .mv (.s 6)⟩,
    ⟨some 51, none, .bin .add (.s 50) (.c (.t (.int .i64 1)))⟩,
    ⟨some 6, none, .mv (.s 51)⟩] [] [1, 3, 4, 5, 6])
def c15_3 : ACode :=
  (.region true [⟨some 52, none, .mv (.s 3)⟩,
    ⟨some 53, none, .fa 4 (.s 5)⟩,
    ⟨some 54, none, .ld false 1 (.s 53)⟩,
    ⟨some 55, none, .mv (.s 6)⟩,
    ⟨some 56, none, .ia 5 (.s 54) (.s 55)⟩,
    ⟨some 57, none, .fa 1 (.s 56)⟩,
    ⟨some 58, none, .ld false 1 (.s 57)⟩,
    ⟨some 59, none, .len (.s 58)⟩,
    ⟨some 60, none, .fa 4 (.s 5)⟩,
    ⟨some 61, none, .ld false 1 (.s 60)⟩,
    ⟨some 62, none, .mv (.s 6)⟩,
    ⟨some 63, none, .ia 5 (.s 61) (.s 62)⟩,
    ⟨some 64, none, .fa 4 (.s 63)⟩,
    ⟨some 65, none, .ld false 1 (.s 64)⟩,
    ⟨some 66, none, .len (.s 65)⟩,
    ⟨some 67, none, .bin .add (.s 59) (.s 66)⟩,
    ⟨some 68, none, .bin .add (.s 52) (.s 67)⟩,
    ⟨some 3, none, .mv (.s 68)⟩] [[], [], [1], [], [2, 3], [4], [5], [6], [], [8], [], [9, 10], [11], [12], [13], [7, 14], [0, 15], [16, 0, 1, 2, 3, 4, 5, 6, 7, 8, 9, 10, 11, 12, 13, 14, 15, 16]] [1, 3, 4, 5, 6])
def c15_4 : ACode :=
  (.seq (.block 3 c15_3) c15_2)
def c15_5 : ACode :=
  (.cond (.s 49) .skip (.exit 2))
def c15_6 : ACode :=
  (.seq (.seq (.region false [⟨some 45, none, .mv (.s 6)⟩,
    ⟨some 46, none, .fa 4 (.s 5)⟩,
    ⟨some 47, none, .ld false 1 (.s 46)⟩,
    ⟨some 48, none, .len (.s 47)⟩,
    ⟨some 49, none, .bin .lss (.s 45) (.s 48)⟩] [] [1, 3, 4, 5, 6, 49]) c15_5) c15_4)
def c15_7 : ACode :=
  (.loop c15_6)
def c15_8 : ACode :=
  (.block 2 c15_7)
def c15_9 : ACode :=
  (.seq (.region false [⟨some 6, none, .cst (.t (.int .i64 0))⟩] [] [1, 3, 4, 5, 6]) c15_8)
def c15_10 : ACode :=
  (.seq (.region false [⟨some 23, none, .mv (.s 3)⟩,
    ⟨some 24, none, .fa 4 (.s 5)⟩,
    ⟨some 25, none, .ld false 1 (.s 24)⟩,
    ⟨some 26, none, .len (.s 25)⟩,
    ⟨some 27, none, .bin .add (.c (.t (.int .i64 1))) (.s 26)⟩,
    ⟨some 28, none, .fa 5 (.s 5)⟩,
    ⟨some 29, none, .ld false 1 (.s 28)⟩,
    ⟨some 30, none, .len (.s 29)⟩,
    ⟨some 31, none, .bin .add (.s 27) (.s 30)⟩,
    ⟨some 32, none, .fa 6 (.s 5)⟩,
    ⟨some 33, none, .ld false 1 (.s 32)⟩,
    ⟨some 34, none, .len (.s 33)⟩,
    ⟨some 35, none, .bin .add (.s 31) (.s 34)⟩,
    ⟨some 36, none, .fa 3 (.s 5)⟩,
    ⟨some 37, none, .ld false 1 (.s 36)⟩,
    ⟨some 38, none, .len (.s 37)⟩,
    ⟨some 39, none, .bin .add (.s 35) (.s 38)⟩,
    ⟨some 40, none, .fa 2 (.s 5)⟩,
    ⟨some 41, none, .ld false 1 (.s 40)⟩,
    ⟨some 42, none, .len (.s 41)⟩,
    ⟨some 43, none, .bin .add (.s 39) (.s 42)⟩,
    ⟨some 44, none, .bin .add (.s 23) (.s 43)⟩,
    ⟨some 3, none, .mv (.s 44)⟩] [] [1, 3, 4, 5]) c15_9)
def c15_11 : ACode :=
  (.seq (.region false [⟨some 18, none, .fa 0 (.s 1)⟩,
    ⟨some 19, none, .ld false 1 (.s 18)⟩,
    ⟨some 20, none, .mv (.s 4)⟩,
    ⟨some 21, none, .ia 7 (.s 19) (.s 20)⟩,
    ⟨some 22, none, .ld true 7 (.s 21)⟩,
    ⟨some 5, none, .alloc [.t (.int .i64 0), .t (.str []), .nils, .nils, .nils, .nils, .nils]⟩,
    ⟨none, none, .st 7 (.s 5) (.s 22)⟩] [] [1, 3, 4, 5]) c15_10)
def c15_12 : ACode :=
  (.seq (.block 1 c15_11) c15_1)
def c15_13 : ACode :=
  (.cond (.s 15) .skip (.exit 0))
def c15_14 : ACode :=
  (.seq (.seq (.region false [⟨some 11, none, .mv (.s 4)⟩,
    ⟨some 12, none, .fa 0 (.s 1)⟩,
    ⟨some 13, none, .ld false 1 (.s 12)⟩,
    ⟨some 14, none, .len (.s 13)⟩,
    ⟨some 15, none, .bin .lss (.s 11) (.s 14)⟩] [] [1, 3, 4, 15]) c15_13) c15_12)
def c15_15 : ACode :=
  (.loop c15_14)
def c15_16 : ACode :=
  (.block 0 c15_15)
def c15_17 : ACode :=
  (.seq (.seq (.region false [⟨some 4, none, .cst (.t (.int .i64 0))⟩] [] [1, 3, 4]) c15_16) c15_0)
def c15_18 : ACode :=
  (.seq (.region false [⟨some 3, none, .cst (.t (.int .i64 0))⟩] [] [1, 3]) c15_17)
def c15_19 : ACode :=
  (.seq (.region false [⟨some 2, none, .cst (.t (.bool true))⟩] [] [2]) .ret)
def c15_20 : ACode :=
  (.cond (.s 10) c15_19 .skip)
def c15_21 : ACode :=
  (.seq (.seq (.region false [⟨some 7, none, .fa 0 (.s 1)⟩,
    ⟨some 8, none, .ld false 1 (.s 7)⟩,
    ⟨some 9, none, .len (.s 8)⟩,
    ⟨some 10, none, .bin .gtr (.s 9) (.c (.t (.int .i64 70)))⟩] [] [1, 10]) c15_20) c15_18)
def c15 : ACode :=
  (.seq (.region false [⟨some 1, none, .box 1 (.s 0)⟩,
    ⟨some 2, none, .cst (.t (.bool false))⟩] [] [1]) c15_21)
def r15 : List ARes := [.tmp 2]
def n15 : Nat := 71
/- 16 supergraph supergraphref10.Faults -/
def c16_0 : ACode :=
  (.seq (.region false [⟨some 4, none, .cst (.t (.bool true))⟩] [] [4]) .ret)
def c16_1 : ACode :=
  (.region false [⟨some 15, none, .mv (.s 5)⟩,
    ⟨some 16, none, .bin .add (.s 15) (.c (.t (.int .i64 1)))⟩,
    ⟨some 5, none, .mv (.s 16)⟩] [] [0, 1, 5])
def c16_2 : ACode :=
  (.seq (.region false [⟨some 4, none, .cst (.t (.bool false))⟩] [] [4]) .ret)
def c16_3 : ACode :=
  (.cond (.s 25) c16_2 .skip)
def c16_4 : ACode :=
  (.seq (.region true [⟨some 17, none, .mv (.s 0)⟩,
    ⟨some 18, none, .mv (.s 5)⟩,
    ⟨some 19, none, .ia 2 (.s 17) (.s 18)⟩,
    ⟨some 20, none, .ld true 2 (.s 19)⟩,
    ⟨some 21, none, .mv (.s 1)⟩,
    ⟨some 22, none, .mv (.s 5)⟩,
    ⟨some 23, none, .ia 2 (.s 21) (.s 22)⟩,
    ⟨some 24, none, .ld true 2 (.s 23)⟩,
    ⟨some 25, none, .nw (.eqst true [.int .i64, .str] (.s 20) (.s 24))⟩] [[], [], [0, 1], [2], [], [], [4, 5], [6], [3, 7]] [0, 1, 5, 25]) c16_3)
def c16_5 : ACode :=
  (.seq (.block 1 c16_4) c16_1)
def c16_6 : ACode :=
  (.cond (.s 14) .skip (.exit 0))
def c16_7 : ACode :=
  (.seq (.seq (.region false [⟨some 11, none, .mv (.s 5)⟩,
    ⟨some 12, none, .mv (.s 0)⟩,
    ⟨some 13, none, .len (.s 12)⟩,
    ⟨some 14, none, .bin .lss (.s 11) (.s 13)⟩] [] [0, 1, 5, 14]) c16_6) c16_5)
def c16_8 : ACode :=
  (.loop c16_7)
def c16_9 : ACode :=
  (.block 0 c16_8)
def c16_10 : ACode :=
  (.seq (.seq (.region false [⟨some 5, none, .cst (.t (.int .i64 0))⟩] [] [0, 1, 5]) c16_9) c16_0)
def c16_11 : ACode :=
  (.seq (.region false [⟨some 4, none, .cst (.t (.bool false))⟩] [] [4]) .ret)
def c16_12 : ACode :=
  (.cond (.s 10) c16_11 .skip)
def c16_13 : ACode :=
  (.seq (.seq (.region false [⟨some 6, none, .mv (.s 0)⟩,
    ⟨some 7, none, .len (.s 6)⟩,
    ⟨some 8, none, .mv (.s 1)⟩,
    ⟨some 9, none, .len (.s 8)⟩,
    ⟨some 10, none, .bin .neq (.s 7) (.s 9)⟩] [] [0, 1, 10]) c16_12) c16_10)
def c16 : ACode :=
  (.seq (.region false [⟨some 4, none, .cst (.t (.bool false))⟩] [] [0, 1]) c16_13)
def r16 : List ARes := [.tmp 4]
def n16 : Nat := 26
/- 17 supergraph directives.Check -/
def c17_0 : ACode :=
  (.seq (.region false [⟨some 125, none, .mv (.s 3)⟩,
    ⟨some 2, none, .mv (.s 125)⟩] [] [2]) .ret)
def c17_1 : ACode :=
  (.region false [⟨some 124, none, .bin .add (.s 20) (.c (.t (.int .i64 1)))⟩,
    ⟨some 20, none, .mv (.s 124)⟩] [] [3, 18, 19, 20])
def c17_2 : ACode :=
  (.region false [⟨some 81, none, .bin .add (.s 47) (.c (.t (.int .i64 1)))⟩,
    ⟨some 47, none, .mv (.s 81)⟩] [] [3, 5, 7, 18, 19, 20, 45, 46, 47])
def c17_3 : ACode :=
  (.region false [⟨some 80, none, .bin .add (.s 66) (.c (.t (.int .i64 1)))⟩,
    ⟨some 66, none, .mv (.s 80)⟩] [] [3, 5, 7, 10, 18, 19, 20, 45, 46, 47, 64, 65, 66])
def c17_4 : ACode :=
  (.region false [⟨some 70, none, .mv (.s 3)⟩,
    ⟨some 71, none, .fa 9 (.s 12)⟩,
    ⟨some 72, none, .ld false 1 (.s 71)⟩,
    ⟨some 73, none, .mv (.s 10)⟩,
    ⟨some 74, none, .bin .add (.s 73) (.c (.t (.str [40])))⟩,
    ⟨some 75, none, .fa 0 (.s 12)⟩,
    ⟨some 76, none, .ld false 1 (.s 75)⟩,
    ⟨some 77, none, .bin .add (.s 74) (.s 76)⟩,
    ⟨some 78, none, .bin .add (.s 77) (.c (.t (.str [41])))⟩,
    ⟨some 79, none, .call 52 [(.s 70), (.s 72), (.c (.t (.int .i64 0))), (.s 78)]⟩,
    ⟨some 3, none, .mv (.s 79)⟩] [] [3, 5, 7, 10, 18, 19, 20, 45, 46, 47, 64, 65, 66])
def c17_5 : ACode :=
  (.seq (.region false [⟨some 68, none, .ia 10 (.s 64) (.s 66)⟩,
    ⟨some 69, none, .ld true 10 (.s 68)⟩,
    ⟨some 12, none, .alloc [.t (.str []), .t (.str []), .nils, .t (.bool false), .t (.int .i64 0), .t (.int .i64 0), .t (.str []), .nils, .nils, .nils]⟩,
    ⟨none, none, .st 10 (.s 12) (.s 69)⟩] [] [3, 5, 7, 10, 12, 18, 19, 20, 45, 46, 47, 64, 65, 66]) c17_4)
def c17_6 : ACode :=
  (.seq (.block 7 c17_5) c17_3)
def c17_7 : ACode :=
  (.seq (.cond (.s 67) .skip (.exit 6)) c17_6)
def c17_8 : ACode :=
  (.seq (.region false [⟨some 67, none, .bin .lss (.s 66) (.s 65)⟩] [] [3, 5, 7, 10, 18, 19, 20, 45, 46, 47, 64, 65, 66, 67]) c17_7)
def c17_9 : ACode :=
  (.loop c17_8)
def c17_10 : ACode :=
  (.block 6 c17_9)
def c17_11 : ACode :=
  (.seq (.region false [⟨some 63, none, .fa 1 (.s 9)⟩,
    ⟨some 64, none, .ld false 1 (.s 63)⟩,
    ⟨some 65, none, .len (.s 64)⟩,
    ⟨some 66, none, .cst (.t (.int .i64 0))⟩] [] [3, 5, 7, 10, 18, 19, 20, 45, 46, 47, 64, 65, 66]) c17_10)
def c17_12 : ACode :=
  (.seq (.region false [⟨some 57, none, .mv (.s 3)⟩,
    ⟨some 58, none, .fa 4 (.s 9)⟩,
    ⟨some 59, none, .ld false 1 (.s 58)⟩,
    ⟨some 60, none, .mv (.s 7)⟩,
    ⟨some 61, none, .mv (.s 10)⟩,
    ⟨some 62, none, .call 52 [(.s 57), (.s 59), (.s 60), (.s 61)]⟩,
    ⟨some 3, none, .mv (.s 62)⟩] [] [3, 5, 7, 9, 10, 18, 19, 20, 45, 46, 47]) c17_11)
def c17_13 : ACode :=
  (.seq (.region false [⟨some 51, none, .fa 1 (.s 5)⟩,
    ⟨some 52, none, .ld false 1 (.s 51)⟩,
    ⟨some 53, none, .bin .add (.s 52) (.c (.t (.str [46])))⟩,
    ⟨some 54, none, .fa 0 (.s 9)⟩,
    ⟨some 55, none, .ld false 1 (.s 54)⟩,
    ⟨some 56, none, .bin .add (.s 53) (.s 55)⟩,
    ⟨some 10, none, .mv (.s 56)⟩] [] [3, 5, 7, 9, 10, 18, 19, 20, 45, 46, 47]) c17_12)
def c17_14 : ACode :=
  (.seq (.region false [⟨some 49, none, .ia 5 (.s 45) (.s 47)⟩,
    ⟨some 50, none, .ld true 5 (.s 49)⟩,
    ⟨some 9, none, .alloc [.t (.str []), .nils, .t (.str []), .nils, .nils]⟩,
    ⟨none, none, .st 5 (.s 9) (.s 50)⟩] [] [3, 5, 7, 9, 18, 19, 20, 45, 46, 47]) c17_13)
def c17_15 : ACode :=
  (.seq (.block 5 c17_14) c17_2)
def c17_16 : ACode :=
  (.seq (.cond (.s 48) .skip (.exit 4)) c17_15)
def c17_17 : ACode :=
  (.seq (.region false [⟨some 48, none, .bin .lss (.s 47) (.s 46)⟩] [] [3, 5, 7, 18, 19, 20, 45, 46, 47, 48]) c17_16)
def c17_18 : ACode :=
  (.loop c17_17)
def c17_19 : ACode :=
  (.block 4 c17_18)
def c17_20 : ACode :=
  (.seq (.region false [⟨some 44, none, .fa 4 (.s 5)⟩,
    ⟨some 45, none, .ld false 1 (.s 44)⟩,
    ⟨some 46, none, .len (.s 45)⟩,
    ⟨some 47, none, .cst (.t (.int .i64 0))⟩] [] [3, 5, 7, 18, 19, 20, 45, 46, 47]) c17_19)
def c17_21 : ACode :=
  (.region false [⟨some 103, none, .bin .add (.s 88) (.c (.t (.int .i64 1)))⟩,
    ⟨some 88, none, .mv (.s 103)⟩] [] [3, 5, 7, 18, 19, 20, 86, 87, 88])
def c17_22 : ACode :=
  (.region false [⟨some 92, none, .mv (.s 3)⟩,
    ⟨some 93, none, .fa 1 (.s 14)⟩,
    ⟨some 94, none, .ld false 1 (.s 93)⟩,
    ⟨some 95, none, .mv (.s 7)⟩,
    ⟨some 96, none, .fa 1 (.s 5)⟩,
    ⟨some 97, none, .ld false 1 (.s 96)⟩,
    ⟨some 98, none, .bin .add (.s 97) (.c (.t (.str [46])))⟩,
    ⟨some 99, none, .fa 0 (.s 14)⟩,
    ⟨some 100, none, .ld false 1 (.s 99)⟩,
    ⟨some 101, none, .bin .add (.s 98) (.s 100)⟩,
    ⟨some 102, none, .call 52 [(.s 92), (.s 94), (.s 95), (.s 101)]⟩,
    ⟨some 3, none, .mv (.s 102)⟩] [] [3, 5, 7, 18, 19, 20, 86, 87, 88])
def c17_23 : ACode :=
  (.seq (.region false [⟨some 90, none, .ia 2 (.s 86) (.s 88)⟩,
    ⟨some 91, none, .ld true 2 (.s 90)⟩,
    ⟨some 14, none, .alloc [.t (.str []), .nils]⟩,
    ⟨none, none, .st 2 (.s 14) (.s 91)⟩] [] [3, 5, 7, 14, 18, 19, 20, 86, 87, 88]) c17_22)
def c17_24 : ACode :=
  (.seq (.block 9 c17_23) c17_21)
def c17_25 : ACode :=
  (.seq (.cond (.s 89) .skip (.exit 8)) c17_24)
def c17_26 : ACode :=
  (.seq (.region false [⟨some 89, none, .bin .lss (.s 88) (.s 87)⟩] [] [3, 5, 7, 18, 19, 20, 86, 87, 88, 89]) c17_25)
def c17_27 : ACode :=
  (.loop c17_26)
def c17_28 : ACode :=
  (.block 8 c17_27)
def c17_29 : ACode :=
  (.seq (.region false [⟨some 85, none, .fa 5 (.s 5)⟩,
    ⟨some 86, none, .ld false 1 (.s 85)⟩,
    ⟨some 87, none, .len (.s 86)⟩,
    ⟨some 88, none, .cst (.t (.int .i64 0))⟩] [] [3, 5, 7, 18, 19, 20, 86, 87, 88]) c17_28)
def c17_30 : ACode :=
  (.region false [⟨some 123, none, .bin .add (.s 109) (.c (.t (.int .i64 1)))⟩,
    ⟨some 109, none, .mv (.s 123)⟩] [] [3, 5, 18, 19, 20, 107, 108, 109])
def c17_31 : ACode :=
  (.region false [⟨some 113, none, .mv (.s 3)⟩,
    ⟨some 114, none, .fa 9 (.s 16)⟩,
    ⟨some 115, none, .ld false 1 (.s 114)⟩,
    ⟨some 116, none, .fa 1 (.s 5)⟩,
    ⟨some 117, none, .ld false 1 (.s 116)⟩,
    ⟨some 118, none, .bin .add (.s 117) (.c (.t (.str [46])))⟩,
    ⟨some 119, none, .fa 0 (.s 16)⟩,
    ⟨some 120, none, .ld false 1 (.s 119)⟩,
    ⟨some 121, none, .bin .add (.s 118) (.s 120)⟩,
    ⟨some 122, none, .call 52 [(.s 113), (.s 115), (.c (.t (.int .i64 0))), (.s 121)]⟩,
    ⟨some 3, none, .mv (.s 122)⟩] [] [3, 5, 18, 19, 20, 107, 108, 109])
def c17_32 : ACode :=
  (.seq (.region false [⟨some 111, none, .ia 10 (.s 107) (.s 109)⟩,
    ⟨some 112, none, .ld true 10 (.s 111)⟩,
    ⟨some 16, none, .alloc [.t (.str []), .t (.str []), .nils, .t (.bool false), .t (.int .i64 0), .t (.int .i64 0), .t (.str []), .nils, .nils, .nils]⟩,
    ⟨none, none, .st 10 (.s 16) (.s 112)⟩] [] [3, 5, 16, 18, 19, 20, 107, 108, 109]) c17_31)
def c17_33 : ACode :=
  (.seq (.block 11 c17_32) c17_30)
def c17_34 : ACode :=
  (.seq (.cond (.s 110) .skip (.exit 10)) c17_33)
def c17_35 : ACode :=
  (.seq (.region false [⟨some 110, none, .bin .lss (.s 109) (.s 108)⟩] [] [3, 5, 18, 19, 20, 107, 108, 109, 110]) c17_34)
def c17_36 : ACode :=
  (.loop c17_35)
def c17_37 : ACode :=
  (.block 10 c17_36)
def c17_38 : ACode :=
  (.seq (.region false [⟨some 106, none, .fa 6 (.s 5)⟩,
    ⟨some 107, none, .ld false 1 (.s 106)⟩,
    ⟨some 108, none, .len (.s 107)⟩,
    ⟨some 109, none, .cst (.t (.int .i64 0))⟩] [] [3, 5, 18, 19, 20, 107, 108, 109]) c17_37)
def c17_39 : ACode :=
  (.cond (.s 104) c17_38 .skip)
def c17_40 : ACode :=
  (.seq (.region false [⟨some 105, none, .bin .eql (.s 40) (.c (.t (.int .i64 5)))⟩,
    ⟨some 104, none, .mv (.s 105)⟩] [] [3, 5, 18, 19, 20, 104]) c17_39)
def c17_41 : ACode :=
  (.cond (.s 82) c17_29 c17_40)
def c17_42 : ACode :=
  (.region false [⟨some 84, none, .bin .eql (.s 40) (.c (.t (.int .i64 4)))⟩,
    ⟨some 82, none, .mv (.s 84)⟩] [] [3, 5, 7, 18, 19, 20, 40, 82])
def c17_43 : ACode :=
  (.cond (.s 82) .skip c17_42)
def c17_44 : ACode :=
  (.seq (.seq (.region false [⟨some 83, none, .bin .eql (.s 40) (.c (.t (.int .i64 3)))⟩,
    ⟨some 82, none, .mv (.s 83)⟩] [] [3, 5, 7, 18, 19, 20, 40, 82]) c17_43) c17_41)
def c17_45 : ACode :=
  (.cond (.s 41) c17_20 c17_44)
def c17_46 : ACode :=
  (.region false [⟨some 43, none, .bin .eql (.s 40) (.c (.t (.int .i64 2)))⟩,
    ⟨some 41, none, .mv (.s 43)⟩] [] [3, 5, 7, 18, 19, 20, 40, 41])
def c17_47 : ACode :=
  (.cond (.s 41) .skip c17_46)
def c17_48 : ACode :=
  (.seq (.seq (.region false [⟨some 42, none, .bin .eql (.s 40) (.c (.t (.int .i64 1)))⟩,
    ⟨some 41, none, .mv (.s 42)⟩] [] [3, 5, 7, 18, 19, 20, 40, 41]) c17_47) c17_45)
def c17_49 : ACode :=
  (.block 3 c17_48)
def c17_50 : ACode :=
  (.seq (.region false [⟨some 39, none, .fa 0 (.s 5)⟩,
    ⟨some 40, none, .ld false 1 (.s 39)⟩] [] [3, 5, 7, 18, 19, 20, 40]) c17_49)
def c17_51 : ACode :=
  (.seq (.region false [⟨some 32, none, .mv (.s 3)⟩,
    ⟨some 33, none, .fa 3 (.s 5)⟩,
    ⟨some 34, none, .ld false 1 (.s 33)⟩,
    ⟨some 35, none, .mv (.s 6)⟩,
    ⟨some 36, none, .fa 1 (.s 5)⟩,
    ⟨some 37, none, .ld false 1 (.s 36)⟩,
    ⟨some 38, none, .call 52 [(.s 32), (.s 34), (.s 35), (.s 37)]⟩,
    ⟨some 3, none, .mv (.s 38)⟩] [] [3, 5, 7, 18, 19, 20]) c17_50)
def c17_52 : ACode :=
  (.region false [⟨some 6, none, .cst (.t (.int .i64 1))⟩,
    ⟨some 7, none, .cst (.t (.int .i64 4))⟩] [] [3, 5, 6, 7, 18, 19, 20])
def c17_53 : ACode :=
  (.region false [⟨some 7, none, .cst (.t (.int .i64 8))⟩] [] [3, 5, 6, 7, 18, 19, 20])
def c17_54 : ACode :=
  (.region false [⟨some 7, none, .cst (.t (.int .i64 16))⟩] [] [3, 5, 6, 7, 18, 19, 20])
def c17_55 : ACode :=
  (.cond (.s 30) c17_54 .skip)
def c17_56 : ACode :=
  (.seq (.region false [⟨some 31, none, .bin .eql (.s 25) (.c (.t (.int .i64 4)))⟩,
    ⟨some 30, none, .mv (.s 31)⟩] [] [3, 5, 6, 7, 18, 19, 20, 30]) c17_55)
def c17_57 : ACode :=
  (.cond (.s 28) c17_53 c17_56)
def c17_58 : ACode :=
  (.seq (.region false [⟨some 29, none, .bin .eql (.s 25) (.c (.t (.int .i64 2)))⟩,
    ⟨some 28, none, .mv (.s 29)⟩] [] [3, 5, 6, 7, 18, 19, 20, 25, 28]) c17_57)
def c17_59 : ACode :=
  (.cond (.s 26) c17_52 c17_58)
def c17_60 : ACode :=
  (.seq (.region false [⟨some 27, none, .bin .eql (.s 25) (.c (.t (.int .i64 1)))⟩,
    ⟨some 26, none, .mv (.s 27)⟩] [] [3, 5, 6, 7, 18, 19, 20, 25, 26]) c17_59)
def c17_61 : ACode :=
  (.block 2 c17_60)
def c17_62 : ACode :=
  (.seq (.seq (.region false [⟨some 24, none, .fa 0 (.s 5)⟩,
    ⟨some 25, none, .ld false 1 (.s 24)⟩] [] [3, 5, 6, 7, 18, 19, 20, 25]) c17_61) c17_51)
def c17_63 : ACode :=
  (.seq (.region false [⟨some 6, none, .cst (.t (.int .i64 2))⟩,
    ⟨some 7, none, .cst (.t (.int .i64 0))⟩] [] [3, 5, 6, 7, 18, 19, 20]) c17_62)
def c17_64 : ACode :=
  (.seq (.region false [⟨some 22, none, .ia 7 (.s 18) (.s 20)⟩,
    ⟨some 23, none, .ld true 7 (.s 22)⟩,
    ⟨some 5, none, .alloc [.t (.int .i64 0), .t (.str []), .nils, .nils, .nils, .nils, .nils]⟩,
    ⟨none, none, .st 7 (.s 5) (.s 23)⟩] [] [3, 5, 18, 19, 20]) c17_63)
def c17_65 : ACode :=
  (.seq (.block 1 c17_64) c17_1)
def c17_66 : ACode :=
  (.seq (.cond (.s 21) .skip (.exit 0)) c17_65)
def c17_67 : ACode :=
  (.seq (.region false [⟨some 21, none, .bin .lss (.s 20) (.s 19)⟩] [] [3, 18, 19, 20, 21]) c17_66)
def c17_68 : ACode :=
  (.loop c17_67)
def c17_69 : ACode :=
  (.block 0 c17_68)
def c17_70 : ACode :=
  (.seq (.seq (.region false [⟨some 17, none, .fa 0 (.s 1)⟩,
    ⟨some 18, none, .ld false 1 (.s 17)⟩,
    ⟨some 19, none, .len (.s 18)⟩,
    ⟨some 20, none, .cst (.t (.int .i64 0))⟩] [] [3, 18, 19, 20]) c17_69) c17_0)
def c17_71 : ACode :=
  (.seq (.region false [⟨some 3, none, .cst (.nils)⟩] [] [1, 3]) c17_70)
def c17 : ACode :=
  (.seq (.region false [⟨some 1, none, .box 1 (.s 0)⟩,
    ⟨some 2, none, .cst (.nils)⟩] [] [1]) c17_71)
def r17 : List ARes := [.tmp 2]
def n17 : Nat := 126
/- 18 supergraph supergraphref23.Check -/
/- 19 supergraph supergraphref23.Has -/
def c19_0 : ACode :=
  (.seq (.region false [⟨some 4, none, .cst (.t (.bool false))⟩] [] [4]) .ret)
def c19_1 : ACode :=
  (.region false [⟨some 10, none, .mv (.s 5)⟩,
    ⟨some 11, none, .bin .add (.s 10) (.c (.t (.int .i64 1)))⟩,
    ⟨some 5, none, .mv (.s 11)⟩] [] [0, 1, 5])
def c19_2 : ACode :=
  (.seq (.region false [⟨some 4, none, .cst (.t (.bool true))⟩] [] [4]) .ret)
def c19_3 : ACode :=
  (.cond (.s 18) c19_2 .skip)
def c19_4 : ACode :=
  (.seq (.region false [⟨some 12, none, .mv (.s 0)⟩,
    ⟨some 13, none, .mv (.s 5)⟩,
    ⟨some 14, none, .ia 2 (.s 12) (.s 13)⟩,
    ⟨some 15, none, .fa 0 (.s 14)⟩,
    ⟨some 16, none, .ld false 1 (.s 15)⟩,
    ⟨some 17, none, .mv (.s 1)⟩,
    ⟨some 18, none, .bin .eql (.s 16) (.s 17)⟩] [] [0, 1, 5, 18]) c19_3)
def c19_5 : ACode :=
  (.seq (.block 1 c19_4) c19_1)
def c19_6 : ACode :=
  (.cond (.s 9) .skip (.exit 0))
def c19_7 : ACode :=
  (.seq (.seq (.region false [⟨some 6, none, .mv (.s 5)⟩,
    ⟨some 7, none, .mv (.s 0)⟩,
    ⟨some 8, none, .len (.s 7)⟩,
    ⟨some 9, none, .bin .lss (.s 6) (.s 8)⟩] [] [0, 1, 5, 9]) c19_6) c19_5)
def c19_8 : ACode :=
  (.loop c19_7)
def c19_9 : ACode :=
  (.block 0 c19_8)
def c19_10 : ACode :=
  (.seq (.seq (.region false [⟨some 5, none, .cst (.t (.int .i64 0))⟩] [] [0, 1, 5]) c19_9) c19_0)
def c19 : ACode :=
  (.seq (.region false [⟨some 4, none, .cst (.t (.bool false))⟩] [] [0, 1]) c19_10)
def r19 : List ARes := [.tmp 4]
def n19 : Nat := 19
/- 20 supergraph directives.Public -/
/- 21 supergraph supergraphref23.Public -/
/- 22 supergraph supergraphlaw23.bare -/
/- 23 supergraph directives.Arg -/
/- 24 supergraph supergraphref23.Arg -/
/- 25 supergraph directives.Has -/
def c25_0 : ACode :=
  (.seq (.region false [⟨some 4, none, .cst (.t (.bool false))⟩] [] [4]) .ret)
def c25_1 : ACode :=
  (.region false [⟨some 17, none, .bin .add (.s 9) (.c (.t (.int .i64 1)))⟩,
    ⟨some 9, none, .mv (.s 17)⟩] [] [1, 7, 8, 9])
def c25_2 : ACode :=
  (.seq (.region false [⟨some 4, none, .cst (.t (.bool true))⟩] [] [4]) .ret)
def c25_3 : ACode :=
  (.cond (.s 16) c25_2 .skip)
def c25_4 : ACode :=
  (.seq (.region false [⟨some 13, none, .fa 0 (.s 6)⟩,
    ⟨some 14, none, .ld false 1 (.s 13)⟩,
    ⟨some 15, none, .mv (.s 1)⟩,
    ⟨some 16, none, .bin .eql (.s 14) (.s 15)⟩] [] [1, 7, 8, 9, 16]) c25_3)
def c25_5 : ACode :=
  (.seq (.region false [⟨some 11, none, .ia 2 (.s 7) (.s 9)⟩,
    ⟨some 12, none, .ld true 2 (.s 11)⟩,
    ⟨some 6, none, .alloc [.t (.str []), .nils]⟩,
    ⟨none, none, .st 2 (.s 6) (.s 12)⟩] [] [1, 6, 7, 8, 9]) c25_4)
def c25_6 : ACode :=
  (.seq (.block 1 c25_5) c25_1)
def c25_7 : ACode :=
  (.seq (.cond (.s 10) .skip (.exit 0)) c25_6)
def c25_8 : ACode :=
  (.seq (.region false [⟨some 10, none, .bin .lss (.s 9) (.s 8)⟩] [] [1, 7, 8, 9, 10]) c25_7)
def c25_9 : ACode :=
  (.loop c25_8)
def c25_10 : ACode :=
  (.block 0 c25_9)
def c25_11 : ACode :=
  (.seq (.seq (.region false [⟨some 7, none, .mv (.s 0)⟩,
    ⟨some 8, none, .len (.s 7)⟩,
    ⟨some 9, none, .cst (.t (.int .i64 0))⟩] [] [1, 7, 8, 9]) c25_10) c25_0)
def c25 : ACode :=
  (.seq (.region false [⟨some 4, none, .cst (.t (.bool false))⟩] [] [0, 1]) c25_11)
def r25 : List ARes := [.tmp 4]
def n25 : Nat := 18
/- 26 supergraph supergraphlaw23.same -/
/- 27 supergraph supergraphlaw23.values -/
/- 28 supergraph directives.All -/
/- 29 supergraph supergraphref23.All -/
/- 30 supergraph supergraphlaw25.large -/
/- 31 supergraph supergraphref25.Right -/
/- 32 supergraph supergraphlaw25.exampleHolds -/
/- 33 supergraph moves.Joins -/
/- 34 supergraph supergraphlaw25.keyed -/
/- 35 supergraph supergraphlaw25.others -/
/- 36 supergraph supergraphref25.Bare -/
/- 37 supergraph supergraphlaw25.fieldsOf -/
/- 38 supergraph moves.Find -/
/- 39 supergraph supergraphref25.Find -/
/- 40 supergraph moves.Keys -/
/- 41 supergraph supergraphref25.Keys -/
/- 42 supergraph supergraphref25.SameJoin -/
/- 43 supergraph supergraphref25.Texts -/
/- 44 supergraph moves.Needs -/
/- 45 supergraph supergraphref25.Needs -/
/- 46 strings.Split -/
def c46_0 : ACode :=
  (.seq (.region false [⟨some 5, none, .mv (.s 0)⟩,
    ⟨some 6, none, .mv (.s 1)⟩,
    ⟨some 7, none, .call 69 [(.s 5), (.s 6), (.c (.t (.int .i64 0))), (.c (.t (.int .i64 (-1))))]⟩,
    ⟨some 4, none, .mv (.s 7)⟩] [] [4]) .ret)
def c46 : ACode :=
  (.seq (.region false [⟨some 4, none, .cst (.nils)⟩] [] [0, 1]) c46_0)
def r46 : List ARes := [.tmp 4]
def n46 : Nat := 8
/- 47 supergraph text.Name -/
def c47_0 : ACode :=
  (.seq (.region false [⟨some 2, none, .cst (.t (.bool true))⟩] [] [2]) .ret)
def c47_1 : ACode :=
  (.region false [⟨some 57, none, .bin .add (.s 24) (.c (.t (.int .i64 1)))⟩,
    ⟨some 24, none, .mv (.s 57)⟩] [] [0, 23, 24])
def c47_2 : ACode :=
  (.seq (.region false [⟨some 2, none, .cst (.t (.bool false))⟩] [] [2]) .ret)
def c47_3 : ACode :=
  (.cond (.s 56) c47_2 .skip)
def c47_4 : ACode :=
  (.seq (.region false [⟨some 30, none, .mv (.s 4)⟩,
    ⟨some 31, none, .bin .geq (.s 30) (.c (.t (.int .u8 97)))⟩,
    ⟨some 32, none, .mv (.s 31)⟩,
    ⟨some 33, some (32, true), .mv (.s 4)⟩,
    ⟨some 34, some (32, true), .bin .leq (.s 33) (.c (.t (.int .u8 122)))⟩,
    ⟨some 35, none, .pick (.s 32) (.s 34) (.c (.t (.bool false)))⟩,
    ⟨some 36, none, .mv (.s 35)⟩,
    ⟨some 37, some (36, false), .mv (.s 4)⟩,
    ⟨some 38, some (36, false), .bin .geq (.s 37) (.c (.t (.int .u8 65)))⟩,
    ⟨some 39, some (36, false), .mv (.s 38)⟩,
    ⟨some 40, some (39, true), .mv (.s 4)⟩,
    ⟨some 41, some (39, true), .bin .leq (.s 40) (.c (.t (.int .u8 90)))⟩,
    ⟨some 42, some (36, false), .pick (.s 39) (.s 41) (.c (.t (.bool false)))⟩,
    ⟨some 43, none, .pick (.s 36) (.c (.t (.bool true))) (.s 42)⟩,
    ⟨some 44, none, .mv (.s 43)⟩,
    ⟨some 45, some (44, false), .mv (.s 4)⟩,
    ⟨some 46, some (44, false), .bin .geq (.s 45) (.c (.t (.int .u8 48)))⟩,
    ⟨some 47, some (44, false), .mv (.s 46)⟩,
    ⟨some 48, some (47, true), .mv (.s 4)⟩,
    ⟨some 49, some (47, true), .bin .leq (.s 48) (.c (.t (.int .u8 57)))⟩,
    ⟨some 50, some (44, false), .pick (.s 47) (.s 49) (.c (.t (.bool false)))⟩,
    ⟨some 51, none, .pick (.s 44) (.c (.t (.bool true))) (.s 50)⟩,
    ⟨some 52, none, .mv (.s 51)⟩,
    ⟨some 53, some (52, false), .mv (.s 4)⟩,
    ⟨some 54, some (52, false), .bin .eql (.s 53) (.c (.t (.int .u8 95)))⟩,
    ⟨some 55, none, .pick (.s 52) (.c (.t (.bool true))) (.s 54)⟩,
    ⟨some 56, none, .un .not (.s 55)⟩] [] [0, 23, 24, 56]) c47_3)
def c47_5 : ACode :=
  (.seq (.region false [⟨some 27, none, .mv (.s 0)⟩,
    ⟨some 28, none, .mv (.s 3)⟩,
    ⟨some 29, none, .ixs (.s 27) (.s 28)⟩,
    ⟨some 4, none, .mv (.s 29)⟩] [] [0, 4, 23, 24]) c47_4)
def c47_6 : ACode :=
  (.seq (.region false [⟨some 26, none, .mv (.s 24)⟩,
    ⟨some 3, none, .mv (.s 26)⟩] [] [0, 3, 23, 24]) c47_5)
def c47_7 : ACode :=
  (.seq (.block 1 c47_6) c47_1)
def c47_8 : ACode :=
  (.seq (.cond (.s 25) .skip (.exit 0)) c47_7)
def c47_9 : ACode :=
  (.seq (.region false [⟨some 25, none, .bin .lss (.s 24) (.s 23)⟩] [] [0, 23, 24, 25]) c47_8)
def c47_10 : ACode :=
  (.loop c47_9)
def c47_11 : ACode :=
  (.block 0 c47_10)
def c47_12 : ACode :=
  (.seq (.seq (.region false [⟨some 22, none, .mv (.s 0)⟩,
    ⟨some 23, none, .lens (.s 22)⟩,
    ⟨some 24, none, .cst (.t (.int .i64 0))⟩] [] [0, 23, 24]) c47_11) c47_0)
def c47_13 : ACode :=
  (.seq (.region false [⟨some 2, none, .cst (.t (.bool false))⟩] [] [2]) .ret)
def c47_14 : ACode :=
  (.cond (.s 21) c47_13 .skip)
def c47_15 : ACode :=
  (.seq (.seq (.region false [⟨some 5, none, .mv (.s 0)⟩,
    ⟨some 6, none, .bin .eql (.s 5) (.c (.t (.str [])))⟩,
    ⟨some 7, none, .mv (.s 6)⟩,
    ⟨some 8, some (7, false), .mv (.s 0)⟩,
    ⟨some 9, some (7, false), .lens (.s 8)⟩,
    ⟨some 10, some (7, false), .bin .gtr (.s 9) (.c (.t (.int .i64 64)))⟩,
    ⟨some 11, none, .pick (.s 7) (.c (.t (.bool true))) (.s 10)⟩,
    ⟨some 12, none, .mv (.s 11)⟩,
    ⟨some 13, some (12, false), .mv (.s 0)⟩,
    ⟨some 14, some (12, false), .ixs (.s 13) (.c (.t (.int .i64 0)))⟩,
    ⟨some 15, some (12, false), .bin .geq (.s 14) (.c (.t (.int .u8 48)))⟩,
    ⟨some 16, some (12, false), .mv (.s 15)⟩,
    ⟨some 17, some (16, true), .mv (.s 0)⟩,
    ⟨some 18, some (16, true), .ixs (.s 17) (.c (.t (.int .i64 0)))⟩,
    ⟨some 19, some (16, true), .bin .leq (.s 18) (.c (.t (.int .u8 57)))⟩,
    ⟨some 20, some (12, false), .pick (.s 16) (.s 19) (.c (.t (.bool false)))⟩,
    ⟨some 21, none, .pick (.s 12) (.c (.t (.bool true))) (.s 20)⟩] [] [0, 21]) c47_14) c47_12)
def c47 : ACode :=
  (.seq (.region false [⟨some 2, none, .cst (.t (.bool false))⟩] [] [0]) c47_15)
def r47 : List ARes := [.tmp 2]
def n47 : Nat := 58
/- 48 supergraph text.Reserved -/
def c48_0 : ACode :=
  (.seq (.region false [⟨some 3, none, .mv (.s 0)⟩,
    ⟨some 4, none, .call 70 [(.s 3), (.c (.t (.str [95, 95])))]⟩,
    ⟨some 2, none, .mv (.s 4)⟩] [] [2]) .ret)
def c48 : ACode :=
  (.seq (.region false [⟨some 2, none, .cst (.t (.bool false))⟩] [] [0]) c48_0)
def r48 : List ARes := [.tmp 2]
def n48 : Nat := 5
/- 49 supergraph supergraphref23.split -/
/- 50 supergraph supergraphref01.Name -/
/- 51 supergraph supergraphref01.Reserved -/
/- 52 supergraph directives.uses -/
def c52_0 : ACode :=
  (.seq (.region false [⟨some 29, none, .mv (.s 0)⟩,
    ⟨some 8, none, .mv (.s 29)⟩] [] [8]) .ret)
def c52_1 : ACode :=
  (.region false [⟨some 28, none, .bin .add (.s 13) (.c (.t (.int .i64 1)))⟩,
    ⟨some 13, none, .mv (.s 28)⟩] [] [0, 1, 2, 3, 12, 13])
def c52_2 : ACode :=
  (.region false [⟨some 22, none, .mv (.s 0)⟩,
    ⟨some 23, none, .mv (.s 10)⟩,
    ⟨some 24, none, .mv (.s 3)⟩,
    ⟨some 25, none, .build [.t (.int .i64 0), .t (.str [])] [(0, 1, (.s 23)), (1, 1, (.s 24))]⟩,
    ⟨some 26, none, .bsl false 2 [[.int .i64 0, .str []]] [(0, (.s 25))]⟩,
    ⟨some 27, none, .app 2 24 (.s 22) (.s 26)⟩,
    ⟨some 0, none, .mv (.s 27)⟩] [] [0, 1, 2, 3, 12, 13])
def c52_3 : ACode :=
  (.cond (.s 21) c52_2 .skip)
def c52_4 : ACode :=
  (.seq (.region false [⟨some 20, none, .mv (.s 10)⟩,
    ⟨some 21, none, .bin .neq (.s 20) (.c (.t (.int .i64 0)))⟩] [] [0, 1, 2, 3, 10, 12, 13, 21]) c52_3)
def c52_5 : ACode :=
  (.seq (.region false [⟨some 16, none, .mv (.s 1)⟩,
    ⟨some 17, none, .mv (.s 9)⟩,
    ⟨some 18, none, .mv (.s 2)⟩,
    ⟨some 19, none, .call 73 [(.s 16), (.s 17), (.s 18)]⟩,
    ⟨some 10, none, .mv (.s 19)⟩] [] [0, 1, 2, 3, 10, 12, 13]) c52_4)
def c52_6 : ACode :=
  (.seq (.region false [⟨some 15, none, .mv (.s 13)⟩,
    ⟨some 9, none, .mv (.s 15)⟩] [] [0, 1, 2, 3, 9, 12, 13]) c52_5)
def c52_7 : ACode :=
  (.seq (.block 1 c52_6) c52_1)
def c52_8 : ACode :=
  (.seq (.cond (.s 14) .skip (.exit 0)) c52_7)
def c52_9 : ACode :=
  (.seq (.region false [⟨some 14, none, .bin .lss (.s 13) (.s 12)⟩] [] [0, 1, 2, 3, 12, 13, 14]) c52_8)
def c52_10 : ACode :=
  (.loop c52_9)
def c52_11 : ACode :=
  (.block 0 c52_10)
def c52_12 : ACode :=
  (.seq (.seq (.region false [⟨some 11, none, .mv (.s 1)⟩,
    ⟨some 12, none, .len (.s 11)⟩,
    ⟨some 13, none, .cst (.t (.int .i64 0))⟩] [] [0, 1, 2, 3, 12, 13]) c52_11) c52_0)
def c52 : ACode :=
  (.seq (.region false [⟨some 8, none, .cst (.nils)⟩] [] [0, 1, 2, 3]) c52_12)
def r52 : List ARes := [.tmp 8]
def n52 : Nat := 30
/- 53 supergraph supergraphref23.uses -/
/- 54 supergraph supergraphref23.fields -/
/- 55 supergraph supergraphref23.members -/
/- 56 supergraph directives.argument -/
def c56_0 : ACode :=
  (.seq (.region false [⟨some 22, none, .build [.t (.int .i64 0), .t (.int .i64 0), .t (.str []), .nils, .nils] []⟩,
    ⟨none, none, .st 5 (.s 4) (.s 22)⟩,
    ⟨some 5, none, .cst (.t (.bool false))⟩] [] [4, 5]) .ret)
def c56_1 : ACode :=
  (.region false [⟨some 21, none, .bin .add (.s 11) (.c (.t (.int .i64 1)))⟩,
    ⟨some 11, none, .mv (.s 21)⟩] [] [1, 4, 9, 10, 11])
def c56_2 : ACode :=
  (.seq (.region false [⟨some 19, none, .fa 1 (.s 7)⟩,
    ⟨some 20, none, .ld true 5 (.s 19)⟩,
    ⟨none, none, .st 5 (.s 4) (.s 20)⟩,
    ⟨some 5, none, .cst (.t (.bool true))⟩] [] [4, 5]) .ret)
def c56_3 : ACode :=
  (.cond (.s 18) c56_2 .skip)
def c56_4 : ACode :=
  (.seq (.region false [⟨some 15, none, .fa 0 (.s 7)⟩,
    ⟨some 16, none, .ld false 1 (.s 15)⟩,
    ⟨some 17, none, .mv (.s 1)⟩,
    ⟨some 18, none, .bin .eql (.s 16) (.s 17)⟩] [] [1, 4, 7, 9, 10, 11, 18]) c56_3)
def c56_5 : ACode :=
  (.seq (.region false [⟨some 13, none, .ia 6 (.s 9) (.s 11)⟩,
    ⟨some 14, none, .ld true 6 (.s 13)⟩,
    ⟨some 7, none, .alloc [.t (.str []), .t (.int .i64 0), .t (.int .i64 0), .t (.str []), .nils, .nils]⟩,
    ⟨none, none, .st 6 (.s 7) (.s 14)⟩] [] [1, 4, 7, 9, 10, 11]) c56_4)
def c56_6 : ACode :=
  (.seq (.block 1 c56_5) c56_1)
def c56_7 : ACode :=
  (.seq (.cond (.s 12) .skip (.exit 0)) c56_6)
def c56_8 : ACode :=
  (.seq (.region false [⟨some 12, none, .bin .lss (.s 11) (.s 10)⟩] [] [1, 4, 9, 10, 11, 12]) c56_7)
def c56_9 : ACode :=
  (.loop c56_8)
def c56_10 : ACode :=
  (.block 0 c56_9)
def c56_11 : ACode :=
  (.seq (.seq (.region false [⟨some 8, none, .fa 1 (.s 2)⟩,
    ⟨some 9, none, .ld false 1 (.s 8)⟩,
    ⟨some 10, none, .len (.s 9)⟩,
    ⟨some 11, none, .cst (.t (.int .i64 0))⟩] [] [1, 4, 9, 10, 11]) c56_10) c56_0)
def c56 : ACode :=
  (.seq (.region false [⟨some 2, none, .box 2 (.s 0)⟩,
    ⟨some 4, none, .alloc [.t (.int .i64 0), .t (.int .i64 0), .t (.str []), .nils, .nils]⟩,
    ⟨some 5, none, .cst (.t (.bool false))⟩] [] [1, 2, 4]) c56_11)
def r56 : List ARes := [.cell 4 true 5, .tmp 5]
def n56 : Nat := 23
/- 57 supergraph supergraphref23.argument -/
def c57_0 : ACode :=
  (.seq (.region false [⟨some 28, none, .build [.t (.int .i64 0), .t (.int .i64 0), .t (.str []), .nils, .nils] []⟩,
    ⟨none, none, .st 5 (.s 4) (.s 28)⟩,
    ⟨some 5, none, .cst (.t (.bool false))⟩] [] [4, 5]) .ret)
def c57_1 : ACode :=
  (.region false [⟨some 12, none, .mv (.s 6)⟩,
    ⟨some 13, none, .bin .add (.s 12) (.c (.t (.int .i64 1)))⟩,
    ⟨some 6, none, .mv (.s 13)⟩] [] [1, 2, 4, 6])
def c57_2 : ACode :=
  (.seq (.region false [⟨some 22, none, .fa 1 (.s 2)⟩,
    ⟨some 23, none, .ld false 1 (.s 22)⟩,
    ⟨some 24, none, .mv (.s 6)⟩,
    ⟨some 25, none, .ia 6 (.s 23) (.s 24)⟩,
    ⟨some 26, none, .fa 1 (.s 25)⟩,
    ⟨some 27, none, .ld true 5 (.s 26)⟩,
    ⟨none, none, .st 5 (.s 4) (.s 27)⟩,
    ⟨some 5, none, .cst (.t (.bool true))⟩] [] [4, 5]) .ret)
def c57_3 : ACode :=
  (.cond (.s 21) c57_2 .skip)
def c57_4 : ACode :=
  (.seq (.region false [⟨some 14, none, .fa 1 (.s 2)⟩,
    ⟨some 15, none, .ld false 1 (.s 14)⟩,
    ⟨some 16, none, .mv (.s 6)⟩,
    ⟨some 17, none, .ia 6 (.s 15) (.s 16)⟩,
    ⟨some 18, none, .fa 0 (.s 17)⟩,
    ⟨some 19, none, .ld false 1 (.s 18)⟩,
    ⟨some 20, none, .mv (.s 1)⟩,
    ⟨some 21, none, .bin .eql (.s 19) (.s 20)⟩] [] [1, 2, 4, 6, 21]) c57_3)
def c57_5 : ACode :=
  (.seq (.block 1 c57_4) c57_1)
def c57_6 : ACode :=
  (.cond (.s 11) .skip (.exit 0))
def c57_7 : ACode :=
  (.seq (.seq (.region false [⟨some 7, none, .mv (.s 6)⟩,
    ⟨some 8, none, .fa 1 (.s 2)⟩,
    ⟨some 9, none, .ld false 1 (.s 8)⟩,
    ⟨some 10, none, .len (.s 9)⟩,
    ⟨some 11, none, .bin .lss (.s 7) (.s 10)⟩] [] [1, 2, 4, 6, 11]) c57_6) c57_5)
def c57_8 : ACode :=
  (.loop c57_7)
def c57_9 : ACode :=
  (.block 0 c57_8)
def c57_10 : ACode :=
  (.seq (.seq (.region false [⟨some 6, none, .cst (.t (.int .i64 0))⟩] [] [1, 2, 4, 6]) c57_9) c57_0)
def c57 : ACode :=
  (.seq (.region false [⟨some 2, none, .box 2 (.s 0)⟩,
    ⟨some 4, none, .alloc [.t (.int .i64 0), .t (.int .i64 0), .t (.str []), .nils, .nils]⟩,
    ⟨some 5, none, .cst (.t (.bool false))⟩] [] [1, 2, 4]) c57_10)
def r57 : List ARes := [.cell 4 true 5, .tmp 5]
def n57 : Nat := 29
/- 58 supergraph supergraphref25.Size -/
/- 59 supergraph supergraphref10.Check -/
/- 60 supergraph supergraphlaw25.user -/
/- 61 (*supergraph moves.judge).keys -/
/- 62 supergraph moves.keysOf -/
/- 63 (*supergraph moves.judge).field -/
/- 64 supergraph moves.set -/
def c64_0 : ACode :=
  (.seq (.region false [⟨some 23, none, .mv (.s 7)⟩,
    ⟨some 4, none, .mv (.s 23)⟩] [] [4]) .ret)
def c64_1 : ACode :=
  (.seq (.region false [⟨some 4, none, .cst (.nils)⟩] [] [4]) .ret)
def c64_2 : ACode :=
  (.cond (.s 22) c64_1 .skip)
def c64_3 : ACode :=
  (.seq (.seq (.region false [⟨some 21, none, .mv (.s 8)⟩,
    ⟨some 22, none, .bin .neq (.s 21) (.c (.t (.int .i64 0)))⟩] [] [7, 22]) c64_2) c64_0)
def c64_4 : ACode :=
  (.seq (.region false [⟨some 16, none, .fa 2 (.s 5)⟩,
    ⟨some 17, none, .ld false 1 (.s 16)⟩,
    ⟨some 18, none, .call 13 [(.s 17)]⟩,
    ⟨some 15, none, .mv (.s 18)⟩,
    ⟨some 19, none, .ext (.s 15) 0⟩,
    ⟨some 20, none, .ext (.s 15) 1⟩,
    ⟨some 7, none, .mv (.s 19)⟩,
    ⟨some 8, none, .mv (.s 20)⟩] [] [7, 8]) c64_3)
def c64_5 : ACode :=
  (.seq (.region false [⟨some 10, none, .mv (.s 0)⟩,
    ⟨some 11, none, .mv (.s 1)⟩,
    ⟨some 12, none, .call 23 [(.s 10), (.s 11), (.c (.t (.str [102, 105, 101, 108, 100, 115])))]⟩,
    ⟨some 9, none, .mv (.s 12)⟩,
    ⟨some 13, none, .ext (.s 9) 0⟩,
    ⟨some 14, none, .ext (.s 9) 1⟩,
    ⟨some 5, none, .alloc [.t (.int .i64 0), .t (.int .i64 0), .t (.str []), .nils, .nils]⟩,
    ⟨none, none, .st 5 (.s 5) (.s 13)⟩,
    ⟨some 6, none, .mv (.s 14)⟩] [] [5]) c64_4)
def c64 : ACode :=
  (.seq (.region false [⟨some 4, none, .cst (.nils)⟩] [] [0, 1]) c64_5)
def r64 : List ARes := [.tmp 4]
def n64 : Nat := 24
/- 65 supergraph schema.Find -/
/- 66 supergraph schema.FieldOf -/
/- 67 supergraph supergraphref25.bareInputs -/
/- 68 slices.Clone[[]string,string] -/
/- 69 strings.genSplit -/
def c69_0 : ACode :=
  (.seq (.region false [⟨some 62, none, .mv (.s 9)⟩,
    ⟨some 63, none, .mv (.s 10)⟩,
    ⟨some 64, none, .bin .add (.s 63) (.c (.t (.int .i64 1)))⟩,
    ⟨some 65, none, .sll 1 (.s 62) none (some (.s 64))⟩,
    ⟨some 8, none, .mv (.s 65)⟩] [] [8]) .ret)
def c69_1 : ACode :=
  (.seq (.region false [⟨some 58, none, .mv (.s 9)⟩,
    ⟨some 59, none, .mv (.s 10)⟩,
    ⟨some 60, none, .mv (.s 0)⟩,
    ⟨some 61, none, .ia 1 (.s 58) (.s 59)⟩,
    ⟨none, none, .st 1 (.s 61) (.s 60)⟩] [] [9, 10]) c69_0)
def c69_2 : ACode :=
  (.region false [⟨some 56, none, .mv (.s 10)⟩,
    ⟨some 57, none, .bin .add (.s 56) (.c (.t (.int .i64 1)))⟩,
    ⟨some 10, none, .mv (.s 57)⟩] [] [0, 1, 2, 3, 9, 10])
def c69_3 : ACode :=
  (.seq (.region false [⟨some 50, none, .mv (.s 0)⟩,
    ⟨some 51, none, .mv (.s 11)⟩,
    ⟨some 52, none, .mv (.s 1)⟩,
    ⟨some 53, none, .lens (.s 52)⟩,
    ⟨some 54, none, .bin .add (.s 51) (.s 53)⟩,
    ⟨some 55, none, .sls (.s 50) (some (.s 54)) none⟩,
    ⟨some 0, none, .mv (.s 55)⟩] [] [0, 1, 2, 3, 9, 10]) c69_2)
def c69_4 : ACode :=
  (.seq (.region false [⟨some 42, none, .mv (.s 9)⟩,
    ⟨some 43, none, .mv (.s 10)⟩,
    ⟨some 44, none, .mv (.s 0)⟩,
    ⟨some 45, none, .mv (.s 11)⟩,
    ⟨some 46, none, .mv (.s 2)⟩,
    ⟨some 47, none, .bin .add (.s 45) (.s 46)⟩,
    ⟨some 48, none, .sls (.s 44) none (some (.s 47))⟩,
    ⟨some 49, none, .ia 1 (.s 42) (.s 43)⟩,
    ⟨none, none, .st 1 (.s 49) (.s 48)⟩] [] [0, 1, 2, 3, 9, 10, 11]) c69_3)
def c69_5 : ACode :=
  (.cond (.s 41) (.exit 0) .skip)
def c69_6 : ACode :=
  (.seq (.seq (.region false [⟨some 40, none, .mv (.s 11)⟩,
    ⟨some 41, none, .bin .lss (.s 40) (.c (.t (.int .i64 0)))⟩] [] [0, 1, 2, 3, 9, 10, 11, 41]) c69_5) c69_4)
def c69_7 : ACode :=
  (.seq (.region false [⟨some 37, none, .mv (.s 0)⟩,
    ⟨some 38, none, .mv (.s 1)⟩,
    ⟨some 39, none, .call 90 [(.s 37), (.s 38)]⟩,
    ⟨some 11, none, .mv (.s 39)⟩] [] [0, 1, 2, 3, 9, 10, 11]) c69_6)
def c69_8 : ACode :=
  (.block 1 c69_7)
def c69_9 : ACode :=
  (.cond (.s 36) .skip (.exit 0))
def c69_10 : ACode :=
  (.seq (.seq (.region false [⟨some 34, none, .mv (.s 10)⟩,
    ⟨some 35, none, .mv (.s 3)⟩,
    ⟨some 36, none, .bin .lss (.s 34) (.s 35)⟩] [] [0, 1, 2, 3, 9, 10, 36]) c69_9) c69_8)
def c69_11 : ACode :=
  (.loop c69_10)
def c69_12 : ACode :=
  (.seq (.block 0 c69_11) c69_1)
def c69_13 : ACode :=
  (.seq (.region false [⟨some 10, none, .cst (.t (.int .i64 0))⟩] [] [0, 1, 2, 3, 9, 10]) c69_12)
def c69_14 : ACode :=
  (.seq (.region false [⟨some 32, none, .mv (.s 3)⟩,
    ⟨some 33, none, .bin .sub (.s 32) (.c (.t (.int .i64 1)))⟩,
    ⟨some 3, none, .mv (.s 33)⟩] [] [0, 1, 2, 3, 9]) c69_13)
def c69_15 : ACode :=
  (.seq (.region false [⟨some 30, none, .mv (.s 3)⟩,
    ⟨some 31, none, .mksl 1 16 [.t (.str [])] (.s 30)⟩,
    ⟨some 9, none, .mv (.s 31)⟩] [] [0, 1, 2, 3, 9]) c69_14)
def c69_16 : ACode :=
  (.seq (.region false [⟨some 25, none, .mv (.s 3)⟩,
    ⟨some 26, none, .mv (.s 0)⟩,
    ⟨some 27, none, .lens (.s 26)⟩,
    ⟨some 28, none, .bin .add (.s 27) (.c (.t (.int .i64 1)))⟩,
    ⟨some 29, none, .mini (.s 25) (.s 28)⟩,
    ⟨some 3, none, .mv (.s 29)⟩] [] [0, 1, 2, 3]) c69_15)
def c69_17 : ACode :=
  (.region false [⟨some 21, none, .mv (.s 0)⟩,
    ⟨some 22, none, .mv (.s 1)⟩,
    ⟨some 23, none, .call 89 [(.s 21), (.s 22)]⟩,
    ⟨some 24, none, .bin .add (.s 23) (.c (.t (.int .i64 1)))⟩,
    ⟨some 3, none, .mv (.s 24)⟩] [] [0, 1, 2, 3])
def c69_18 : ACode :=
  (.cond (.s 20) c69_17 .skip)
def c69_19 : ACode :=
  (.seq (.seq (.region false [⟨some 19, none, .mv (.s 3)⟩,
    ⟨some 20, none, .bin .lss (.s 19) (.c (.t (.int .i64 0)))⟩] [] [0, 1, 2, 3, 20]) c69_18) c69_16)
def c69_20 : ACode :=
  (.seq (.region false [⟨some 16, none, .mv (.s 0)⟩,
    ⟨some 17, none, .mv (.s 3)⟩,
    ⟨some 18, none, .call 88 [(.s 16), (.s 17)]⟩,
    ⟨some 8, none, .mv (.s 18)⟩] [] [8]) .ret)
def c69_21 : ACode :=
  (.cond (.s 15) c69_20 .skip)
def c69_22 : ACode :=
  (.seq (.seq (.region false [⟨some 14, none, .mv (.s 1)⟩,
    ⟨some 15, none, .bin .eql (.s 14) (.c (.t (.str [])))⟩] [] [0, 1, 2, 3, 15]) c69_21) c69_19)
def c69_23 : ACode :=
  (.seq (.region false [⟨some 8, none, .cst (.nils)⟩] [] [8]) .ret)
def c69_24 : ACode :=
  (.cond (.s 13) c69_23 .skip)
def c69_25 : ACode :=
  (.seq (.seq (.region false [⟨some 12, none, .mv (.s 3)⟩,
    ⟨some 13, none, .bin .eql (.s 12) (.c (.t (.int .i64 0)))⟩] [] [0, 1, 2, 3, 13]) c69_24) c69_22)
def c69 : ACode :=
  (.seq (.region false [⟨some 8, none, .cst (.nils)⟩] [] [0, 1, 2, 3]) c69_25)
def r69 : List ARes := [.tmp 8]
def n69 : Nat := 66
/- 70 strings.HasPrefix -/
def c70_0 : ACode :=
  (.seq (.region false [⟨some 5, none, .mv (.s 0)⟩,
    ⟨some 6, none, .mv (.s 1)⟩,
    ⟨some 7, none, .call 91 [(.s 5), (.s 6)]⟩,
    ⟨some 4, none, .mv (.s 7)⟩] [] [4]) .ret)
def c70 : ACode :=
  (.seq (.region false [⟨some 4, none, .cst (.t (.bool false))⟩] [] [0, 1]) c70_0)
def r70 : List ARes := [.tmp 4]
def n70 : Nat := 8
/- 71 supergraph supergraphref01.letter -/
/- 72 supergraph supergraphref01.digit -/
/- 73 supergraph directives.judge -/
def c73_0 : ACode :=
  (.seq (.region false [⟨some 6, none, .cst (.t (.int .i64 0))⟩] [] [6]) .ret)
def c73_1 : ACode :=
  (.region false [⟨some 128, none, .bin .add (.s 111) (.c (.t (.int .i64 1)))⟩,
    ⟨some 111, none, .mv (.s 128)⟩] [] [8, 109, 110, 111])
def c73_2 : ACode :=
  (.seq (.region false [⟨some 6, none, .cst (.t (.int .i64 23))⟩] [] [6]) .ret)
def c73_3 : ACode :=
  (.cond (.s 127) c73_2 .skip)
def c73_4 : ACode :=
  (.seq (.region false [⟨some 122, none, .fa 2 (.s 22)⟩,
    ⟨some 123, none, .ld false 1 (.s 122)⟩,
    ⟨some 124, none, .fa 1 (.s 21)⟩,
    ⟨some 125, none, .ld true 5 (.s 124)⟩,
    ⟨some 126, none, .callv (.s 123) [(.s 125)]⟩,
    ⟨some 127, none, .un .not (.s 126)⟩] [] [8, 109, 110, 111, 127]) c73_3)
def c73_5 : ACode :=
  (.seq (.region false [⟨some 116, none, .ld true 3 (.s 8)⟩,
    ⟨some 117, none, .fa 0 (.s 21)⟩,
    ⟨some 118, none, .ld false 1 (.s 117)⟩,
    ⟨some 119, none, .call 93 [(.s 116), (.s 118)]⟩,
    ⟨some 115, none, .mv (.s 119)⟩,
    ⟨some 120, none, .ext (.s 115) 0⟩,
    ⟨some 121, none, .ext (.s 115) 1⟩,
    ⟨some 22, none, .alloc [.t (.str []), .t (.bool false), .t (.nilf)]⟩,
    ⟨none, none, .st 3 (.s 22) (.s 120)⟩,
    ⟨some 23, none, .mv (.s 121)⟩] [] [8, 21, 22, 109, 110, 111]) c73_4)
def c73_6 : ACode :=
  (.seq (.region false [⟨some 113, none, .ia 6 (.s 109) (.s 111)⟩,
    ⟨some 114, none, .ld true 6 (.s 113)⟩,
    ⟨some 21, none, .alloc [.t (.str []), .t (.int .i64 0), .t (.int .i64 0), .t (.str []), .nils, .nils]⟩,
    ⟨none, none, .st 6 (.s 21) (.s 114)⟩] [] [8, 21, 109, 110, 111]) c73_5)
def c73_7 : ACode :=
  (.seq (.block 6 c73_6) c73_1)
def c73_8 : ACode :=
  (.seq (.cond (.s 112) .skip (.exit 5)) c73_7)
def c73_9 : ACode :=
  (.seq (.region false [⟨some 112, none, .bin .lss (.s 111) (.s 110)⟩] [] [8, 109, 110, 111, 112]) c73_8)
def c73_10 : ACode :=
  (.loop c73_9)
def c73_11 : ACode :=
  (.block 5 c73_10)
def c73_12 : ACode :=
  (.seq (.seq (.region false [⟨some 108, none, .fa 1 (.s 7)⟩,
    ⟨some 109, none, .ld false 1 (.s 108)⟩,
    ⟨some 110, none, .len (.s 109)⟩,
    ⟨some 111, none, .cst (.t (.int .i64 0))⟩] [] [8, 109, 110, 111]) c73_11) c73_0)
def c73_13 : ACode :=
  (.region false [⟨some 107, none, .bin .add (.s 89) (.c (.t (.int .i64 1)))⟩,
    ⟨some 89, none, .mv (.s 107)⟩] [] [7, 8, 87, 88, 89])
def c73_14 : ACode :=
  (.seq (.region false [⟨some 6, none, .cst (.t (.int .i64 22))⟩] [] [6]) .ret)
def c73_15 : ACode :=
  (.cond (.s 106) c73_14 .skip)
def c73_16 : ACode :=
  (.seq (.region false [⟨some 100, none, .mv (.s 19)⟩,
    ⟨some 101, none, .un .not (.s 100)⟩,
    ⟨some 102, none, .mv (.s 101)⟩,
    ⟨some 103, some (102, true), .fa 1 (.s 17)⟩,
    ⟨some 104, some (102, true), .ld false 1 (.s 103)⟩,
    ⟨some 105, some (102, true), .un .not (.s 104)⟩,
    ⟨some 106, none, .pick (.s 102) (.s 105) (.c (.t (.bool false)))⟩] [] [7, 8, 87, 88, 89, 106]) c73_15)
def c73_17 : ACode :=
  (.seq (.region false [⟨some 94, none, .ld true 2 (.s 7)⟩,
    ⟨some 95, none, .fa 0 (.s 17)⟩,
    ⟨some 96, none, .ld false 1 (.s 95)⟩,
    ⟨some 97, none, .call 56 [(.s 94), (.s 96)]⟩,
    ⟨some 93, none, .mv (.s 97)⟩,
    ⟨some 98, none, .ext (.s 93) 0⟩,
    ⟨some 99, none, .ext (.s 93) 1⟩,
    ⟨some 18, none, .alloc [.t (.int .i64 0), .t (.int .i64 0), .t (.str []), .nils, .nils]⟩,
    ⟨none, none, .st 5 (.s 18) (.s 98)⟩,
    ⟨some 19, none, .mv (.s 99)⟩] [] [7, 8, 17, 19, 87, 88, 89]) c73_16)
def c73_18 : ACode :=
  (.seq (.region false [⟨some 91, none, .ia 3 (.s 87) (.s 89)⟩,
    ⟨some 92, none, .ld true 3 (.s 91)⟩,
    ⟨some 17, none, .alloc [.t (.str []), .t (.bool false), .t (.nilf)]⟩,
    ⟨none, none, .st 3 (.s 17) (.s 92)⟩] [] [7, 8, 17, 87, 88, 89]) c73_17)
def c73_19 : ACode :=
  (.seq (.block 4 c73_18) c73_13)
def c73_20 : ACode :=
  (.seq (.cond (.s 90) .skip (.exit 3)) c73_19)
def c73_21 : ACode :=
  (.seq (.region false [⟨some 90, none, .bin .lss (.s 89) (.s 88)⟩] [] [7, 8, 87, 88, 89, 90]) c73_20)
def c73_22 : ACode :=
  (.loop c73_21)
def c73_23 : ACode :=
  (.block 3 c73_22)
def c73_24 : ACode :=
  (.seq (.seq (.region false [⟨some 86, none, .fa 2 (.s 8)⟩,
    ⟨some 87, none, .ld false 1 (.s 86)⟩,
    ⟨some 88, none, .len (.s 87)⟩,
    ⟨some 89, none, .cst (.t (.int .i64 0))⟩] [] [7, 8, 87, 88, 89]) c73_23) c73_12)
def c73_25 : ACode :=
  (.region false [⟨some 85, none, .bin .add (.s 59) (.c (.t (.int .i64 1)))⟩,
    ⟨some 59, none, .mv (.s 85)⟩] [] [7, 8, 57, 58, 59])
def c73_26 : ACode :=
  (.seq (.region false [⟨some 6, none, .cst (.t (.int .i64 22))⟩] [] [6]) .ret)
def c73_27 : ACode :=
  (.cond (.s 84) c73_26 .skip)
def c73_28 : ACode :=
  (.seq (.region false [⟨some 84, none, .mv (.s 15)⟩] [] [7, 8, 57, 58, 59, 84]) c73_27)
def c73_29 : ACode :=
  (.seq (.region true [⟨some 74, none, .fa 1 (.s 7)⟩,
    ⟨some 75, none, .ld false 1 (.s 74)⟩,
    ⟨some 76, none, .mv (.s 10)⟩,
    ⟨some 77, none, .sll 6 (.s 75) none (some (.s 76))⟩,
    ⟨some 78, none, .build [.t (.str []), .nils] [(1, 1, (.s 77))]⟩,
    ⟨some 79, none, .fa 0 (.s 11)⟩,
    ⟨some 80, none, .ld false 1 (.s 79)⟩,
    ⟨some 81, none, .call 56 [(.s 78), (.s 80)]⟩,
    ⟨some 73, none, .mv (.s 81)⟩,
    ⟨some 82, none, .ext (.s 73) 0⟩,
    ⟨some 83, none, .ext (.s 73) 1⟩,
    ⟨some 14, none, .alloc [.t (.int .i64 0), .t (.int .i64 0), .t (.str []), .nils, .nils]⟩,
    ⟨none, none, .st 5 (.s 14) (.s 82)⟩,
    ⟨some 15, none, .mv (.s 83)⟩] [[], [0], [], [1, 2], [3], [], [5], [4, 6], [7], [8], [8], [], [11, 9, 7, 0, 1, 2, 3, 4, 5, 6, 7, 8, 9, 11], [10, 12, 0, 1, 2, 3, 4, 5, 6, 7, 8, 9, 10, 11, 12]] [7, 8, 15, 57, 58, 59]) c73_28)
def c73_30 : ACode :=
  (.seq (.region false [⟨some 6, none, .cst (.t (.int .i64 22))⟩] [] [6]) .ret)
def c73_31 : ACode :=
  (.cond (.s 72) c73_30 .skip)
def c73_32 : ACode :=
  (.seq (.region false [⟨some 71, none, .mv (.s 13)⟩,
    ⟨some 72, none, .un .not (.s 71)⟩] [] [7, 8, 10, 11, 57, 58, 59, 72]) c73_31)
def c73_33 : ACode :=
  (.seq (.seq (.region false [⟨some 65, none, .ld true 3 (.s 8)⟩,
    ⟨some 66, none, .fa 0 (.s 11)⟩,
    ⟨some 67, none, .ld false 1 (.s 66)⟩,
    ⟨some 68, none, .call 93 [(.s 65), (.s 67)]⟩,
    ⟨some 64, none, .mv (.s 68)⟩,
    ⟨some 69, none, .ext (.s 64) 0⟩,
    ⟨some 70, none, .ext (.s 64) 1⟩,
    ⟨some 12, none, .alloc [.t (.str []), .t (.bool false), .t (.nilf)]⟩,
    ⟨none, none, .st 3 (.s 12) (.s 69)⟩,
    ⟨some 13, none, .mv (.s 70)⟩] [] [7, 8, 10, 11, 13, 57, 58, 59]) c73_32) c73_29)
def c73_34 : ACode :=
  (.seq (.region false [⟨some 61, none, .mv (.s 59)⟩,
    ⟨some 62, none, .ia 6 (.s 57) (.s 59)⟩,
    ⟨some 63, none, .ld true 6 (.s 62)⟩,
    ⟨some 11, none, .alloc [.t (.str []), .t (.int .i64 0), .t (.int .i64 0), .t (.str []), .nils, .nils]⟩,
    ⟨some 10, none, .mv (.s 61)⟩,
    ⟨none, none, .st 6 (.s 11) (.s 63)⟩] [] [7, 8, 10, 11, 57, 58, 59]) c73_33)
def c73_35 : ACode :=
  (.seq (.block 2 c73_34) c73_25)
def c73_36 : ACode :=
  (.seq (.cond (.s 60) .skip (.exit 1)) c73_35)
def c73_37 : ACode :=
  (.seq (.region false [⟨some 60, none, .bin .lss (.s 59) (.s 58)⟩] [] [7, 8, 57, 58, 59, 60]) c73_36)
def c73_38 : ACode :=
  (.loop c73_37)
def c73_39 : ACode :=
  (.block 1 c73_38)
def c73_40 : ACode :=
  (.seq (.seq (.region false [⟨some 56, none, .fa 1 (.s 7)⟩,
    ⟨some 57, none, .ld false 1 (.s 56)⟩,
    ⟨some 58, none, .len (.s 57)⟩,
    ⟨some 59, none, .cst (.t (.int .i64 0))⟩] [] [7, 8, 57, 58, 59]) c73_39) c73_24)
def c73_41 : ACode :=
  (.seq (.region false [⟨some 6, none, .cst (.t (.int .i64 29))⟩] [] [6]) .ret)
def c73_42 : ACode :=
  (.seq (.region false [⟨some 6, none, .cst (.t (.int .i64 7))⟩] [] [6]) .ret)
def c73_43 : ACode :=
  (.cond (.s 44) c73_42 .skip)
def c73_44 : ACode :=
  (.seq (.region true [⟨some 45, none, .fa 1 (.s 8)⟩,
    ⟨some 46, none, .ld false 1 (.s 45)⟩,
    ⟨some 47, none, .un .not (.s 46)⟩,
    ⟨some 48, none, .mv (.s 47)⟩,
    ⟨some 49, some (48, true), .mv (.s 0)⟩,
    ⟨some 50, some (48, true), .mv (.s 1)⟩,
    ⟨some 51, some (48, true), .sll 2 (.s 49) none (some (.s 50))⟩,
    ⟨some 52, some (48, true), .fa 0 (.s 7)⟩,
    ⟨some 53, some (48, true), .ld false 1 (.s 52)⟩,
    ⟨some 54, some (48, true), .call 25 [(.s 51), (.s 53)]⟩,
    ⟨some 55, none, .pick (.s 48) (.s 54) (.c (.t (.bool false)))⟩,
    ⟨some 44, none, .mv (.s 55)⟩] [[], [0], [1], [2], [3], [3], [4, 5, 3], [3], [7, 3], [6, 8, 3, 3], [3, 9], [10, 9]] [7, 8, 44]) c73_43)
def c73_45 : ACode :=
  (.cond (.s 34) c73_41 c73_44)
def c73_46 : ACode :=
  (.seq (.region false [⟨some 35, none, .mv (.s 9)⟩,
    ⟨some 36, none, .un .not (.s 35)⟩,
    ⟨some 37, none, .mv (.s 36)⟩,
    ⟨some 38, some (37, false), .fa 0 (.s 8)⟩,
    ⟨some 39, some (37, false), .ld false 1 (.s 38)⟩,
    ⟨some 40, some (37, false), .mv (.s 2)⟩,
    ⟨some 41, some (37, false), .bin .and (.s 39) (.s 40)⟩,
    ⟨some 42, some (37, false), .bin .eql (.s 41) (.c (.t (.int .i64 0)))⟩,
    ⟨some 43, none, .pick (.s 37) (.c (.t (.bool true))) (.s 42)⟩,
    ⟨some 34, none, .mv (.s 43)⟩] [] [0, 1, 7, 8, 34]) c73_45)
def c73_47 : ACode :=
  (.seq (.block 0 c73_46) c73_40)
def c73_48 : ACode :=
  (.seq (.region false [⟨some 29, none, .fa 0 (.s 7)⟩,
    ⟨some 30, none, .ld false 1 (.s 29)⟩,
    ⟨some 31, none, .call 92 [(.s 30)]⟩,
    ⟨some 28, none, .mv (.s 31)⟩,
    ⟨some 32, none, .ext (.s 28) 0⟩,
    ⟨some 33, none, .ext (.s 28) 1⟩,
    ⟨some 8, none, .alloc [.t (.int .i64 0), .t (.bool false), .nils]⟩,
    ⟨none, none, .st 3 (.s 8) (.s 32)⟩,
    ⟨some 9, none, .mv (.s 33)⟩] [] [0, 1, 2, 7, 8, 9]) c73_47)
def c73_49 : ACode :=
  (.seq (.region false [⟨some 24, none, .mv (.s 0)⟩,
    ⟨some 25, none, .mv (.s 1)⟩,
    ⟨some 26, none, .ia 2 (.s 24) (.s 25)⟩,
    ⟨some 27, none, .ld true 2 (.s 26)⟩,
    ⟨some 7, none, .alloc [.t (.str []), .nils]⟩,
    ⟨none, none, .st 2 (.s 7) (.s 27)⟩] [] [0, 1, 2, 7]) c73_48)
def c73 : ACode :=
  (.seq (.region false [⟨some 6, none, .cst (.t (.int .i64 0))⟩] [] [0, 1, 2]) c73_49)
def r73 : List ARes := [.tmp 6]
def n73 : Nat := 129
/- 74 supergraph supergraphref23.arguments -/
/- 75 supergraph supergraphref23.may -/
/- 76 supergraph supergraphref10.whole -/
/- 77 supergraph supergraphref10.fields -/
/- 78 supergraph supergraphref10.members -/
/- 79 supergraph supergraphref10.inputs -/
/- 80 supergraph supergraphref10.Find -/
/- 81 supergraph schema.Leaf -/
/- 82 (*supergraph moves.judge).add -/
/- 83 supergraph moves.mentioned -/
/- 84 (*supergraph moves.judge).others -/
/- 85 (*supergraph moves.judge).leant -/
/- 86 supergraph moves.outside -/
/- 87 supergraph moves.isKey -/
/- 88 strings.explode -/
/- 89 strings.Count -/
def c89_0 : ACode :=
  (.region false [⟨some 28, none, .mv (.s 0)⟩,
    ⟨some 29, none, .mv (.s 6)⟩,
    ⟨some 30, none, .mv (.s 1)⟩,
    ⟨some 31, none, .lens (.s 30)⟩,
    ⟨some 32, none, .bin .add (.s 29) (.s 31)⟩,
    ⟨some 33, none, .sls (.s 28) (some (.s 32)) none⟩,
    ⟨some 0, none, .mv (.s 33)⟩] [] [0, 1, 5])
def c89_1 : ACode :=
  (.seq (.region false [⟨some 26, none, .mv (.s 5)⟩,
    ⟨some 27, none, .bin .add (.s 26) (.c (.t (.int .i64 1)))⟩,
    ⟨some 5, none, .mv (.s 27)⟩] [] [0, 1, 5, 6]) c89_0)
def c89_2 : ACode :=
  (.seq (.region false [⟨some 25, none, .mv (.s 5)⟩,
    ⟨some 4, none, .mv (.s 25)⟩] [] [4]) .ret)
def c89_3 : ACode :=
  (.cond (.s 24) c89_2 .skip)
def c89_4 : ACode :=
  (.seq (.seq (.region false [⟨some 23, none, .mv (.s 6)⟩,
    ⟨some 24, none, .bin .eql (.s 23) (.c (.t (.int .i64 (-1))))⟩] [] [0, 1, 5, 6, 24]) c89_3) c89_1)
def c89_5 : ACode :=
  (.seq (.region false [⟨some 20, none, .mv (.s 0)⟩,
    ⟨some 21, none, .mv (.s 1)⟩,
    ⟨some 22, none, .call 90 [(.s 20), (.s 21)]⟩,
    ⟨some 6, none, .mv (.s 22)⟩] [] [0, 1, 5, 6]) c89_4)
def c89_6 : ACode :=
  (.block 1 c89_5)
def c89_7 : ACode :=
  (.loop c89_6)
def c89_8 : ACode :=
  (.block 0 c89_7)
def c89_9 : ACode :=
  (.seq (.region false [⟨some 5, none, .cst (.t (.int .i64 0))⟩] [] [0, 1, 5]) c89_8)
def c89_10 : ACode :=
  (.seq (.region false [⟨some 16, none, .mv (.s 0)⟩,
    ⟨some 17, none, .mv (.s 1)⟩,
    ⟨some 18, none, .ixs (.s 17) (.c (.t (.int .i64 0)))⟩,
    ⟨some 19, none, .nw (.xtr true (.s 16) (.s 18))⟩,
    ⟨some 4, none, .mv (.s 19)⟩] [] [4]) .ret)
def c89_11 : ACode :=
  (.cond (.s 15) c89_10 .skip)
def c89_12 : ACode :=
  (.seq (.seq (.region false [⟨some 13, none, .mv (.s 1)⟩,
    ⟨some 14, none, .lens (.s 13)⟩,
    ⟨some 15, none, .bin .eql (.s 14) (.c (.t (.int .i64 1)))⟩] [] [0, 1, 15]) c89_11) c89_9)
def c89_13 : ACode :=
  (.seq (.region false [⟨some 10, none, .mv (.s 0)⟩,
    ⟨some 11, none, .call 113 [(.s 10)]⟩,
    ⟨some 12, none, .bin .add (.s 11) (.c (.t (.int .i64 1)))⟩,
    ⟨some 4, none, .mv (.s 12)⟩] [] [4]) .ret)
def c89_14 : ACode :=
  (.cond (.s 9) c89_13 .skip)
def c89_15 : ACode :=
  (.seq (.seq (.region false [⟨some 7, none, .mv (.s 1)⟩,
    ⟨some 8, none, .lens (.s 7)⟩,
    ⟨some 9, none, .bin .eql (.s 8) (.c (.t (.int .i64 0)))⟩] [] [0, 1, 9]) c89_14) c89_12)
def c89 : ACode :=
  (.seq (.region false [⟨some 4, none, .cst (.t (.int .i64 0))⟩] [] [0, 1]) c89_15)
def r89 : List ARes := [.tmp 4]
def n89 : Nat := 34
/- 90 strings.Index -/
def c90_0 : ACode :=
  (.seq (.region false [⟨some 5, none, .mv (.s 0)⟩,
    ⟨some 6, none, .mv (.s 1)⟩,
    ⟨some 7, none, .call 116 [(.s 5), (.s 6)]⟩,
    ⟨some 4, none, .mv (.s 7)⟩] [] [4]) .ret)
def c90 : ACode :=
  (.seq (.region false [⟨some 4, none, .cst (.t (.int .i64 0))⟩] [] [0, 1]) c90_0)
def r90 : List ARes := [.tmp 4]
def n90 : Nat := 8
/- 91 internal stringslite.HasPrefix -/
def c91_0 : ACode :=
  (.seq (.region false [⟨some 5, none, .mv (.s 0)⟩,
    ⟨some 6, none, .lens (.s 5)⟩,
    ⟨some 7, none, .mv (.s 1)⟩,
    ⟨some 8, none, .lens (.s 7)⟩,
    ⟨some 9, none, .bin .geq (.s 6) (.s 8)⟩,
    ⟨some 10, none, .mv (.s 9)⟩,
    ⟨some 11, some (10, true), .mv (.s 0)⟩,
    ⟨some 12, some (10, true), .mv (.s 1)⟩,
    ⟨some 13, some (10, true), .lens (.s 12)⟩,
    ⟨some 14, some (10, true), .sls (.s 11) none (some (.s 13))⟩,
    ⟨some 15, some (10, true), .mv (.s 1)⟩,
    ⟨some 16, some (10, true), .bin .eql (.s 14) (.s 15)⟩,
    ⟨some 17, none, .pick (.s 10) (.s 16) (.c (.t (.bool false)))⟩,
    ⟨some 4, none, .mv (.s 17)⟩] [] [4]) .ret)
def c91 : ACode :=
  (.seq (.region false [⟨some 4, none, .cst (.t (.bool false))⟩] [] [0, 1]) c91_0)
def r91 : List ARes := [.tmp 4]
def n91 : Nat := 18
/- 92 supergraph directives.ruleOf -/
def c92_0 : ACode :=
  (.seq (.region false [⟨some 63, none, .build [.t (.int .i64 0), .t (.bool false), .nils] []⟩,
    ⟨none, none, .st 3 (.s 2) (.s 63)⟩,
    ⟨some 3, none, .cst (.t (.bool false))⟩] [] [2, 3]) .ret)
def c92_1 : ACode :=
  (.seq (.region false [⟨some 7, none, .build [.t (.str []), .t (.bool false), .t (.nilf)] [(0, 1, (.c (.t (.str [102, 105, 101, 108, 100, 115])))), (1, 1, (.c (.t (.bool false)))), (2, 1, (.c (.t (.fn 117))))]⟩,
    ⟨some 8, none, .bsl true 3 [[.str [], .bool false, .nilf]] [(0, (.s 7))]⟩,
    ⟨some 9, none, .build [.t (.int .i64 0), .t (.bool false), .nils] [(0, 1, (.c (.t (.int .i64 1)))), (1, 1, (.c (.t (.bool true)))), (2, 1, (.s 8))]⟩,
    ⟨none, none, .st 3 (.s 2) (.s 9)⟩,
    ⟨some 3, none, .cst (.t (.bool true))⟩] [] [2, 3]) .ret)
def c92_2 : ACode :=
  (.seq (.region false [⟨some 12, none, .build [.t (.int .i64 0), .t (.bool false), .nils] [(0, 1, (.c (.t (.int .i64 4)))), (1, 1, (.c (.t (.bool false)))), (2, 1, (.c (.nils)))]⟩,
    ⟨none, none, .st 3 (.s 2) (.s 12)⟩,
    ⟨some 3, none, .cst (.t (.bool true))⟩] [] [2, 3]) .ret)
def c92_3 : ACode :=
  (.seq (.region false [⟨some 15, none, .build [.t (.int .i64 0), .t (.bool false), .nils] [(0, 1, (.c (.t (.int .i64 4)))), (1, 1, (.c (.t (.bool false)))), (2, 1, (.c (.nils)))]⟩,
    ⟨none, none, .st 3 (.s 2) (.s 15)⟩,
    ⟨some 3, none, .cst (.t (.bool true))⟩] [] [2, 3]) .ret)
def c92_4 : ACode :=
  (.seq (.region false [⟨some 18, none, .build [.t (.int .i64 0), .t (.bool false), .nils] [(0, 1, (.c (.t (.int .i64 4)))), (1, 1, (.c (.t (.bool false)))), (2, 1, (.c (.nils)))]⟩,
    ⟨none, none, .st 3 (.s 2) (.s 18)⟩,
    ⟨some 3, none, .cst (.t (.bool true))⟩] [] [2, 3]) .ret)
def c92_5 : ACode :=
  (.seq (.region false [⟨some 21, none, .build [.t (.str []), .t (.bool false), .t (.nilf)] [(0, 1, (.c (.t (.str [102, 105, 101, 108, 100, 115])))), (1, 1, (.c (.t (.bool false)))), (2, 1, (.c (.t (.fn 117))))]⟩,
    ⟨some 22, none, .bsl true 3 [[.str [], .bool false, .nilf]] [(0, (.s 21))]⟩,
    ⟨some 23, none, .build [.t (.int .i64 0), .t (.bool false), .nils] [(0, 1, (.c (.t (.int .i64 4)))), (1, 1, (.c (.t (.bool false)))), (2, 1, (.s 22))]⟩,
    ⟨none, none, .st 3 (.s 2) (.s 23)⟩,
    ⟨some 3, none, .cst (.t (.bool true))⟩] [] [2, 3]) .ret)
def c92_6 : ACode :=
  (.seq (.region false [⟨some 26, none, .build [.t (.str []), .t (.bool false), .t (.nilf)] [(0, 1, (.c (.t (.str [102, 105, 101, 108, 100, 115])))), (1, 1, (.c (.t (.bool false)))), (2, 1, (.c (.t (.fn 117))))]⟩,
    ⟨some 27, none, .bsl true 3 [[.str [], .bool false, .nilf]] [(0, (.s 26))]⟩,
    ⟨some 28, none, .build [.t (.int .i64 0), .t (.bool false), .nils] [(0, 1, (.c (.t (.int .i64 4)))), (1, 1, (.c (.t (.bool false)))), (2, 1, (.s 27))]⟩,
    ⟨none, none, .st 3 (.s 2) (.s 28)⟩,
    ⟨some 3, none, .cst (.t (.bool true))⟩] [] [2, 3]) .ret)
def c92_7 : ACode :=
  (.seq (.region false [⟨some 31, none, .build [.t (.str []), .t (.bool false), .t (.nilf)] [(0, 1, (.c (.t (.str [110, 97, 109, 101])))), (1, 1, (.c (.t (.bool false)))), (2, 1, (.c (.t (.fn 118))))]⟩,
    ⟨some 32, none, .bsl true 3 [[.str [], .bool false, .nilf]] [(0, (.s 31))]⟩,
    ⟨some 33, none, .build [.t (.int .i64 0), .t (.bool false), .nils] [(0, 1, (.c (.t (.int .i64 31)))), (1, 1, (.c (.t (.bool true)))), (2, 1, (.s 32))]⟩,
    ⟨none, none, .st 3 (.s 2) (.s 33)⟩,
    ⟨some 3, none, .cst (.t (.bool true))⟩] [] [2, 3]) .ret)
def c92_8 : ACode :=
  (.seq (.region false [⟨some 36, none, .build [.t (.int .i64 0), .t (.bool false), .nils] [(0, 1, (.c (.t (.int .i64 13)))), (1, 1, (.c (.t (.bool false)))), (2, 1, (.c (.nils)))]⟩,
    ⟨none, none, .st 3 (.s 2) (.s 36)⟩,
    ⟨some 3, none, .cst (.t (.bool true))⟩] [] [2, 3]) .ret)
def c92_9 : ACode :=
  (.seq (.region false [⟨some 39, none, .build [.t (.str []), .t (.bool false), .t (.nilf)] [(0, 1, (.c (.t (.str [97, 108, 108])))), (1, 1, (.c (.t (.bool false)))), (2, 1, (.c (.t (.fn 119))))]⟩,
    ⟨some 40, none, .bsl true 3 [[.str [], .bool false, .nilf]] [(0, (.s 39))]⟩,
    ⟨some 41, none, .build [.t (.int .i64 0), .t (.bool false), .nils] [(0, 1, (.c (.t (.int .i64 13)))), (1, 1, (.c (.t (.bool false)))), (2, 1, (.s 40))]⟩,
    ⟨none, none, .st 3 (.s 2) (.s 41)⟩,
    ⟨some 3, none, .cst (.t (.bool true))⟩] [] [2, 3]) .ret)
def c92_10 : ACode :=
  (.seq (.region false [⟨some 44, none, .build [.t (.str []), .t (.bool false), .t (.nilf)] [(0, 1, (.c (.t (.str [119, 101, 105, 103, 104, 116])))), (1, 1, (.c (.t (.bool false)))), (2, 1, (.c (.t (.fn 120))))]⟩,
    ⟨some 45, none, .bsl true 3 [[.str [], .bool false, .nilf]] [(0, (.s 44))]⟩,
    ⟨some 46, none, .build [.t (.int .i64 0), .t (.bool false), .nils] [(0, 1, (.c (.t (.int .i64 12)))), (1, 1, (.c (.t (.bool false)))), (2, 1, (.s 45))]⟩,
    ⟨none, none, .st 3 (.s 2) (.s 46)⟩,
    ⟨some 3, none, .cst (.t (.bool true))⟩] [] [2, 3]) .ret)
def c92_11 : ACode :=
  (.seq (.region false [⟨some 49, none, .build [.t (.str []), .t (.bool false), .t (.nilf)] [(0, 1, (.c (.t (.str [97, 115, 115, 117, 109, 101, 100])))), (1, 1, (.c (.t (.bool false)))), (2, 1, (.c (.t (.fn 120))))]⟩,
    ⟨some 50, none, .bsl true 3 [[.str [], .bool false, .nilf]] [(0, (.s 49))]⟩,
    ⟨some 51, none, .build [.t (.int .i64 0), .t (.bool false), .nils] [(0, 1, (.c (.t (.int .i64 12)))), (1, 1, (.c (.t (.bool false)))), (2, 1, (.s 50))]⟩,
    ⟨none, none, .st 3 (.s 2) (.s 51)⟩,
    ⟨some 3, none, .cst (.t (.bool true))⟩] [] [2, 3]) .ret)
def c92_12 : ACode :=
  (.seq (.region false [⟨some 54, none, .build [.t (.str []), .t (.bool false), .t (.nilf)] [(0, 1, (.c (.t (.str [109, 97, 120, 65, 103, 101])))), (1, 1, (.c (.t (.bool false)))), (2, 1, (.c (.t (.fn 120))))]⟩,
    ⟨some 55, none, .build [.t (.str []), .t (.bool false), .t (.nilf)] [(0, 1, (.c (.t (.str [112, 114, 105, 118, 97, 116, 101])))), (1, 1, (.c (.t (.bool true)))), (2, 1, (.c (.t (.fn 121))))]⟩,
    ⟨some 56, none, .bsl true 3 [[.str [], .bool false, .nilf], [.str [], .bool false, .nilf]] [(0, (.s 54)), (1, (.s 55))]⟩,
    ⟨some 57, none, .build [.t (.int .i64 0), .t (.bool false), .nils] [(0, 1, (.c (.t (.int .i64 13)))), (1, 1, (.c (.t (.bool false)))), (2, 1, (.s 56))]⟩,
    ⟨none, none, .st 3 (.s 2) (.s 57)⟩,
    ⟨some 3, none, .cst (.t (.bool true))⟩] [] [2, 3]) .ret)
def c92_13 : ACode :=
  (.seq (.region false [⟨some 60, none, .build [.t (.str []), .t (.bool false), .t (.nilf)] [(0, 1, (.c (.t (.str [114, 101, 97, 115, 111, 110])))), (1, 1, (.c (.t (.bool true)))), (2, 1, (.c (.t (.fn 118))))]⟩,
    ⟨some 61, none, .bsl true 3 [[.str [], .bool false, .nilf]] [(0, (.s 60))]⟩,
    ⟨some 62, none, .build [.t (.int .i64 0), .t (.bool false), .nils] [(0, 1, (.c (.t (.int .i64 28)))), (1, 1, (.c (.t (.bool false)))), (2, 1, (.s 61))]⟩,
    ⟨none, none, .st 3 (.s 2) (.s 62)⟩,
    ⟨some 3, none, .cst (.t (.bool true))⟩] [] [2, 3]) .ret)
def c92_14 : ACode :=
  (.cond (.s 58) c92_13 .skip)
def c92_15 : ACode :=
  (.seq (.region false [⟨some 59, none, .bin .eql (.s 4) (.c (.t (.str [100, 101, 112, 114, 101, 99, 97, 116, 101, 100])))⟩,
    ⟨some 58, none, .mv (.s 59)⟩] [] [2, 58]) c92_14)
def c92_16 : ACode :=
  (.cond (.s 52) c92_12 c92_15)
def c92_17 : ACode :=
  (.seq (.region false [⟨some 53, none, .bin .eql (.s 4) (.c (.t (.str [99, 97, 99, 104, 101, 67, 111, 110, 116, 114, 111, 108])))⟩,
    ⟨some 52, none, .mv (.s 53)⟩] [] [2, 4, 52]) c92_16)
def c92_18 : ACode :=
  (.cond (.s 47) c92_11 c92_17)
def c92_19 : ACode :=
  (.seq (.region false [⟨some 48, none, .bin .eql (.s 4) (.c (.t (.str [108, 105, 115, 116, 83, 105, 122, 101])))⟩,
    ⟨some 47, none, .mv (.s 48)⟩] [] [2, 4, 47]) c92_18)
def c92_20 : ACode :=
  (.cond (.s 42) c92_10 c92_19)
def c92_21 : ACode :=
  (.seq (.region false [⟨some 43, none, .bin .eql (.s 4) (.c (.t (.str [99, 111, 115, 116])))⟩,
    ⟨some 42, none, .mv (.s 43)⟩] [] [2, 4, 42]) c92_20)
def c92_22 : ACode :=
  (.cond (.s 37) c92_9 c92_21)
def c92_23 : ACode :=
  (.seq (.region false [⟨some 38, none, .bin .eql (.s 4) (.c (.t (.str [115, 99, 111, 112, 101, 115])))⟩,
    ⟨some 37, none, .mv (.s 38)⟩] [] [2, 4, 37]) c92_22)
def c92_24 : ACode :=
  (.cond (.s 34) c92_8 c92_23)
def c92_25 : ACode :=
  (.seq (.region false [⟨some 35, none, .bin .eql (.s 4) (.c (.t (.str [97, 117, 116, 104, 101, 110, 116, 105, 99, 97, 116, 101, 100])))⟩,
    ⟨some 34, none, .mv (.s 35)⟩] [] [2, 4, 34]) c92_24)
def c92_26 : ACode :=
  (.cond (.s 29) c92_7 c92_25)
def c92_27 : ACode :=
  (.seq (.region false [⟨some 30, none, .bin .eql (.s 4) (.c (.t (.str [116, 97, 103])))⟩,
    ⟨some 29, none, .mv (.s 30)⟩] [] [2, 4, 29]) c92_26)
def c92_28 : ACode :=
  (.cond (.s 24) c92_6 c92_27)
def c92_29 : ACode :=
  (.seq (.region false [⟨some 25, none, .bin .eql (.s 4) (.c (.t (.str [112, 114, 111, 118, 105, 100, 101, 115])))⟩,
    ⟨some 24, none, .mv (.s 25)⟩] [] [2, 4, 24]) c92_28)
def c92_30 : ACode :=
  (.cond (.s 19) c92_5 c92_29)
def c92_31 : ACode :=
  (.seq (.region false [⟨some 20, none, .bin .eql (.s 4) (.c (.t (.str [114, 101, 113, 117, 105, 114, 101, 115])))⟩,
    ⟨some 19, none, .mv (.s 20)⟩] [] [2, 4, 19]) c92_30)
def c92_32 : ACode :=
  (.cond (.s 16) c92_4 c92_31)
def c92_33 : ACode :=
  (.seq (.region false [⟨some 17, none, .bin .eql (.s 4) (.c (.t (.str [105, 110, 97, 99, 99, 101, 115, 115, 105, 98, 108, 101])))⟩,
    ⟨some 16, none, .mv (.s 17)⟩] [] [2, 4, 16]) c92_32)
def c92_34 : ACode :=
  (.cond (.s 13) c92_3 c92_33)
def c92_35 : ACode :=
  (.seq (.region false [⟨some 14, none, .bin .eql (.s 4) (.c (.t (.str [115, 104, 97, 114, 101, 97, 98, 108, 101])))⟩,
    ⟨some 13, none, .mv (.s 14)⟩] [] [2, 4, 13]) c92_34)
def c92_36 : ACode :=
  (.cond (.s 10) c92_2 c92_35)
def c92_37 : ACode :=
  (.seq (.region false [⟨some 11, none, .bin .eql (.s 4) (.c (.t (.str [101, 120, 116, 101, 114, 110, 97, 108])))⟩,
    ⟨some 10, none, .mv (.s 11)⟩] [] [2, 4, 10]) c92_36)
def c92_38 : ACode :=
  (.cond (.s 5) c92_1 c92_37)
def c92_39 : ACode :=
  (.seq (.region false [⟨some 6, none, .bin .eql (.s 4) (.c (.t (.str [107, 101, 121])))⟩,
    ⟨some 5, none, .mv (.s 6)⟩] [] [2, 4, 5]) c92_38)
def c92_40 : ACode :=
  (.block 0 c92_39)
def c92_41 : ACode :=
  (.seq (.seq (.region false [⟨some 4, none, .mv (.s 0)⟩] [] [2, 4]) c92_40) c92_0)
def c92 : ACode :=
  (.seq (.region false [⟨some 2, none, .alloc [.t (.int .i64 0), .t (.bool false), .nils]⟩,
    ⟨some 3, none, .cst (.t (.bool false))⟩] [] [0, 2]) c92_41)
def r92 : List ARes := [.cell 2 true 3, .tmp 3]
def n92 : Nat := 64
/- 93 (supergraph directives.rule).param -/
def c93_0 : ACode :=
  (.seq (.region false [⟨some 21, none, .build [.t (.str []), .t (.bool false), .t (.nilf)] []⟩,
    ⟨none, none, .st 3 (.s 4) (.s 21)⟩,
    ⟨some 5, none, .cst (.t (.bool false))⟩] [] [4, 5]) .ret)
def c93_1 : ACode :=
  (.region false [⟨some 20, none, .bin .add (.s 11) (.c (.t (.int .i64 1)))⟩,
    ⟨some 11, none, .mv (.s 20)⟩] [] [1, 4, 9, 10, 11])
def c93_2 : ACode :=
  (.seq (.region false [⟨some 19, none, .ld true 3 (.s 7)⟩,
    ⟨none, none, .st 3 (.s 4) (.s 19)⟩,
    ⟨some 5, none, .cst (.t (.bool true))⟩] [] [4, 5]) .ret)
def c93_3 : ACode :=
  (.cond (.s 18) c93_2 .skip)
def c93_4 : ACode :=
  (.seq (.region false [⟨some 15, none, .fa 0 (.s 7)⟩,
    ⟨some 16, none, .ld false 1 (.s 15)⟩,
    ⟨some 17, none, .mv (.s 1)⟩,
    ⟨some 18, none, .bin .eql (.s 16) (.s 17)⟩] [] [1, 4, 7, 9, 10, 11, 18]) c93_3)
def c93_5 : ACode :=
  (.seq (.region false [⟨some 13, none, .ia 3 (.s 9) (.s 11)⟩,
    ⟨some 14, none, .ld true 3 (.s 13)⟩,
    ⟨some 7, none, .alloc [.t (.str []), .t (.bool false), .t (.nilf)]⟩,
    ⟨none, none, .st 3 (.s 7) (.s 14)⟩] [] [1, 4, 7, 9, 10, 11]) c93_4)
def c93_6 : ACode :=
  (.seq (.block 1 c93_5) c93_1)
def c93_7 : ACode :=
  (.seq (.cond (.s 12) .skip (.exit 0)) c93_6)
def c93_8 : ACode :=
  (.seq (.region false [⟨some 12, none, .bin .lss (.s 11) (.s 10)⟩] [] [1, 4, 9, 10, 11, 12]) c93_7)
def c93_9 : ACode :=
  (.loop c93_8)
def c93_10 : ACode :=
  (.block 0 c93_9)
def c93_11 : ACode :=
  (.seq (.seq (.region false [⟨some 8, none, .fa 2 (.s 2)⟩,
    ⟨some 9, none, .ld false 1 (.s 8)⟩,
    ⟨some 10, none, .len (.s 9)⟩,
    ⟨some 11, none, .cst (.t (.int .i64 0))⟩] [] [1, 4, 9, 10, 11]) c93_10) c93_0)
def c93 : ACode :=
  (.seq (.region false [⟨some 2, none, .box 3 (.s 0)⟩,
    ⟨some 4, none, .alloc [.t (.str []), .t (.bool false), .t (.nilf)]⟩,
    ⟨some 5, none, .cst (.t (.bool false))⟩] [] [1, 2, 4]) c93_11)
def r93 : List ARes := [.cell 4 true 3, .tmp 5]
def n93 : Nat := 22
/- 94 supergraph supergraphref23.kind -/
/- 95 supergraph supergraphref23.needed -/
/- 96 supergraph supergraphref23.fits -/
/- 97 supergraph supergraphref10.Scalar -/
/- 98 supergraph supergraphref10.names -/
/- 99 supergraph supergraphref10.empty -/
/- 100 supergraph supergraphref10.circular -/
/- 101 supergraph supergraphref10.FieldOf -/
/- 102 supergraph supergraphref10.known -/
/- 103 supergraph supergraphref10.InputOf -/
/- 104 supergraph supergraphref10.IsInput -/
/- 105 supergraph schema.Scalar -/
/- 106 supergraph schema.kind -/
/- 107 slices.Contains[[]string,string] -/
/- 108 supergraph moves.resolves -/
/- 109 slices.ContainsFunc[[]supergraph api.Field,supergraph api.Field] -/
/- 110 (*supergraph moves.judge).leant 1 -/
/- 111 slices.ContainsFunc[[][]string,[]string] -/
/- 112 supergraph moves.isKey 1 -/
/- 113 unicode utf8.RuneCountInString -/
/- 114 unicode utf8.DecodeRuneInString -/
/- 116 internal stringslite.Index -/
def c116_0 : ACode :=
  (.seq (.region false [⟨some 4, none, .cst (.t (.int .i64 (-1)))⟩] [] [4]) .ret)
def c116_1 : ACode :=
  (.seq (.region false [⟨some 4, none, .cst (.t (.int .i64 (-1)))⟩] [] [4]) .ret)
def c116_2 : ACode :=
  (.seq (.region false [⟨some 115, none, .mv (.s 12)⟩,
    ⟨some 116, none, .mv (.s 8)⟩,
    ⟨some 117, none, .bin .add (.s 115) (.s 116)⟩,
    ⟨some 4, none, .mv (.s 117)⟩] [] [4]) .ret)
def c116_3 : ACode :=
  (.cond (.s 114) c116_2 .skip)
def c116_4 : ACode :=
  (.seq (.seq (.region false [⟨some 113, none, .mv (.s 12)⟩,
    ⟨some 114, none, .bin .geq (.s 113) (.c (.t (.int .i64 0)))⟩] [] [8, 12, 114]) c116_3) c116_1)
def c116_5 : ACode :=
  (.seq (.region false [⟨some 108, none, .mv (.s 0)⟩,
    ⟨some 109, none, .mv (.s 8)⟩,
    ⟨some 110, none, .sls (.s 108) (some (.s 109)) none⟩,
    ⟨some 111, none, .mv (.s 1)⟩,
    ⟨some 112, none, .call 131 [(.s 110), (.s 111)]⟩,
    ⟨some 12, none, .mv (.s 112)⟩] [] [8, 12]) c116_4)
def c116_6 : ACode :=
  (.seq (.region false [⟨some 140, none, .mv (.s 8)⟩,
    ⟨some 141, none, .mv (.s 13)⟩,
    ⟨some 142, none, .bin .add (.s 140) (.s 141)⟩,
    ⟨some 4, none, .mv (.s 142)⟩] [] [4]) .ret)
def c116_7 : ACode :=
  (.seq (.region false [⟨some 4, none, .cst (.t (.int .i64 (-1)))⟩] [] [4]) .ret)
def c116_8 : ACode :=
  (.cond (.s 139) c116_7 .skip)
def c116_9 : ACode :=
  (.seq (.seq (.region false [⟨some 138, none, .mv (.s 13)⟩,
    ⟨some 139, none, .bin .lss (.s 138) (.c (.t (.int .i64 0)))⟩] [] [8, 13, 139]) c116_8) c116_6)
def c116_10 : ACode :=
  (.seq (.region false [⟨some 133, none, .mv (.s 0)⟩,
    ⟨some 134, none, .mv (.s 8)⟩,
    ⟨some 135, none, .sls (.s 133) (some (.s 134)) none⟩,
    ⟨some 136, none, .mv (.s 1)⟩,
    ⟨some 137, none, .call 133 [(.s 135), (.s 136)]⟩,
    ⟨some 13, none, .mv (.s 137)⟩] [] [8, 13]) c116_9)
def c116_11 : ACode :=
  (.cond (.s 132) c116_10 .skip)
def c116_12 : ACode :=
  (.seq (.region false [⟨some 118, none, .mv (.s 5)⟩,
    ⟨some 119, none, .nw (.bad)⟩,
    ⟨some 120, none, .bin .gtr (.s 118) (.s 119)⟩,
    ⟨some 121, none, .mv (.s 120)⟩,
    ⟨some 122, some (121, true), .mv (.s 10)⟩,
    ⟨some 123, some (121, true), .mv (.s 8)⟩,
    ⟨some 124, some (121, true), .bin .shr (.s 123) (.c (.t (.int .u64 4)))⟩,
    ⟨some 125, some (121, true), .bin .add (.c (.t (.int .i64 4))) (.s 124)⟩,
    ⟨some 126, some (121, true), .bin .geq (.s 122) (.s 125)⟩,
    ⟨some 127, none, .pick (.s 121) (.s 126) (.c (.t (.bool false)))⟩,
    ⟨some 128, none, .mv (.s 127)⟩,
    ⟨some 129, some (128, true), .mv (.s 8)⟩,
    ⟨some 130, some (128, true), .mv (.s 9)⟩,
    ⟨some 131, some (128, true), .bin .lss (.s 129) (.s 130)⟩,
    ⟨some 132, none, .pick (.s 128) (.s 131) (.c (.t (.bool false)))⟩] [] [0, 1, 5, 6, 7, 8, 9, 10, 132]) c116_11)
def c116_13 : ACode :=
  (.cond (.s 107) c116_5 c116_12)
def c116_14 : ACode :=
  (.seq (.region false [⟨some 99, none, .mv (.s 5)⟩,
    ⟨some 100, none, .nw (.bad)⟩,
    ⟨some 101, none, .bin .leq (.s 99) (.s 100)⟩,
    ⟨some 102, none, .mv (.s 101)⟩,
    ⟨some 103, some (102, true), .mv (.s 10)⟩,
    ⟨some 104, some (102, true), .mv (.s 8)⟩,
    ⟨some 105, some (102, true), .call 132 [(.s 104)]⟩,
    ⟨some 106, some (102, true), .bin .gtr (.s 103) (.s 105)⟩,
    ⟨some 107, none, .pick (.s 102) (.s 106) (.c (.t (.bool false)))⟩] [] [0, 1, 5, 6, 7, 8, 9, 10, 107]) c116_13)
def c116_15 : ACode :=
  (.seq (.region false [⟨some 97, none, .mv (.s 10)⟩,
    ⟨some 98, none, .bin .add (.s 97) (.c (.t (.int .i64 1)))⟩,
    ⟨some 10, none, .mv (.s 98)⟩] [] [0, 1, 5, 6, 7, 8, 9, 10]) c116_14)
def c116_16 : ACode :=
  (.seq (.region false [⟨some 95, none, .mv (.s 8)⟩,
    ⟨some 96, none, .bin .add (.s 95) (.c (.t (.int .i64 1)))⟩,
    ⟨some 8, none, .mv (.s 96)⟩] [] [0, 1, 5, 6, 7, 8, 9, 10]) c116_15)
def c116_17 : ACode :=
  (.seq (.region false [⟨some 94, none, .mv (.s 8)⟩,
    ⟨some 4, none, .mv (.s 94)⟩] [] [4]) .ret)
def c116_18 : ACode :=
  (.cond (.s 93) c116_17 .skip)
def c116_19 : ACode :=
  (.seq (.seq (.region false [⟨some 78, none, .mv (.s 0)⟩,
    ⟨some 79, none, .mv (.s 8)⟩,
    ⟨some 80, none, .bin .add (.s 79) (.c (.t (.int .i64 1)))⟩,
    ⟨some 81, none, .ixs (.s 78) (.s 80)⟩,
    ⟨some 82, none, .mv (.s 7)⟩,
    ⟨some 83, none, .bin .eql (.s 81) (.s 82)⟩,
    ⟨some 84, none, .mv (.s 83)⟩,
    ⟨some 85, some (84, true), .mv (.s 0)⟩,
    ⟨some 86, some (84, true), .mv (.s 8)⟩,
    ⟨some 87, some (84, true), .mv (.s 8)⟩,
    ⟨some 88, some (84, true), .mv (.s 5)⟩,
    ⟨some 89, some (84, true), .bin .add (.s 87) (.s 88)⟩,
    ⟨some 90, some (84, true), .sls (.s 85) (some (.s 86)) (some (.s 89))⟩,
    ⟨some 91, some (84, true), .mv (.s 1)⟩,
    ⟨some 92, some (84, true), .bin .eql (.s 90) (.s 91)⟩,
    ⟨some 93, none, .pick (.s 84) (.s 92) (.c (.t (.bool false)))⟩] [] [0, 1, 5, 6, 7, 8, 9, 10, 93]) c116_18) c116_16)
def c116_20 : ACode :=
  (.region false [⟨some 74, none, .mv (.s 8)⟩,
    ⟨some 75, none, .mv (.s 11)⟩,
    ⟨some 76, none, .bin .add (.s 75) (.c (.t (.int .i64 1)))⟩,
    ⟨some 77, none, .bin .add (.s 74) (.s 76)⟩,
    ⟨some 8, none, .mv (.s 77)⟩] [] [0, 1, 5, 6, 7, 8, 9, 10])
def c116_21 : ACode :=
  (.seq (.region false [⟨some 4, none, .cst (.t (.int .i64 (-1)))⟩] [] [4]) .ret)
def c116_22 : ACode :=
  (.cond (.s 73) c116_21 .skip)
def c116_23 : ACode :=
  (.seq (.seq (.region false [⟨some 72, none, .mv (.s 11)⟩,
    ⟨some 73, none, .bin .lss (.s 72) (.c (.t (.int .i64 0)))⟩] [] [0, 1, 5, 6, 7, 8, 9, 10, 11, 73]) c116_22) c116_20)
def c116_24 : ACode :=
  (.seq (.region false [⟨some 65, none, .mv (.s 0)⟩,
    ⟨some 66, none, .mv (.s 8)⟩,
    ⟨some 67, none, .bin .add (.s 66) (.c (.t (.int .i64 1)))⟩,
    ⟨some 68, none, .mv (.s 9)⟩,
    ⟨some 69, none, .sls (.s 65) (some (.s 67)) (some (.s 68))⟩,
    ⟨some 70, none, .mv (.s 6)⟩,
    ⟨some 71, none, .call 130 [(.s 69), (.s 70)]⟩,
    ⟨some 11, none, .mv (.s 71)⟩] [] [0, 1, 5, 6, 7, 8, 9, 10, 11]) c116_23)
def c116_25 : ACode :=
  (.cond (.s 64) c116_24 .skip)
def c116_26 : ACode :=
  (.seq (.seq (.region false [⟨some 60, none, .mv (.s 0)⟩,
    ⟨some 61, none, .mv (.s 8)⟩,
    ⟨some 62, none, .ixs (.s 60) (.s 61)⟩,
    ⟨some 63, none, .mv (.s 6)⟩,
    ⟨some 64, none, .bin .neq (.s 62) (.s 63)⟩] [] [0, 1, 5, 6, 7, 8, 9, 10, 64]) c116_25) c116_19)
def c116_27 : ACode :=
  (.block 2 c116_26)
def c116_28 : ACode :=
  (.cond (.s 59) .skip (.exit 1))
def c116_29 : ACode :=
  (.seq (.seq (.region false [⟨some 57, none, .mv (.s 8)⟩,
    ⟨some 58, none, .mv (.s 9)⟩,
    ⟨some 59, none, .bin .lss (.s 57) (.s 58)⟩] [] [0, 1, 5, 6, 7, 8, 9, 10, 59]) c116_28) c116_27)
def c116_30 : ACode :=
  (.loop c116_29)
def c116_31 : ACode :=
  (.seq (.block 1 c116_30) c116_0)
def c116_32 : ACode :=
  (.seq (.region false [⟨some 10, none, .cst (.t (.int .i64 0))⟩] [] [0, 1, 5, 6, 7, 8, 9, 10]) c116_31)
def c116_33 : ACode :=
  (.seq (.region false [⟨some 52, none, .mv (.s 0)⟩,
    ⟨some 53, none, .lens (.s 52)⟩,
    ⟨some 54, none, .mv (.s 5)⟩,
    ⟨some 55, none, .bin .sub (.s 53) (.s 54)⟩,
    ⟨some 56, none, .bin .add (.s 55) (.c (.t (.int .i64 1)))⟩,
    ⟨some 9, none, .mv (.s 56)⟩] [] [0, 1, 5, 6, 7, 8, 9]) c116_32)
def c116_34 : ACode :=
  (.seq (.region false [⟨some 8, none, .cst (.t (.int .i64 0))⟩] [] [0, 1, 5, 6, 7, 8]) c116_33)
def c116_35 : ACode :=
  (.seq (.region false [⟨some 50, none, .mv (.s 1)⟩,
    ⟨some 51, none, .ixs (.s 50) (.c (.t (.int .i64 1)))⟩,
    ⟨some 7, none, .mv (.s 51)⟩] [] [0, 1, 5, 6, 7]) c116_34)
def c116_36 : ACode :=
  (.seq (.region false [⟨some 48, none, .mv (.s 1)⟩,
    ⟨some 49, none, .ixs (.s 48) (.c (.t (.int .i64 0)))⟩,
    ⟨some 6, none, .mv (.s 49)⟩] [] [0, 1, 5, 6]) c116_35)
def c116_37 : ACode :=
  (.seq (.region false [⟨some 4, none, .cst (.t (.int .i64 0))⟩] [] [4]) .ret)
def c116_38 : ACode :=
  (.seq (.region false [⟨some 27, none, .mv (.s 0)⟩,
    ⟨some 28, none, .mv (.s 1)⟩,
    ⟨some 29, none, .ixs (.s 28) (.c (.t (.int .i64 0)))⟩,
    ⟨some 30, none, .call 130 [(.s 27), (.s 29)]⟩,
    ⟨some 4, none, .mv (.s 30)⟩] [] [4]) .ret)
def c116_39 : ACode :=
  (.seq (.region false [⟨some 4, none, .cst (.t (.int .i64 (-1)))⟩] [] [4]) .ret)
def c116_40 : ACode :=
  (.seq (.region false [⟨some 45, none, .mv (.s 0)⟩,
    ⟨some 46, none, .mv (.s 1)⟩,
    ⟨some 47, none, .call 131 [(.s 45), (.s 46)]⟩,
    ⟨some 4, none, .mv (.s 47)⟩] [] [4]) .ret)
def c116_41 : ACode :=
  (.cond (.s 36) c116_40 .skip)
def c116_42 : ACode :=
  (.seq (.region false [⟨some 37, none, .mv (.s 5)⟩,
    ⟨some 38, none, .nw (.bad)⟩,
    ⟨some 39, none, .bin .leq (.s 37) (.s 38)⟩,
    ⟨some 40, none, .mv (.s 39)⟩,
    ⟨some 41, some (40, true), .mv (.s 0)⟩,
    ⟨some 42, some (40, true), .lens (.s 41)⟩,
    ⟨some 43, some (40, true), .bin .leq (.s 42) (.c (.t (.int .i64 64)))⟩,
    ⟨some 44, none, .pick (.s 40) (.s 43) (.c (.t (.bool false)))⟩,
    ⟨some 36, none, .mv (.s 44)⟩] [] [0, 1, 5, 36]) c116_41)
def c116_43 : ACode :=
  (.cond (.s 31) c116_39 c116_42)
def c116_44 : ACode :=
  (.seq (.region false [⟨some 32, none, .mv (.s 5)⟩,
    ⟨some 33, none, .mv (.s 0)⟩,
    ⟨some 34, none, .lens (.s 33)⟩,
    ⟨some 35, none, .bin .geq (.s 32) (.s 34)⟩,
    ⟨some 31, none, .mv (.s 35)⟩] [] [0, 1, 5, 31]) c116_43)
def c116_45 : ACode :=
  (.cond (.s 24) c116_38 c116_44)
def c116_46 : ACode :=
  (.seq (.region false [⟨some 25, none, .mv (.s 5)⟩,
    ⟨some 26, none, .bin .eql (.s 25) (.c (.t (.int .i64 1)))⟩,
    ⟨some 24, none, .mv (.s 26)⟩] [] [0, 1, 5, 24]) c116_45)
def c116_47 : ACode :=
  (.cond (.s 16) c116_37 c116_46)
def c116_48 : ACode :=
  (.seq (.region false [⟨some 17, none, .mv (.s 5)⟩,
    ⟨some 18, none, .bin .eql (.s 17) (.c (.t (.int .i64 0)))⟩,
    ⟨some 19, none, .mv (.s 18)⟩,
    ⟨some 20, some (19, false), .mv (.s 1)⟩,
    ⟨some 21, some (19, false), .mv (.s 0)⟩,
    ⟨some 22, some (19, false), .bin .eql (.s 20) (.s 21)⟩,
    ⟨some 23, none, .pick (.s 19) (.c (.t (.bool true))) (.s 22)⟩,
    ⟨some 16, none, .mv (.s 23)⟩] [] [0, 1, 5, 16]) c116_47)
def c116_49 : ACode :=
  (.seq (.block 0 c116_48) c116_36)
def c116_50 : ACode :=
  (.seq (.region false [⟨some 14, none, .mv (.s 1)⟩,
    ⟨some 15, none, .lens (.s 14)⟩,
    ⟨some 5, none, .mv (.s 15)⟩] [] [0, 1, 5]) c116_49)
def c116 : ACode :=
  (.seq (.region false [⟨some 4, none, .cst (.t (.int .i64 0))⟩] [] [0, 1]) c116_50)
def r116 : List ARes := [.tmp 4]
def n116 : Nat := 143
/- 117 supergraph directives.isSet -/
def c117_0 : ACode :=
  (.seq (.region false [⟨some 11, none, .fa 0 (.s 1)⟩,
    ⟨some 12, none, .ld false 1 (.s 11)⟩,
    ⟨some 13, none, .bin .eql (.s 12) (.c (.t (.int .i64 3)))⟩,
    ⟨some 14, none, .mv (.s 13)⟩,
    ⟨some 15, some (14, true), .mv (.s 4)⟩,
    ⟨some 16, some (14, true), .bin .eql (.s 15) (.c (.t (.int .i64 0)))⟩,
    ⟨some 17, none, .pick (.s 14) (.s 16) (.c (.t (.bool false)))⟩,
    ⟨some 2, none, .mv (.s 17)⟩] [] [2]) .ret)
def c117_1 : ACode :=
  (.seq (.region false [⟨some 6, none, .fa 2 (.s 1)⟩,
    ⟨some 7, none, .ld false 1 (.s 6)⟩,
    ⟨some 8, none, .call 13 [(.s 7)]⟩,
    ⟨some 5, none, .mv (.s 8)⟩,
    ⟨some 9, none, .ext (.s 5) 0⟩,
    ⟨some 10, none, .ext (.s 5) 1⟩,
    ⟨some 3, none, .mv (.s 9)⟩,
    ⟨some 4, none, .mv (.s 10)⟩] [] [1, 4]) c117_0)
def c117 : ACode :=
  (.seq (.region false [⟨some 1, none, .box 5 (.s 0)⟩,
    ⟨some 2, none, .cst (.t (.bool false))⟩] [] [1]) c117_1)
def r117 : List ARes := [.tmp 2]
def n117 : Nat := 18
/- 118 supergraph directives.isText -/
def c118_0 : ACode :=
  (.seq (.region false [⟨some 3, none, .fa 0 (.s 1)⟩,
    ⟨some 4, none, .ld false 1 (.s 3)⟩,
    ⟨some 5, none, .bin .eql (.s 4) (.c (.t (.int .i64 3)))⟩,
    ⟨some 2, none, .mv (.s 5)⟩] [] [2]) .ret)
def c118 : ACode :=
  (.seq (.region false [⟨some 1, none, .box 5 (.s 0)⟩,
    ⟨some 2, none, .cst (.t (.bool false))⟩] [] [1]) c118_0)
def r118 : List ARes := [.tmp 2]
def n118 : Nat := 6
/- 119 supergraph directives.isTexts -/
def c119_0 : ACode :=
  (.seq (.region false [⟨some 2, none, .cst (.t (.bool true))⟩] [] [2]) .ret)
def c119_1 : ACode :=
  (.region false [⟨some 18, none, .bin .add (.s 11) (.c (.t (.int .i64 1)))⟩,
    ⟨some 11, none, .mv (.s 18)⟩] [] [9, 10, 11])
def c119_2 : ACode :=
  (.seq (.region false [⟨some 2, none, .cst (.t (.bool false))⟩] [] [2]) .ret)
def c119_3 : ACode :=
  (.cond (.s 17) c119_2 .skip)
def c119_4 : ACode :=
  (.seq (.region false [⟨some 15, none, .fa 0 (.s 4)⟩,
    ⟨some 16, none, .ld false 1 (.s 15)⟩,
    ⟨some 17, none, .bin .neq (.s 16) (.c (.t (.int .i64 3)))⟩] [] [9, 10, 11, 17]) c119_3)
def c119_5 : ACode :=
  (.seq (.region false [⟨some 13, none, .ia 5 (.s 9) (.s 11)⟩,
    ⟨some 14, none, .ld true 5 (.s 13)⟩,
    ⟨some 4, none, .alloc [.t (.int .i64 0), .t (.int .i64 0), .t (.str []), .nils, .nils]⟩,
    ⟨none, none, .st 5 (.s 4) (.s 14)⟩] [] [4, 9, 10, 11]) c119_4)
def c119_6 : ACode :=
  (.seq (.block 1 c119_5) c119_1)
def c119_7 : ACode :=
  (.seq (.cond (.s 12) .skip (.exit 0)) c119_6)
def c119_8 : ACode :=
  (.seq (.region false [⟨some 12, none, .bin .lss (.s 11) (.s 10)⟩] [] [9, 10, 11, 12]) c119_7)
def c119_9 : ACode :=
  (.loop c119_8)
def c119_10 : ACode :=
  (.block 0 c119_9)
def c119_11 : ACode :=
  (.seq (.seq (.region false [⟨some 8, none, .fa 3 (.s 1)⟩,
    ⟨some 9, none, .ld false 1 (.s 8)⟩,
    ⟨some 10, none, .len (.s 9)⟩,
    ⟨some 11, none, .cst (.t (.int .i64 0))⟩] [] [9, 10, 11]) c119_10) c119_0)
def c119_12 : ACode :=
  (.seq (.region false [⟨some 2, none, .cst (.t (.bool false))⟩] [] [2]) .ret)
def c119_13 : ACode :=
  (.cond (.s 7) c119_12 .skip)
def c119_14 : ACode :=
  (.seq (.seq (.region false [⟨some 5, none, .fa 0 (.s 1)⟩,
    ⟨some 6, none, .ld false 1 (.s 5)⟩,
    ⟨some 7, none, .bin .neq (.s 6) (.c (.t (.int .i64 5)))⟩] [] [1, 7]) c119_13) c119_11)
def c119 : ACode :=
  (.seq (.region false [⟨some 1, none, .box 5 (.s 0)⟩,
    ⟨some 2, none, .cst (.t (.bool false))⟩] [] [1]) c119_14)
def r119 : List ARes := [.tmp 2]
def n119 : Nat := 19
/- 120 supergraph directives.isNumber -/
def c120_0 : ACode :=
  (.seq (.region false [⟨some 3, none, .fa 0 (.s 1)⟩,
    ⟨some 4, none, .ld false 1 (.s 3)⟩,
    ⟨some 5, none, .bin .eql (.s 4) (.c (.t (.int .i64 2)))⟩,
    ⟨some 6, none, .mv (.s 5)⟩,
    ⟨some 7, some (6, true), .fa 1 (.s 1)⟩,
    ⟨some 8, some (6, true), .ld false 1 (.s 7)⟩,
    ⟨some 9, some (6, true), .bin .geq (.s 8) (.c (.t (.int .i64 0)))⟩,
    ⟨some 10, none, .pick (.s 6) (.s 9) (.c (.t (.bool false)))⟩,
    ⟨some 11, none, .mv (.s 10)⟩,
    ⟨some 12, some (11, true), .fa 1 (.s 1)⟩,
    ⟨some 13, some (11, true), .ld false 1 (.s 12)⟩,
    ⟨some 14, some (11, true), .bin .lss (.s 13) (.c (.t (.int .i64 2147483648)))⟩,
    ⟨some 15, none, .pick (.s 11) (.s 14) (.c (.t (.bool false)))⟩,
    ⟨some 2, none, .mv (.s 15)⟩] [] [2]) .ret)
def c120 : ACode :=
  (.seq (.region false [⟨some 1, none, .box 5 (.s 0)⟩,
    ⟨some 2, none, .cst (.t (.bool false))⟩] [] [1]) c120_0)
def r120 : List ARes := [.tmp 2]
def n120 : Nat := 16
/- 121 supergraph directives.isTruth -/
def c121_0 : ACode :=
  (.seq (.region false [⟨some 3, none, .fa 0 (.s 1)⟩,
    ⟨some 4, none, .ld false 1 (.s 3)⟩,
    ⟨some 5, none, .bin .eql (.s 4) (.c (.t (.int .i64 1)))⟩,
    ⟨some 2, none, .mv (.s 5)⟩] [] [2]) .ret)
def c121 : ACode :=
  (.seq (.region false [⟨some 1, none, .box 5 (.s 0)⟩,
    ⟨some 2, none, .cst (.t (.bool false))⟩] [] [1]) c121_0)
def r121 : List ARes := [.tmp 2]
def n121 : Nat := 6
/- 122 supergraph supergraphref10.allowed -/
/- 123 supergraph supergraphref10.next -/
/- 124 supergraph supergraphref10.has -/
/- 125 supergraph supergraphref10.Leaf -/
/- 126 slices.Index[[]string,string] -/
def c126_0 : ACode :=
  (.seq (.region false [⟨some 4, none, .cst (.t (.int .i64 (-1)))⟩] [] [4]) .ret)
def c126_1 : ACode :=
  (.region false [⟨some 18, none, .bin .add (.s 8) (.c (.t (.int .i64 1)))⟩,
    ⟨some 8, none, .mv (.s 18)⟩] [] [0, 1, 7, 8])
def c126_2 : ACode :=
  (.seq (.region false [⟨some 17, none, .mv (.s 5)⟩,
    ⟨some 4, none, .mv (.s 17)⟩] [] [4]) .ret)
def c126_3 : ACode :=
  (.cond (.s 16) c126_2 .skip)
def c126_4 : ACode :=
  (.seq (.region false [⟨some 11, none, .mv (.s 1)⟩,
    ⟨some 12, none, .mv (.s 0)⟩,
    ⟨some 13, none, .mv (.s 5)⟩,
    ⟨some 14, none, .ia 1 (.s 12) (.s 13)⟩,
    ⟨some 15, none, .ld false 1 (.s 14)⟩,
    ⟨some 16, none, .bin .eql (.s 11) (.s 15)⟩] [] [0, 1, 5, 7, 8, 16]) c126_3)
def c126_5 : ACode :=
  (.seq (.region false [⟨some 10, none, .mv (.s 8)⟩,
    ⟨some 5, none, .mv (.s 10)⟩] [] [0, 1, 5, 7, 8]) c126_4)
def c126_6 : ACode :=
  (.seq (.block 1 c126_5) c126_1)
def c126_7 : ACode :=
  (.seq (.cond (.s 9) .skip (.exit 0)) c126_6)
def c126_8 : ACode :=
  (.seq (.region false [⟨some 9, none, .bin .lss (.s 8) (.s 7)⟩] [] [0, 1, 7, 8, 9]) c126_7)
def c126_9 : ACode :=
  (.loop c126_8)
def c126_10 : ACode :=
  (.block 0 c126_9)
def c126_11 : ACode :=
  (.seq (.seq (.region false [⟨some 6, none, .mv (.s 0)⟩,
    ⟨some 7, none, .len (.s 6)⟩,
    ⟨some 8, none, .cst (.t (.int .i64 0))⟩] [] [0, 1, 7, 8]) c126_10) c126_0)
def c126 : ACode :=
  (.seq (.region false [⟨some 4, none, .cst (.t (.int .i64 0))⟩] [] [0, 1]) c126_11)
def r126 : List ARes := [.tmp 4]
def n126 : Nat := 19
/- 127 slices.IndexFunc[[]supergraph api.Field,supergraph api.Field] -/
/- 128 slices.IndexFunc[[][]string,[]string] -/
/- 129 unicode utf8.decodeRuneInStringSlow -/
/- 130 internal stringslite.IndexByte -/
def c130_0 : ACode :=
  (.seq (.region false [⟨some 5, none, .mv (.s 0)⟩,
    ⟨some 6, none, .mv (.s 1)⟩,
    ⟨some 7, none, .nw (.xtr false (.s 5) (.s 6))⟩,
    ⟨some 4, none, .mv (.s 7)⟩] [] [4]) .ret)
def c130 : ACode :=
  (.seq (.region false [⟨some 4, none, .cst (.t (.int .i64 0))⟩] [] [0, 1]) c130_0)
def r130 : List ARes := [.tmp 4]
def n130 : Nat := 8
/- 132 internal bytealg.Cutover -/
/- 133 internal bytealg.IndexRabinKarp[string] -/
/- 134 supergraph supergraphref10.direct -/
/- 136 internal bytealg.hashStr[string] -/
end Go.GB.C11


/-
  GbY: calls of functions that are handed objects: the whole store goes along.
-/
namespace Go.GB
section
variable {P : Program}

/-- the labels behind a call that was handed the names below m -/
def L.backFrom (Λ : L) (m m' : Nat) (Λ' : L) : L where
  lab := fun b => if Λ.high m b then Λ.lab b else Λ'.lab b
  fro := fun k => if k < m' then Λ'.fro k else Λ.fro k
  nxt := Λ.nxt
  w := Λ'.w
  frf := fun k i => if k < m' then Λ'.frf k i else Λ.frf k i

theorem FnOk.same {f : FuncId} {vs : List V} {m : Nat} {sto : List (Nat × AObj)} {out : Out} (h : FnOk P f vs ⟨sto, m⟩ out) (hrd : out.rd = true) (hb : V.bds m vs = true) (hs : stoBd m sto = true) (hob : ∀ k o, (k, o) ∈ out.ob → aget sto k ≠ none ∨ (m ≤ k ∧ k < m + out.n)) : FnAt P f vs m sto out := by
  refine ⟨h.1, hob, fun Λ args hr hle hfree hsz hargs => ?_⟩
  refine (h.2 (Λ.hideFrom m) args (hr.hf hs) rfl hsz fun j v y h1 h2 => (hargs j v y h1 h2).hf (V.bds_at hb j y h2)).mono fun e w' he => ?_
  obtain ⟨v, Λ', rfl, rfl, k1, k2, k3, k4⟩ := he
  simp only at k2 k3
  have hlt : ∀ {b : Nat}, Λ.high m b = true → b < Λ.w.heap.size := by
    intro b hh
    rcases Nat.lt_or_ge b Λ.w.heap.size with h | h
    · exact h
    · unfold L.high at hh; rw [hr.new b h] at hh; simp at hh
  have hH : ∀ {b : Nat}, Λ.high m b = true → (Λ.backFrom m (m + out.n) Λ').lab b = Λ.lab b := fun h => by simp [L.backFrom, h]
  have hL : ∀ {b : Nat}, Λ.high m b = false → (Λ.backFrom m (m + out.n) Λ').lab b = Λ'.lab b := fun h => by simp [L.backFrom, h]
  have hheap : ∀ {b : Nat}, Λ.high m b = true → ∃ fr, Λ'.lab b = .fix (some fr) ∧ Λ'.w.heap[b]? = Λ.w.heap[b]? ∧ ((∃ k, Λ.lab b = .obj k ∧ m ≤ k ∧ fr = 0) ∨ (∃ k, Λ.lab b = .arr k fr ∧ m ≤ k) ∨ (∃ k i, Λ.lab b = .fob k i ∧ m ≤ k ∧ fr = 0) ∨ ∃ k i, Λ.lab b = .far k i fr ∧ m ≤ k) := by
    intro b hh
    obtain ⟨fr, e1, e2⟩ := hf_high hh
    obtain ⟨g1, g2⟩ := k1.fr.fix b (hlt hh) _ e1
    exact ⟨fr, g1, g2, e2⟩
  have hlow : ∀ {b k : Nat}, k < m → (Λ.lab b = .obj k ∨ ∃ n, Λ.lab b = .arr k n) → Λ.high m b = false := by
    intro b k hk hb
    unfold L.high
    rcases hb with hb | ⟨n, hb⟩ <;> rw [hb] <;> simp <;> omega
  have hkp : Kp Λ (Λ.backFrom m (m + out.n) Λ') := by
    refine ⟨⟨k1.fr.os, k1.fr.tape, k1.fr.output, k1.fr.size, fun b hb fr hl => ?_, fun b hb k fr hl o ho => ?_, fun b hb k i fr hl o ho => ?_⟩, Nat.le_refl _, fun b k _ hl => ?_, fun b k n _ hb hl hf => ?_, fun k hk => ?_, fun b k i _ hl => ?_, fun b k i n _ hb hl hf => ?_, fun k i hk => ?_, fun b k i hk hp hf hl => ?_⟩
    · have hh : Λ.high m b = false := by unfold L.high; rw [hl]
      obtain ⟨g1, g2⟩ := k1.fr.fix b hb fr (by rw [hf_low hh]; exact hl)
      exact ⟨by rw [hL hh]; exact g1, g2⟩
    · cases hh : Λ.high m b with
      | true =>
        obtain ⟨fr', g1, g2, g3⟩ := hheap hh
        exact ⟨by unfold Rd; rw [hH hh, hl]; exact ho, cell?_heap g2⟩
      | false =>
        obtain ⟨g1, g2⟩ := k1.fr.arr b hb k fr (by rw [hf_low hh]; exact hl) o ho
        exact ⟨by unfold Rd; rw [hL hh]; exact g1, g2⟩
    · cases hh : Λ.high m b with
      | true =>
        obtain ⟨fr', g1, g2, g3⟩ := hheap hh
        exact ⟨by unfold Rd; rw [hH hh, hl]; exact ho, cell?_heap g2⟩
      | false =>
        obtain ⟨g1, g2⟩ := k1.fr.far b hb k i fr (by rw [hf_low hh]; exact hl) o ho
        exact ⟨by unfold Rd; rw [hL hh]; exact g1, g2⟩
    · cases hh : Λ.high m b with
      | true => rw [hH hh]; exact hl
      | false =>
        have hk : k < m := by unfold L.high at hh; rw [hl] at hh; simpa using hh
        rw [hL hh]; exact k1.obj b k hk (hf_obj hl hk)
    · cases hh : Λ.high m b with
      | true =>
        obtain ⟨fr', g1, g2, g3⟩ := hheap hh
        exact ⟨by rw [hH hh]; exact hl, g2⟩
      | false =>
        have hk : k < m := by unfold L.high at hh; rw [hl] at hh; simpa using hh
        have e1 : (Λ.hideFrom m).fro k = Λ.fro k := by simp [L.hideFrom, hk]
        have e2 : (Λ.backFrom m (m + out.n) Λ').fro k = Λ'.fro k := by simp [L.backFrom]; omega
        obtain ⟨g1, g2⟩ := k1.own b k n hk hb (hf_arr hl hk) (by rw [← e2, hf, e1])
        exact ⟨by rw [hL hh]; exact g1, g2⟩
    · simp only [L.backFrom]
      by_cases h1 : k < m
      · have := k1.fro k h1
        have e1 : (Λ.hideFrom m).fro k = Λ.fro k := by simp [L.hideFrom, h1]
        rw [if_pos (by omega)]; omega
      · by_cases h2 : k < m + out.n
        · rw [if_pos h2, (hfree k (by omega) h2).2.1.fro]; omega
        · rw [if_neg h2]; exact Nat.le_refl _
    · cases hh : Λ.high m b with
      | true =>
        obtain ⟨fr', g1, g2, g3⟩ := hheap hh
        exact ⟨by rw [hH hh]; exact hl, fun N hN => by unfold rowSize at hN ⊢; show (match Λ'.w.heap[b]? with | some (.cells arr _ _) => some arr.size | _ => none) = _; rw [g2]; exact hN⟩
      | false =>
        have hk : k < m := by unfold L.high at hh; rw [hl] at hh; simpa using hh
        obtain ⟨g1, g2⟩ := k1.fob b k i hk (hf_fob hl hk)
        exact ⟨by rw [hL hh]; exact g1, g2⟩
    · cases hh : Λ.high m b with
      | true =>
        obtain ⟨fr', g1, g2, g3⟩ := hheap hh
        exact ⟨by rw [hH hh]; exact hl, g2⟩
      | false =>
        have hk : k < m := by unfold L.high at hh; rw [hl] at hh; simpa using hh
        have e1 : (Λ.hideFrom m).frf k i = Λ.frf k i := by simp [L.hideFrom, hk]
        have e2 : (Λ.backFrom m (m + out.n) Λ').frf k i = Λ'.frf k i := by simp [L.backFrom]; omega
        obtain ⟨g1, g2⟩ := k1.far b k i n hk hb (hf_far hl hk) (by rw [← e2, hf, e1])
        exact ⟨by rw [hL hh]; exact g1, g2⟩
    · simp only [L.backFrom]
      by_cases h1 : k < m
      · have := k1.frf k i h1
        have e1 : (Λ.hideFrom m).frf k i = Λ.frf k i := by simp [L.hideFrom, h1]
        rw [if_pos (by omega)]; omega
      · by_cases h2 : k < m + out.n
        · rw [if_pos h2, (hfree k (by omega) h2).2.1.frf]; omega
        · rw [if_neg h2]; exact Nat.le_refl _
    · cases hh : Λ.high m b with
      | true => rw [hH hh] at hl; exact hl
      | false =>
        rw [hL hh] at hl
        have hkb := k3.bndF b k (.inl ⟨i, hl⟩)
        rcases Nat.lt_or_ge k m with hkm | hkm
        · have e1 : (Λ.hideFrom m).frf k 0 = Λ.frf k 0 := by simp [L.hideFrom, hkm]
          have e2 : (Λ.backFrom m (m + out.n) Λ').frf k 0 = Λ'.frf k 0 := by simp [L.backFrom]; omega
          exact (hf_fob_inv (k1.fobN b k i hkm (by rw [e1]; exact hp) (by rw [← e2, hf, e1]) hl)).1
        · have := (hfree k hkm (by omega)).2.1.frf 0; omega
  -- values of the callee, seen again by the caller
  have hobj : ∀ {b k : Nat}, Λ'.lab b = .obj k → (Λ.backFrom m (m + out.n) Λ').lab b = .obj k := by
    intro b k hb
    cases hh : Λ.high m b with
    | true => obtain ⟨fr, g1, _⟩ := hheap hh; rw [g1] at hb; simp at hb
    | false => rw [hL hh]; exact hb
  have harr : ∀ {b k n : Nat}, Λ'.lab b = .arr k n → (Λ.backFrom m (m + out.n) Λ').lab b = .arr k n := by
    intro b k n hb
    cases hh : Λ.high m b with
    | true => obtain ⟨fr, g1, _⟩ := hheap hh; rw [g1] at hb; simp at hb
    | false => rw [hL hh]; exact hb
  have hfob : ∀ {b k i : Nat}, Λ'.lab b = .fob k i → (Λ.backFrom m (m + out.n) Λ').lab b = .fob k i := by
    intro b k i hb
    cases hh : Λ.high m b with
    | true => obtain ⟨fr, g1, _⟩ := hheap hh; rw [g1] at hb; simp at hb
    | false => rw [hL hh]; exact hb
  have hfar : ∀ {b k i n : Nat}, Λ'.lab b = .far k i n → (Λ.backFrom m (m + out.n) Λ').lab b = .far k i n := by
    intro b k i n hb
    cases hh : Λ.high m b with
    | true => obtain ⟨fr, g1, _⟩ := hheap hh; rw [g1] at hb; simp at hb
    | false => rw [hL hh]; exact hb
  have hrep : ∀ {u : Value} {y : T}, RepT Λ'.lab Λ'.w u y → RepT (Λ.backFrom m (m + out.n) Λ').lab (Λ.backFrom m (m + out.n) Λ').w u y := by
    intro u y hy
    refine hy.keep fun b o _ _ hrd => ⟨?_, rfl⟩
    cases hh : Λ.high m b with
    | true =>
      obtain ⟨fr, g1, _, g3⟩ := hheap hh
      unfold Rd at hrd ⊢
      rw [g1] at hrd
      rw [hH hh]
      rcases g3 with ⟨k, e, _, rfl⟩ | ⟨k, e, _⟩ | ⟨k, i, e, _, rfl⟩ | ⟨k, i, e, _⟩
      · omega
      · rw [e]; exact hrd
      · omega
      · rw [e]; exact hrd
    | false => unfold Rd; rw [hL hh]; exact hrd
  have hfobI : ∀ {b k i : Nat}, k < m + out.n → (Λ.backFrom m (m + out.n) Λ').lab b = .fob k i → Λ'.lab b = .fob k i := by
    intro b k i hk hb
    cases hh : Λ.high m b with
    | true =>
      rw [hH hh] at hb
      have hge : m ≤ k := by unfold L.high at hh; rw [hb] at hh; simpa using hh
      exact absurd hb ((hfree k hge hk).2.1.fob b i)
    | false => rw [hL hh] at hb; exact hb
  have hcur : ∀ {b k : Nat}, k < m + out.n → GCur Λ'.lab k b → GCur (Λ.backFrom m (m + out.n) Λ').lab k b := by
    rintro b k hk ⟨i, e1, e2⟩
    exact ⟨i, hfob e1, fun b' i' h' => e2 b' i' (hfobI hk h')⟩
  have hfrf : ∀ {k i : Nat}, k < Λ'.nxt → (Λ.backFrom m (m + out.n) Λ').frf k i = Λ'.frf k i := by
    intro k i hk; rw [k2] at hk; simp [L.backFrom, hk]
  have hfro : ∀ {k : Nat}, k < Λ'.nxt → (Λ.backFrom m (m + out.n) Λ').fro k = Λ'.fro k := by
    intro k hk; rw [k2] at hk; simp [L.backFrom, hk]
  have hval : ∀ {u : Value} {y : V}, RelV Λ' u y → RelV (Λ.backFrom m (m + out.n) Λ') u y := by
    intro u y hy
    induction hy with
    | t h => exact .t (hrep h)
    | nils => exact .nils
    | @own v k sz xs h hsz hl hn ho =>
      refine .own (hrep h) hsz (by show k < Λ.nxt; omega) (by rw [hfro hl]; exact hn) fun he => ?_
      rcases ho (by rw [← hfro hl]; exact he) with ho | ⟨b, cap, arr, e, hv, hb', hh, hc, hn'⟩
      · exact .inl ho
      · exact .inr ⟨b, cap, arr, e, hv, harr hb', hh, hc, hn'⟩
    | slc hl hc h => exact .slc (by show _ < Λ.nxt; omega) hc (hobj h)
    | agg hs _ ih => exact .agg hs ih
    | tup hs _ ih => exact .tup hs ih
    | ptr hl h => exact .ptr (by show _ < Λ.nxt; omega) (hobj h)
    | mp hl h => exact .mp (by show _ < Λ.nxt; omega) (hobj h)
    | fn hs h => exact .fn hs fun j v c h1 h2 => let ⟨b, e1, e2, e3⟩ := h j v c h1 h2; ⟨b, e1, hobj e2, by show _ < Λ.nxt; omega⟩
    | gd _ h' ih => exact .gd ih h'
    | top => exact .top
    | ub h h' => exact .ub h h'
    | fpt hl h => exact .fpt (by show _ < Λ.nxt; omega) (hfob h)
    | gpt hv hl hn h =>
      refine .gpt hv (by show _ < Λ.nxt; omega) (by rw [hfrf hl]; exact hn) fun he => ?_
      obtain ⟨b, e1, e2⟩ := h (by rw [← hfrf hl]; exact he)
      exact ⟨b, e1, hcur (by omega) e2⟩
    | gsl hv hl hn h =>
      refine .gsl hv (by show _ < Λ.nxt; omega) (by rw [hfrf hl]; exact hn) fun he => ?_
      rcases h (by rw [← hfrf hl]; exact he) with h | ⟨b, cap, N, hv, hc, e2, hN, he'⟩
      · exact .inl h
      · exact .inr ⟨b, cap, N, hv, hc, hcur (by omega) e2, hN, he'⟩
    | fow h hsz hl hn ho =>
      refine .fow (hrep h) hsz (by show _ < Λ.nxt; omega) (by rw [hfrf hl]; exact hn) fun he => ?_
      rcases ho (by rw [← hfrf hl]; exact he) with ho | ⟨b, cap, arr, e, hv, hb', hh, hc, hn'⟩
      · exact .inl ho
      · exact .inr ⟨b, cap, arr, e, hv, hfar hb', hh, hc, hn'⟩
  have hname : ∀ {b k : Nat}, Λ.high m b = true → ((Λ.backFrom m (m + out.n) Λ').lab b = .obj k ∨ ∃ n, (Λ.backFrom m (m + out.n) Λ').lab b = .arr k n) → m + out.n ≤ k ∧ (Λ.lab b = .obj k ∨ ∃ n, Λ.lab b = .arr k n) := by
    intro b k hh hb
    rw [hH hh] at hb
    refine ⟨?_, hb⟩
    have hge : m ≤ k := by unfold L.high at hh; rcases hb with hb | ⟨n, hb⟩ <;> rw [hb] at hh <;> simpa using hh
    rcases Nat.lt_or_ge k (m + out.n) with h | h
    · have := (hfree k hge h).2.1
      rcases hb with hb | ⟨n, hb⟩
      · exact absurd hb (this.obj b)
      · exact absurd hb (this.arr b n)
    · exact h
  have hlowname : ∀ {b k : Nat}, Λ.high m b = false → ((Λ.backFrom m (m + out.n) Λ').lab b = .obj k ∨ ∃ n, (Λ.backFrom m (m + out.n) Λ').lab b = .arr k n) → k < m + out.n ∧ (Λ'.lab b = .obj k ∨ ∃ n, Λ'.lab b = .arr k n) := by
    intro b k hh hb
    rw [hL hh] at hb
    have := k3.bnd b k hb
    exact ⟨by omega, hb⟩
  refine ⟨v, Λ.backFrom m (m + out.n) Λ', rfl, rfl, hkp, rfl, ?_, hval k4, fun k hk hn hcase => ?_⟩
  · refine ⟨fun k o ho => ?_, fun b b' k h1 h2 => ?_, fun b hb => ?_, fun b k hb => ?_, fun k hk => ?_, fun b b' k i h1 h2 => ?_, fun b k hb => ?_, fun k i hk => ?_⟩
    · obtain ⟨g1, g2⟩ := k3.sto k o ho
      refine ⟨by show k < Λ.nxt; omega, ?_⟩
      cases o with
      | cells cs =>
        obtain ⟨b, arr, e, e1, e2, e3, e4⟩ := g2
        exact ⟨b, arr, e, hobj e1, e2, e3, fun j v c a1 a2 => hval (e4 j v c a1 a2)⟩
      | map kag es sx =>
        obtain ⟨b, ents, clock, e1, e2, e3⟩ := g2
        exact ⟨b, ents, clock, hobj e1, e2, e3.keep (fun _ _ h => hrep h) (fun _ _ _ _ h => hval h)⟩
      | arr n => unfold RelO at *; rw [hfro g1]; exact g2
      | iter q s seen c =>
        obtain ⟨b, bm, e1, e2, e3, e4⟩ := g2
        exact ⟨b, bm, hobj e1, e2, hobj e3, by show q < Λ.nxt; omega⟩
      | gro ver cs =>
        obtain ⟨q0, q⟩ := g2
        refine ⟨by rw [hfrf g1]; exact q0, ?_⟩
        rcases q with ⟨e1, e2⟩ | ⟨b, arr, e, e1, e2, e3, e4⟩
        · exact .inl ⟨e1, fun b i hb => e2 b i (hfobI (by omega) hb)⟩
        · exact .inr ⟨b, arr, e, hcur (by omega) e1, e2, e3, fun j v c a1 a2 => hval (e4 j v c a1 a2)⟩
      | fobs os =>
        obtain ⟨q0, q⟩ := g2
        refine ⟨fun b i hb => q0 b i (hfobI (by omega) hb), fun i cs hi => ?_⟩
        obtain ⟨b, arr, e, e1, e2, e3, e4⟩ := q i cs hi
        exact ⟨b, arr, e, hfob e1, e2, e3, fun j v c a1 a2 => hval (e4 j v c a1 a2)⟩
      | farr ns => exact fun i => (hfrf g1).trans (g2 i)
      | memo kag I =>
        obtain ⟨b, ents, clock, e1, e2, e3, e4, e5⟩ := g2
        refine ⟨b, ents, clock, hobj e1, e2, e3, e4, fun i e hi => ?_⟩
        obtain ⟨cs, v, q1, q2, q3⟩ := e5 i e hi
        exact ⟨cs, v, q1.keep fun _ _ h => hrep h, hrep q2, q3⟩
    · cases hh : Λ.high m b with
      | true =>
        obtain ⟨q1, q2⟩ := hname hh (.inl h1)
        cases hh' : Λ.high m b' with
        | true =>
          rw [hH hh] at h1; rw [hH hh'] at h2
          exact hr.inj b b' k h1 h2
        | false => have := (hlowname hh' (.inl h2)).1; omega
      | false =>
        have q := (hlowname hh (.inl h1)).1
        cases hh' : Λ.high m b' with
        | true => have := (hname hh' (.inl h2)).1; omega
        | false => rw [hL hh] at h1; rw [hL hh'] at h2; exact k3.inj b b' k h1 h2
    · have hge : Λ.w.heap.size ≤ b := Nat.le_trans k1.fr.size hb
      have hh : Λ.high m b = false := by unfold L.high; rw [hr.new b hge]
      rw [hL hh]; exact k3.new b hb
    · show k < Λ.nxt
      cases hh : Λ.high m b with
      | true => exact hr.bnd b k (hname hh hb).2
      | false => have := (hlowname hh hb).1; omega
    · have hk' : Λ.nxt ≤ k := hk
      simp only [L.backFrom]
      rw [if_neg (by omega)]; exact hr.frz k hk'
    · cases hh : Λ.high m b with
      | true =>
        cases hh' : Λ.high m b' with
        | true => rw [hH hh] at h1; rw [hH hh'] at h2; exact hr.injF b b' k i h1 h2
        | false =>
          rw [hL hh'] at h2
          have hkb := k3.bndF b' k (.inl ⟨i, h2⟩)
          have h1' := hfobI (by omega) h1
          exact k3.injF b b' k i h1' h2
      | false =>
        rw [hL hh] at h1
        have hkb := k3.bndF b k (.inl ⟨i, h1⟩)
        exact k3.injF b b' k i h1 (hfobI (by omega) h2)
    · show k < Λ.nxt
      cases hh : Λ.high m b with
      | true => rw [hH hh] at hb; exact hr.bndF b k hb
      | false => rw [hL hh] at hb; have := k3.bndF b k hb; omega
    · have hk' : Λ.nxt ≤ k := hk
      simp only [L.backFrom]
      rw [if_neg (by omega)]; exact hr.frzF k i hk'
  · rcases hcase with hge | ⟨hlt', hrd'⟩
    · refine ⟨fun b hb => ?_, fun b n hb => ?_, ?_, fun b i hb => ?_, fun b i n hb => ?_, fun i => ?_⟩
      · cases hh : Λ.high m b with
        | true => rw [hH hh] at hb; exact hk.obj b hb
        | false => have := (hlowname hh (.inl hb)).1; omega
      · cases hh : Λ.high m b with
        | true => rw [hH hh] at hb; exact hk.arr b n hb
        | false => have := (hlowname hh (.inr ⟨n, hb⟩)).1; omega
      · simp only [L.backFrom]; rw [if_neg (by omega)]; exact hk.fro
      · cases hh : Λ.high m b with
        | true => rw [hH hh] at hb; exact hk.fob b i hb
        | false => rw [hL hh] at hb; have := k3.bndF b k (.inl ⟨i, hb⟩); omega
      · cases hh : Λ.high m b with
        | true => rw [hH hh] at hb; exact hk.far b i n hb
        | false => rw [hL hh] at hb; have := k3.bndF b k (.inr ⟨i, n, hb⟩); omega
      · simp only [L.backFrom]; rw [if_neg (by omega)]; exact hk.frf i
    · rw [hrd] at hrd'; cases hrd'

end
end Go.GB


/-
  GbYe: objects that are lists, and maps of a type, without names in them.
-/
namespace Go.GB
def mE {κ ν : Type} (ek : κ → List T) (ev : ν → T) (l : List (κ × ν)) : List (List T × V) := l.map fun e => (ek e.1, .t (ev e.2))
def cE {ν : Type} (ev : ν → T) (l : List ν) : List V := l.map fun x => .t (ev x)
theorem V.bds_cE {ν : Type} (m : Nat) (ev : ν → T) : ∀ (l : List ν), V.bds m (cE ev l) = true
  | [] => rfl
  | x :: r => by have := V.bds_cE m ev r; simp only [cE] at this; simp [cE, V.bds, V.bd, this]
theorem LeXs.cE {ν : Type} {m m' : Nat} {ev : ν → T} {l l' : List ν} (h : l = l') : LeXs m m' (cE ev l) (cE ev l') := h ▸ .same (V.bds_cE m ev l)
theorem LeO.cE {ν : Type} {m m' : Nat} {ev : ν → T} {l l' : List ν} (h : l = l') : LeO m m' (.cells (cE ev l)) (.cells (cE ev l')) := .cells (.cE h)
theorem LeO.mE {κ ν : Type} {m m' : Nat} {kag : Bool} {ek : κ → List T} {ev : ν → T} {l l' : List (κ × ν)} {sx sx' : Option (Nat × List Nat)} (h : l = l') (hs : sx' = none ∨ sx' = sx) : LeO m m' (.map kag (mE ek ev l) sx) (.map kag (mE ek ev l') sx') := by
  subst h
  have := V.bds_cE m (fun e : κ × ν => ev e.2) l
  simp only [Go.GB.cE] at this
  exact .map rfl (by simp only [Go.GB.mE, List.map_map, Function.comp_def]; exact .same this) hs

/-- cells of a list whose elements have some cells each -/
def gE {α : Type} (f : α → List V) (l : List α) : List V := (l.map f).flatten
theorem gE_append {α : Type} (f : α → List V) (l k : List α) : gE f (l ++ k) = gE f l ++ gE f k := by simp [gE]
theorem gE_length {α : Type} {f : α → List V} {sz : Nat} (h : ∀ x, (f x).length = sz) : ∀ (l : List α), (gE f l).length = l.length * sz
  | [] => by simp [gE]
  | x :: r => by
    have := gE_length h r
    simp only [gE] at this
    simp only [gE, List.map_cons, List.flatten_cons, List.length_append, this, h, List.length_cons]
    rw [Nat.add_mul]; omega
theorem V.bds_app (m : Nat) : ∀ (a b : List V), V.bds m (a ++ b) = (V.bds m a && V.bds m b)
  | [], b => by simp [V.bds]
  | x :: r, b => by simp [V.bds, V.bds_app m r b, Bool.and_assoc]
theorem V.bds_gE {α : Type} {m : Nat} {f : α → List V} (h : ∀ x, V.bds m (f x) = true) : ∀ (l : List α), V.bds m (gE f l) = true
  | [] => rfl
  | x :: r => by
    have := V.bds_gE h r
    simp only [gE] at this
    simp only [gE, List.map_cons, List.flatten_cons, V.bds_app, h, this, Bool.and_self]
theorem LeXs.gE {α : Type} {m m' : Nat} {f : α → List V} {l l' : List α} (h : l = l') (hb : ∀ x, V.bds m (f x) = true) : LeXs m m' (gE f l) (gE f l') := h ▸ .same (V.bds_gE hb l)
theorem LeO.groE {m m' r r' : Nat} {cs ds : List V} (e : r = r') (h : LeXs m m' cs ds) : LeO m m' (.gro r cs) (.gro r' ds) := e ▸ .gro h
theorem LeX.gslEq {m m' k ver ver' off off' len len' sz : Nat} (e1 : ver = ver') (e2 : off = off') (e3 : len = len') (h : k < m) : LeX m m' (.gsl k ver off len sz) (.gsl k ver' off' len' sz) := by
  subst e1; subst e2; subst e3; exact .same (by simpa [V.bd] using h)
theorem LeX.fowEq {m m' k i i' sz : Nat} {xs ys : List (List T)} (e : i = i') (e2 : xs = ys) (h : k < m) : LeX m m' (.fow k i sz xs) (.fow k i' sz ys) := by
  subst e; subst e2; exact .same (by simpa [V.bd] using h)
end Go.GB


/-
  GbYr: calls in bigger stores: the callee knows some of the caller's objects, by its own names.
-/
namespace Go.GB
section
variable {P : Program}

mutual
/-- a value under other names -/
def V.ren (ρ : Nat → Nat) : V → V
  | .t x => .t x
  | .nils => .nils
  | .top => .top
  | .own k sz xs => .own (ρ k) sz xs
  | .slc k o l s => .slc (ρ k) o l s
  | .ptr k o => .ptr (ρ k) o
  | .mp k => .mp (ρ k)
  | .fn f cs => .fn f (cs.map fun c => (ρ c.1, c.2))
  | .agg cs => .agg (V.rens ρ cs)
  | .tup cs => .tup (V.rens ρ cs)
  | .gd c x => .gd c (x.ren ρ)
  | .ub c d => .ub c d
  | .fpt k i o => .fpt (ρ k) i o
  | .gpt k v o => .gpt (ρ k) v o
  | .gsl k v o l s => .gsl (ρ k) v o l s
  | .fow k i s xs => .fow (ρ k) i s xs
def V.rens (ρ : Nat → Nat) : List V → List V
  | [] => []
  | x :: r => x.ren ρ :: V.rens ρ r
end
theorem V.rens_eq (ρ : Nat → Nat) : ∀ (cs : List V), V.rens ρ cs = cs.map (V.ren ρ)
  | [] => rfl
  | x :: r => by simp [V.rens, V.rens_eq ρ r]

def AObj.ren (ρ : Nat → Nat) : AObj → AObj
  | .cells cs => .cells (V.rens ρ cs)
  | .map kag es st => .map kag (es.map fun e => (e.1, e.2.ren ρ)) st
  | .arr n => .arr n
  | .iter q s seen c => .iter (ρ q) s seen c
  | .gro v cs => .gro v (V.rens ρ cs)
  | .fobs os => .fobs (os.map (V.rens ρ))
  | .farr ns => .farr ns
  | .memo a I => .memo a I

structure Rn (ρ : Nat → Nat) (σ : Nat → Option Nat) (m1 m n : Nat) : Prop where
  inv : ∀ k j, σ k = some j → ρ j = k ∧ j < m1 + n
  at_ : ∀ j, j < m1 + n → σ (ρ j) = some j
  low : ∀ j, j < m1 → ρ j < m
  new : ∀ j, m1 ≤ j → j < m1 + n → ρ j = m + (j - m1)

/-- what the callee sees -/
def L.view (Λ : L) (ρ : Nat → Nat) (σ : Nat → Option Nat) (m1 : Nat) : L where
  lab := fun b => match Λ.lab b with
    | .obj k => match σ k with | some j => .obj j | none => .fix (some 0)
    | .arr k fr => match σ k with | some j => .arr j fr | none => .fix (some fr)
    | .fob k i => match σ k with | some j => .fob j i | none => .fix (some 0)
    | .far k i fr => match σ k with | some j => .far j i fr | none => .fix (some fr)
    | x => x
  fro := fun j => if j < m1 then Λ.fro (ρ j) else 0
  nxt := m1
  w := Λ.w
  frf := fun j i => if j < m1 then Λ.frf (ρ j) i else 0

/-- a block that the callee does not see as an object -/
def L.hid (Λ : L) (σ : Nat → Option Nat) (b : Nat) : Bool :=
  match Λ.lab b with
  | .obj k => (σ k).isNone
  | .arr k _ => (σ k).isNone
  | .fob k _ => (σ k).isNone
  | .far k _ _ => (σ k).isNone
  | _ => false

def Lab.ren (ρ : Nat → Nat) : Lab → Lab
  | .obj k => .obj (ρ k)
  | .arr k fr => .arr (ρ k) fr
  | .fob k i => .fob (ρ k) i
  | .far k i fr => .far (ρ k) i fr
  | x => x

/-- the caller's labels behind the call -/
def L.unview (Λ : L) (ρ : Nat → Nat) (σ : Nat → Option Nat) (Λ' : L) : L where
  lab := fun b => if Λ.hid σ b then Λ.lab b else (Λ'.lab b).ren ρ
  fro := fun k => match σ k with | some j => Λ'.fro j | none => Λ.fro k
  nxt := Λ.nxt
  w := Λ'.w
  frf := fun k i => match σ k with | some j => Λ'.frf j i | none => Λ.frf k i

variable {ρ : Nat → Nat} {σ : Nat → Option Nat} {m1 m n : Nat}

theorem view_hid {Λ : L} {b : Nat} (h : Λ.hid σ b = true) : ∃ fr, (Λ.view ρ σ m1).lab b = .fix (some fr) ∧ ((∃ k, Λ.lab b = .obj k ∧ σ k = none ∧ fr = 0) ∨ (∃ k, Λ.lab b = .arr k fr ∧ σ k = none) ∨ (∃ k i, Λ.lab b = .fob k i ∧ σ k = none ∧ fr = 0) ∨ ∃ k i, Λ.lab b = .far k i fr ∧ σ k = none) := by
  unfold L.hid at h
  simp only [L.view]
  cases hl : Λ.lab b with
  | fix fr => rw [hl] at h; simp at h
  | obj k => rw [hl] at h; simp at h; exact ⟨0, by simp [h], .inl ⟨k, rfl, h, rfl⟩⟩
  | arr k fr => rw [hl] at h; simp at h; exact ⟨fr, by simp [h], .inr (.inl ⟨k, rfl, h⟩)⟩
  | fob k i => rw [hl] at h; simp at h; exact ⟨0, by simp [h], .inr (.inr (.inl ⟨k, i, rfl, h, rfl⟩))⟩
  | far k i fr => rw [hl] at h; simp at h; exact ⟨fr, by simp [h], .inr (.inr (.inr ⟨k, i, rfl, h⟩))⟩
theorem view_obj {Λ : L} {b k j : Nat} (h : Λ.lab b = .obj k) (hk : σ k = some j) : (Λ.view ρ σ m1).lab b = .obj j := by simp [L.view, h, hk]
theorem view_arr {Λ : L} {b k j fr : Nat} (h : Λ.lab b = .arr k fr) (hk : σ k = some j) : (Λ.view ρ σ m1).lab b = .arr j fr := by simp [L.view, h, hk]
theorem view_fob {Λ : L} {b k j i : Nat} (h : Λ.lab b = .fob k i) (hk : σ k = some j) : (Λ.view ρ σ m1).lab b = .fob j i := by simp [L.view, h, hk]
theorem view_far {Λ : L} {b k j i fr : Nat} (h : Λ.lab b = .far k i fr) (hk : σ k = some j) : (Λ.view ρ σ m1).lab b = .far j i fr := by simp [L.view, h, hk]
theorem view_fix {Λ : L} {b : Nat} {fr : Option Nat} (h : Λ.lab b = .fix fr) : (Λ.view ρ σ m1).lab b = .fix fr := by simp [L.view, h]
theorem view_obj_inv {Λ : L} {b j : Nat} (h : (Λ.view ρ σ m1).lab b = .obj j) : ∃ k, Λ.lab b = .obj k ∧ σ k = some j := by
  simp only [L.view] at h
  cases hl : Λ.lab b with
  | fix fr => simp [hl] at h
  | obj k => simp only [hl] at h; split at h <;> simp_all
  | arr k fr => simp only [hl] at h; split at h <;> simp_all
  | fob k i => simp only [hl] at h; split at h <;> simp_all
  | far k i fr => simp only [hl] at h; split at h <;> simp_all
theorem view_arr_inv {Λ : L} {b j fr : Nat} (h : (Λ.view ρ σ m1).lab b = .arr j fr) : ∃ k, Λ.lab b = .arr k fr ∧ σ k = some j := by
  simp only [L.view] at h
  cases hl : Λ.lab b with
  | fix fr => simp [hl] at h
  | obj k => simp only [hl] at h; split at h <;> simp_all
  | arr k fr => simp only [hl] at h; split at h <;> simp_all
  | fob k i => simp only [hl] at h; split at h <;> simp_all
  | far k i fr => simp only [hl] at h; split at h <;> simp_all
theorem view_fob_inv {Λ : L} {b j i : Nat} (h : (Λ.view ρ σ m1).lab b = .fob j i) : ∃ k, Λ.lab b = .fob k i ∧ σ k = some j := by
  simp only [L.view] at h
  cases hl : Λ.lab b with
  | fix fr => simp [hl] at h
  | obj k => simp only [hl] at h; split at h <;> simp_all
  | arr k fr => simp only [hl] at h; split at h <;> simp_all
  | fob k i => simp only [hl] at h; split at h <;> simp_all
  | far k i fr => simp only [hl] at h; split at h <;> simp_all
theorem view_far_inv {Λ : L} {b j i fr : Nat} (h : (Λ.view ρ σ m1).lab b = .far j i fr) : ∃ k, Λ.lab b = .far k i fr ∧ σ k = some j := by
  simp only [L.view] at h
  cases hl : Λ.lab b with
  | fix fr => simp [hl] at h
  | obj k => simp only [hl] at h; split at h <;> simp_all
  | arr k fr => simp only [hl] at h; split at h <;> simp_all
  | fob k i => simp only [hl] at h; split at h <;> simp_all
  | far k i fr => simp only [hl] at h; split at h <;> simp_all
theorem view_rd {Λ : L} {b o : Nat} (h : Rd Λ.lab b o) : Rd (Λ.view ρ σ m1).lab b o := by
  unfold Rd at *
  cases hl : Λ.lab b with
  | fix fr => rw [view_fix hl]; rw [hl] at h; exact h
  | obj k => rw [hl] at h; exact h.elim
  | arr k fr =>
    rw [hl] at h
    cases hk : σ k with
    | some j => rw [view_arr hl hk]; exact h
    | none => simp only [L.view, hl, hk]; exact h
  | fob k i => rw [hl] at h; exact h.elim
  | far k i fr =>
    rw [hl] at h
    cases hk : σ k with
    | some j => rw [view_far hl hk]; exact h
    | none => simp only [L.view, hl, hk]; exact h
theorem RepT.view {Λ : L} {v : Value} {x : T} (h : RepT Λ.lab Λ.w v x) : RepT (Λ.view ρ σ m1).lab (Λ.view ρ σ m1).w v x := h.keep fun _ _ _ _ hr => ⟨view_rd hr, rfl⟩

theorem view_cur (hn : Rn ρ σ m1 m n) {Λ : L} {b k j : Nat} (h : GCur Λ.lab k b) (hk : σ k = some j) : GCur (Λ.view ρ σ m1).lab j b := by
  obtain ⟨i, e1, e2⟩ := h
  refine ⟨i, view_fob e1 hk, fun b' i' h' => ?_⟩
  obtain ⟨k', a1, a2⟩ := view_fob_inv h'
  have h1 := (hn.inv _ _ a2).1
  have h2 := (hn.inv _ _ hk).1
  rw [← h1, h2] at a1
  exact e2 b' i' a1

theorem RelV.view (hn : Rn ρ σ m1 m n) {Λ : L} {v : Value} {y : V} (h : RelV Λ v y) : ∀ {x : V}, x.ren ρ = y → x.bd m1 = true → RelV (Λ.view ρ σ m1) v x := by
  induction h with
  | t h => intro x hx hb; cases x <;> simp [V.ren] at hx; subst hx; exact .t h.view
  | nils => intro x hx hb; cases x <;> simp [V.ren] at hx; exact .nils
  | @own v k sz xs h hsz hl hm ho =>
    intro x hx hb; cases x <;> simp [V.ren] at hx
    rename_i j sz' xs'
    obtain ⟨e1, rfl, rfl⟩ := hx
    have hj : j < m1 := by simpa [V.bd] using hb
    have hf : (Λ.view ρ σ m1).fro j = Λ.fro k := by simp [L.view, hj, e1]
    have hs : σ k = some j := by rw [← e1]; exact hn.at_ j (by omega)
    refine .own h.view hsz hj (by rw [hf]; exact hm) fun he => ?_
    rcases ho (by rw [← hf]; exact he) with ho | ⟨b, cap, arr, e, hv, hb', hh, hc, hn'⟩
    · exact .inl ho
    · exact .inr ⟨b, cap, arr, e, hv, view_arr hb' hs, hh, hc, hn'⟩
  | @slc b k off len cap sz hl hc h =>
    intro x hx hb; cases x <;> simp [V.ren] at hx
    rename_i j _ _ _
    obtain ⟨e1, rfl, rfl, rfl⟩ := hx
    have hj : j < m1 := by simpa [V.bd] using hb
    exact .slc hj hc (view_obj h (by rw [← e1]; exact hn.at_ j (by omega)))
  | @agg vs cs hs hv ih =>
    intro x hx hb; cases x <;> simp [V.ren] at hx
    rename_i ds
    rw [V.rens_eq] at hx; subst hx
    refine .agg (by simpa using hs) fun j v c h1 h2 => ih j v (c.ren ρ) h1 (by simp [h2]) rfl (V.bds_at (by simpa [V.bd] using hb) j c h2)
  | @tup vs cs hs hv ih =>
    intro x hx hb; cases x <;> simp [V.ren] at hx
    rename_i ds
    rw [V.rens_eq] at hx; subst hx
    refine .tup (by simpa using hs) fun j v c h1 h2 => ih j v (c.ren ρ) h1 (by simp [h2]) rfl (V.bds_at (by simpa [V.bd] using hb) j c h2)
  | @ptr b k off hl h =>
    intro x hx hb; cases x <;> simp [V.ren] at hx
    rename_i j _
    obtain ⟨e1, rfl⟩ := hx
    have hj : j < m1 := by simpa [V.bd] using hb
    exact .ptr hj (view_obj h (by rw [← e1]; exact hn.at_ j (by omega)))
  | @mp b k hl h =>
    intro x hx hb; cases x <;> simp [V.ren] at hx
    rename_i j
    have hj : j < m1 := by simpa [V.bd] using hb
    exact .mp hj (view_obj h (by rw [← hx]; exact hn.at_ j (by omega)))
  | @fn f vs cs hs h =>
    intro x hx hb; cases x <;> simp [V.ren] at hx
    obtain ⟨rfl, rfl⟩ := hx
    rename_i ds
    refine .fn (by simpa using hs) fun j v c h1 h2 => ?_
    obtain ⟨b, e1, e2, e3⟩ := h j v (ρ c.1, c.2) h1 (by simp only [List.getElem?_map, h2, Option.map_some])
    have hk : c.1 < m1 := by
      simp only [V.bd, List.all_eq_true, decide_eq_true_eq] at hb
      exact hb c (List.mem_of_getElem? h2)
    exact ⟨b, e1, view_obj e2 (hn.at_ c.1 (by omega)), hk⟩
  | gd _ h' ih =>
    intro x hx hb; cases x <;> simp [V.ren] at hx
    obtain ⟨rfl, e⟩ := hx
    exact .gd (fun hc => ih hc e (by simpa [V.bd] using hb)) h'
  | top => intro x hx hb; cases x <;> simp [V.ren] at hx; exact .top
  | ub h h' => intro x hx hb; cases x <;> simp only [V.ren, V.ub.injEq, reduceCtorEq] at hx; obtain ⟨rfl, rfl⟩ := hx; exact .ub h h'
  | @fpt b k i off hl h =>
    intro x hx hb; cases x <;> simp [V.ren] at hx
    rename_i j _ _
    obtain ⟨e1, rfl, rfl⟩ := hx
    have hj : j < m1 := by simpa [V.bd] using hb
    exact .fpt hj (view_fob h (by rw [← e1]; exact hn.at_ j (by omega)))
  | @gpt v k ver off hv hl hm h =>
    intro x hx hb; cases x <;> simp [V.ren] at hx
    rename_i j _ _
    obtain ⟨e1, rfl, rfl⟩ := hx
    have hj : j < m1 := by simpa [V.bd] using hb
    have hf : (Λ.view ρ σ m1).frf j 0 = Λ.frf k 0 := by simp [L.view, hj, e1]
    have hs : σ k = some j := by rw [← e1]; exact hn.at_ j (by omega)
    refine .gpt hv hj (by rw [hf]; exact hm) fun he => ?_
    obtain ⟨b, e1, e2⟩ := h (by rw [← hf]; exact he)
    exact ⟨b, e1, view_cur hn e2 hs⟩
  | @gsl v k ver off len sz hv hl hm h =>
    intro x hx hb; cases x <;> simp [V.ren] at hx
    rename_i j _ _ _ _
    obtain ⟨e1, rfl, rfl, rfl, rfl⟩ := hx
    have hj : j < m1 := by simpa [V.bd] using hb
    have hf : (Λ.view ρ σ m1).frf j 0 = Λ.frf k 0 := by simp [L.view, hj, e1]
    have hs : σ k = some j := by rw [← e1]; exact hn.at_ j (by omega)
    refine .gsl hv hj (by rw [hf]; exact hm) fun he => ?_
    rcases h (by rw [← hf]; exact he) with h | ⟨b, cap, N, hv, hc, e2, hN, he'⟩
    · exact .inl h
    · exact .inr ⟨b, cap, N, hv, hc, view_cur hn e2 hs, hN, he'⟩
  | @fow v k i sz xs h hsz hl hm ho =>
    intro x hx hb; cases x <;> simp [V.ren] at hx
    rename_i j _ _ _
    obtain ⟨e1, rfl, rfl, rfl⟩ := hx
    have hj : j < m1 := by simpa [V.bd] using hb
    have hf : ∀ i, (Λ.view ρ σ m1).frf j i = Λ.frf k i := by intro i; simp [L.view, hj, e1]
    have hs : σ k = some j := by rw [← e1]; exact hn.at_ j (by omega)
    refine .fow h.view hsz hj (by rw [hf]; exact hm) fun he => ?_
    rcases ho (by rw [← hf]; exact he) with ho | ⟨b, cap, arr, e, hv, hb', hh, hc, hn'⟩
    · exact .inl ho
    · exact .inr ⟨b, cap, arr, e, hv, view_far hb' hs, hh, hc, hn'⟩

theorem aget_asets_ren (hn : Rn ρ σ m1 m n) : ∀ (ob : List (Nat × AObj)) (s s1 : List (Nat × AObj)), (∀ j, j < m1 + n → aget s (ρ j) = (aget s1 j).map (AObj.ren ρ)) → (∀ j o, (j, o) ∈ ob → j < m1 + n) →
    (∀ j, j < m1 + n → aget (asets s (ob.map fun e => (ρ e.1, e.2.ren ρ))) (ρ j) = (aget (asets s1 ob) j).map (AObj.ren ρ)) ∧ (∀ k, σ k = none → aget (asets s (ob.map fun e => (ρ e.1, e.2.ren ρ))) k = aget s k)
  | [], s, s1, h, _ => ⟨h, fun _ _ => rfl⟩
  | (i, o) :: r, s, s1, h, hb => by
    simp only [List.map_cons, asets]
    have hi : i < m1 + n := hb i o (by simp)
    obtain ⟨g1, g2⟩ := aget_asets_ren hn r (aset s (ρ i) (o.ren ρ)) (aset s1 i o) (fun j hj => by
      rw [aget_aset, aget_aset]
      by_cases e : i = j
      · subst e; simp
      · have : ρ i ≠ ρ j := by
          intro e'
          have h1 := hn.at_ i hi
          have h2 := hn.at_ j hj
          rw [e', h2] at h1
          simp at h1; exact e h1.symm
        simp only [e, this, if_false]; exact h j hj) (fun j o hj => hb j o (by simp [hj]))
    refine ⟨g1, fun k hk => ?_⟩
    rw [g2 k hk, aget_aset]
    have : ρ i ≠ k := by rintro rfl; rw [hn.at_ i hi] at hk; cases hk
    simp [this]

theorem FnOk.ren {out : Out} (hn : Rn ρ σ m1 m out.n) {f : FuncId} {vs : List V} {sto s1 : List (Nat × AObj)} (h : FnOk P f vs ⟨s1, m1⟩ out) (hb : V.bds m1 vs = true) (hs : stoBd m1 s1 = true)
    (hsub : ∀ j, j < m1 → aget sto (ρ j) = (aget s1 j).map (AObj.ren ρ)) (hob : ∀ k o, (k, o) ∈ out.ob → k < m1 + out.n ∧ (aget s1 k ≠ none ∨ m1 ≤ k)) :
    FnAt P f (V.rens ρ vs) m sto { v := out.v.ren ρ, ob := out.ob.map fun e => (ρ e.1, e.2.ren ρ), n := out.n, rd := true } := by
  refine ⟨h.1, fun k o hk => ?_, fun Λ args hr hle hfree hsz hargs => ?_⟩
  · simp only [List.mem_map] at hk
    obtain ⟨⟨j, o'⟩, hj, e⟩ := hk
    simp at e
    obtain ⟨rfl, rfl⟩ := e
    obtain ⟨h1, h2⟩ := hob j o' hj
    by_cases hj1 : j < m1
    · left
      rcases h2 with h2 | h2
      · rw [hsub j hj1]; simpa using h2
      · omega
    · right
      have := hn.new j (by omega) h1
      show m ≤ ρ j ∧ ρ j < m + out.n
      omega
  simp only at hle hfree
  -- names that are new bear nothing
  have hfresh : ∀ {b k j : Nat}, σ k = some j → (Λ.lab b = .obj k ∨ ∃ fr, Λ.lab b = .arr k fr) → j < m1 := by
    intro b k j hk hl
    obtain ⟨e, hj⟩ := hn.inv k j hk
    rcases Nat.lt_or_ge j m1 with h | h
    · exact h
    · have e2 := hn.new j h hj
      have := (hfree k (by omega) (by omega)).2.1
      rcases hl with hl | ⟨fr, hl⟩
      · exact absurd hl (this.obj b)
      · exact absurd hl (this.arr b fr)
  have hfreshF : ∀ {b k j : Nat}, σ k = some j → ((∃ i, Λ.lab b = .fob k i) ∨ ∃ i fr, Λ.lab b = .far k i fr) → j < m1 := by
    intro b k j hk hl
    obtain ⟨e, hj⟩ := hn.inv k j hk
    rcases Nat.lt_or_ge j m1 with h | h
    · exact h
    · have e2 := hn.new j h hj
      have := (hfree k (by omega) (by omega)).2.1
      rcases hl with ⟨i, hl⟩ | ⟨i, fr, hl⟩
      · exact absurd hl (this.fob b i)
      · exact absurd hl (this.far b i fr)
  have hr1 : RelS (Λ.view ρ σ m1) ⟨s1, m1⟩ := by
    refine ⟨fun j o hj => ?_, fun b b' j h1 h2 => ?_, fun b hb => ?_, fun b j hb => ?_, fun j hj => ?_, fun b b' j i h1 h2 => ?_, fun b j hb => ?_, fun j i hj => ?_⟩
    · obtain ⟨h1, h2⟩ := stoBd_at hs j o hj
      refine ⟨h1, ?_⟩
      have hro := (hr.sto (ρ j) (o.ren ρ) (by rw [hsub j h1, hj]; rfl)).2
      have hs' := hn.at_ j (by omega)
      cases o with
      | cells cs =>
        obtain ⟨b, arr, e, e1, e2, e3, e4⟩ := hro
        rw [V.rens_eq] at e3 e4
        exact ⟨b, arr, e, view_obj e1 hs', e2, by simpa using e3, fun i v c a1 a2 => (e4 i v (c.ren ρ) a1 (by simp [a2])).view hn rfl (V.bds_at (by simpa [AObj.bd] using h2) i c a2)⟩
      | map kag es sx =>
        obtain ⟨b, ents, clock, e1, e2, e3⟩ := hro
        refine ⟨b, ents, clock, view_obj e1 hs', e2, ⟨by simpa using e3.size, fun i e kv a1 a2 => ?_, e3.born, e3.apart, e3.known⟩⟩
        obtain ⟨g1, g2⟩ := e3.at_ i e (kv.1, kv.2.ren ρ) a1 (by simp [a2])
        exact ⟨g1.keep fun _ _ h => h.view, g2.view hn rfl (V.bds_at (by simpa [AObj.bd] using h2) i kv.2 (by simp [a2]))⟩
      | arr n => have hro' : Λ.fro (ρ j) = n := hro
                 unfold RelO; simp [L.view, h1, hro']
      | iter q s seen c =>
        have hq : q < m1 := by simpa [AObj.bd] using h2
        obtain ⟨b, bm, e1, e2, e3, e4⟩ := hro
        exact ⟨b, bm, view_obj e1 hs', e2, view_obj e3 (hn.at_ q (by omega)), hq⟩
      | gro ver cs =>
        obtain ⟨q0, q⟩ := hro
        rw [V.rens_eq] at q
        refine ⟨by simpa [L.view, h1] using q0, ?_⟩
        rcases q with ⟨e1, e2⟩ | ⟨b, arr, e, e1, e2, e3, e4⟩
        · refine .inl ⟨by simpa using e1, fun b i hb => ?_⟩
          obtain ⟨k, a1, a2⟩ := view_fob_inv hb
          have := (hn.inv _ _ a2).1
          subst this
          exact e2 b i a1
        · exact .inr ⟨b, arr, e, view_cur hn e1 hs', e2, by simpa using e3, fun i v c a1 a2 => (e4 i v (c.ren ρ) a1 (by simp [a2])).view hn rfl (V.bds_at (by simpa [AObj.bd] using h2) i c a2)⟩
      | fobs os =>
        obtain ⟨q0, q⟩ := hro
        refine ⟨fun b i hb => ?_, fun i cs hi => ?_⟩
        · obtain ⟨k, a1, a2⟩ := view_fob_inv hb
          have := (hn.inv _ _ a2).1
          subst this
          simpa using q0 b i a1
        · obtain ⟨b, arr, e, e1, e2, e3, e4⟩ := q i (V.rens ρ cs) (by simp [hi])
          rw [V.rens_eq] at e3 e4
          have hbd : V.bds m1 cs = true := by
            simp only [AObj.bd, List.all_eq_true] at h2
            exact h2 cs (List.mem_of_getElem? hi)
          exact ⟨b, arr, e, view_fob e1 hs', e2, by simpa using e3, fun i v c a1 a2 => (e4 i v (c.ren ρ) a1 (by simp [a2])).view hn rfl (V.bds_at hbd i c a2)⟩
      | farr ns => intro i; have := hro i; simpa [L.view, h1] using this
      | memo kag I =>
        obtain ⟨b, ents, clock, e1, e2, e3, e4, e5⟩ := hro
        refine ⟨b, ents, clock, view_obj e1 hs', e2, e3, e4, fun i e hi => ?_⟩
        obtain ⟨cs, v, q1, q2, q3⟩ := e5 i e hi
        exact ⟨cs, v, q1.keep fun _ _ h => h.view, q2.view, q3⟩
    · obtain ⟨k, a1, a2⟩ := view_obj_inv h1
      obtain ⟨k', b1, b2⟩ := view_obj_inv h2
      have := (hn.inv _ _ a2).1
      have := (hn.inv _ _ b2).1
      subst_vars
      exact hr.inj b b' _ a1 b1
    · exact view_fix (hr.new b hb)
    · rcases hb with hb | ⟨fr, hb⟩
      · obtain ⟨k, a1, a2⟩ := view_obj_inv hb; exact hfresh a2 (.inl a1)
      · obtain ⟨k, a1, a2⟩ := view_arr_inv hb; exact hfresh a2 (.inr ⟨_, a1⟩)
    · have hj' : m1 ≤ j := hj
      simp [L.view]; omega
    · obtain ⟨k, a1, a2⟩ := view_fob_inv h1
      obtain ⟨k', b1, b2⟩ := view_fob_inv h2
      have := (hn.inv _ _ a2).1
      have := (hn.inv _ _ b2).1
      subst_vars
      exact hr.injF b b' _ i a1 b1
    · rcases hb with ⟨i, hb⟩ | ⟨i, fr, hb⟩
      · obtain ⟨k, a1, a2⟩ := view_fob_inv hb; exact hfreshF a2 (.inl ⟨_, a1⟩)
      · obtain ⟨k, a1, a2⟩ := view_far_inv hb; exact hfreshF a2 (.inr ⟨_, _, a1⟩)
    · have hj' : m1 ≤ j := hj
      simp [L.view]; omega
  refine (h.2 (Λ.view ρ σ m1) args hr1 rfl (by rw [hsz, V.rens_eq]; simp) fun j v y h1 h2 => (hargs j v (y.ren ρ) h1 (by rw [V.rens_eq]; simp [h2])).view hn rfl (V.bds_at hb j y h2)).mono fun e w' he => ?_
  obtain ⟨v, Λ', rfl, rfl, k1, k2, k3, k4⟩ := he
  simp only at k2 k3
  have hlt : ∀ {b : Nat}, Λ.hid σ b = true → b < Λ.w.heap.size := by
    intro b hh
    rcases Nat.lt_or_ge b Λ.w.heap.size with h | h
    · exact h
    · unfold L.hid at hh; rw [hr.new b h] at hh; simp at hh
  have hH : ∀ {b : Nat}, Λ.hid σ b = true → (Λ.unview ρ σ Λ').lab b = Λ.lab b := fun h => by simp [L.unview, h]
  have hL : ∀ {b : Nat}, Λ.hid σ b = false → (Λ.unview ρ σ Λ').lab b = (Λ'.lab b).ren ρ := fun h => by simp [L.unview, h]
  have hheap : ∀ {b : Nat}, Λ.hid σ b = true → ∃ fr, Λ'.lab b = .fix (some fr) ∧ Λ'.w.heap[b]? = Λ.w.heap[b]? ∧ ((∃ k, Λ.lab b = .obj k ∧ σ k = none ∧ fr = 0) ∨ (∃ k, Λ.lab b = .arr k fr ∧ σ k = none) ∨ (∃ k i, Λ.lab b = .fob k i ∧ σ k = none ∧ fr = 0) ∨ ∃ k i, Λ.lab b = .far k i fr ∧ σ k = none) := by
    intro b hh
    obtain ⟨fr, e1, e2⟩ := view_hid (ρ := ρ) (m1 := m1) hh
    obtain ⟨g1, g2⟩ := k1.fr.fix b (hlt hh) _ e1
    exact ⟨fr, g1, g2, e2⟩
  have hvis : ∀ {b k j : Nat}, σ k = some j → (Λ.lab b = .obj k ∨ ∃ fr, Λ.lab b = .arr k fr) → Λ.hid σ b = false := by
    intro b k j hk hb
    unfold L.hid
    rcases hb with hb | ⟨fr, hb⟩ <;> rw [hb] <;> simp [hk]
  have hvisF : ∀ {b k j : Nat}, σ k = some j → ((∃ i, Λ.lab b = .fob k i) ∨ ∃ i fr, Λ.lab b = .far k i fr) → Λ.hid σ b = false := by
    intro b k j hk hb
    unfold L.hid
    rcases hb with ⟨i, hb⟩ | ⟨i, fr, hb⟩ <;> rw [hb] <;> simp [hk]
  have hfix : ∀ {b : Nat} {fr : Option Nat}, Λ.lab b = .fix fr → Λ.hid σ b = false := by
    intro b fr hb; unfold L.hid; rw [hb]
  have rdren : ∀ {b o : Nat} {l : Nat → Lab}, l b = (Λ'.lab b).ren ρ → Rd Λ'.lab b o → Rd l b o := by
    intro b o l e h
    unfold Rd at *
    rw [e]
    cases hl : Λ'.lab b <;> rw [hl] at h <;> simp only [Lab.ren] <;> exact h
  have hinvF : ∀ {b k j i : Nat}, σ k = some j → (Λ.unview ρ σ Λ').lab b = .fob k i → Λ'.lab b = .fob j i := by
    intro b k j i hk hb
    cases hh : Λ.hid σ b with
    | true => rw [hH hh] at hb; have := hvisF hk (.inl ⟨i, hb⟩); rw [hh] at this; cases this
    | false =>
      rw [hL hh] at hb
      cases hl : Λ'.lab b <;> rw [hl] at hb <;> simp [Lab.ren] at hb
      rename_i j' i'
      obtain ⟨e1, rfl⟩ := hb
      have hb1 := k3.bndF b j' (.inl ⟨_, hl⟩)
      have hb2 := hn.at_ j' (by omega)
      rw [e1, hk] at hb2
      simp at hb2; subst hb2; rfl
  have hkp : Kp Λ (Λ.unview ρ σ Λ') := by
    refine ⟨⟨k1.fr.os, k1.fr.tape, k1.fr.output, k1.fr.size, fun b hb fr hl => ?_, fun b hb k fr hl o ho => ?_, fun b hb k i fr hl o ho => ?_⟩, Nat.le_refl _, fun b k _ hl => ?_, fun b k n _ hb hl hf => ?_, fun k hk => ?_, fun b k i _ hl => ?_, fun b k i n _ hb hl hf => ?_, fun k i hk => ?_, fun b k i hk hp hf hl => ?_⟩
    · obtain ⟨g1, g2⟩ := k1.fr.fix b hb fr (view_fix hl)
      exact ⟨by rw [hL (hfix hl), g1]; rfl, g2⟩
    · cases hk : σ k with
      | none =>
        have hh : Λ.hid σ b = true := by unfold L.hid; rw [hl]; simp [hk]
        obtain ⟨fr', g1, g2, g3⟩ := hheap hh
        exact ⟨by unfold Rd; rw [hH hh, hl]; exact ho, cell?_heap g2⟩
      | some j =>
        have hh := hvis hk (.inr ⟨_, hl⟩)
        obtain ⟨g1, g2⟩ := k1.fr.arr b hb j fr (view_arr hl hk) o ho
        exact ⟨rdren (hL hh) g1, g2⟩
    · cases hk : σ k with
      | none =>
        have hh : Λ.hid σ b = true := by unfold L.hid; rw [hl]; simp [hk]
        obtain ⟨fr', g1, g2, g3⟩ := hheap hh
        exact ⟨by unfold Rd; rw [hH hh, hl]; exact ho, cell?_heap g2⟩
      | some j =>
        have hh := hvisF hk (.inr ⟨_, _, hl⟩)
        obtain ⟨g1, g2⟩ := k1.fr.far b hb j i fr (view_far hl hk) o ho
        exact ⟨rdren (hL hh) g1, g2⟩
    · cases hk : σ k with
      | none => rw [hH (by unfold L.hid; rw [hl]; simp [hk])]; exact hl
      | some j =>
        rw [hL (hvis hk (.inl hl)), k1.obj b j (hfresh hk (.inl hl)) (view_obj hl hk)]
        simp only [Lab.ren, (hn.inv k j hk).1]
    · cases hk : σ k with
      | none =>
        have hh : Λ.hid σ b = true := by unfold L.hid; rw [hl]; simp [hk]
        obtain ⟨fr', g1, g2, g3⟩ := hheap hh
        exact ⟨by rw [hH hh]; exact hl, g2⟩
      | some j =>
        have hj := hfresh hk (.inr ⟨_, hl⟩)
        have e1 : (Λ.view ρ σ m1).fro j = Λ.fro k := by simp [L.view, hj, (hn.inv k j hk).1]
        have e2 : (Λ.unview ρ σ Λ').fro k = Λ'.fro j := by simp [L.unview, hk]
        obtain ⟨g1, g2⟩ := k1.own b j n hj hb (view_arr hl hk) (by rw [← e2, hf, e1])
        exact ⟨by rw [hL (hvis hk (.inr ⟨_, hl⟩)), g1]; simp only [Lab.ren, (hn.inv k j hk).1], g2⟩
    · cases hk' : σ k with
      | none => simp [L.unview, hk']
      | some j =>
        obtain ⟨e1, e2⟩ := hn.inv k j hk'
        simp only [L.unview, hk']
        by_cases hj : j < m1
        · have := k1.fro j hj
          simpa [L.view, hj, e1] using this
        · have e3 := hn.new j (by omega) e2
          rw [(hfree k (by omega) (by omega)).2.1.fro]; omega
    · cases hk : σ k with
      | none =>
        have hh : Λ.hid σ b = true := by unfold L.hid; rw [hl]; simp [hk]
        obtain ⟨fr', g1, g2, g3⟩ := hheap hh
        exact ⟨by rw [hH hh]; exact hl, fun N hN => by unfold rowSize at hN ⊢; show (match Λ'.w.heap[b]? with | some (.cells arr _ _) => some arr.size | _ => none) = _; rw [g2]; exact hN⟩
      | some j =>
        obtain ⟨g1, g2⟩ := k1.fob b j i (hfreshF hk (.inl ⟨_, hl⟩)) (view_fob hl hk)
        exact ⟨by rw [hL (hvisF hk (.inl ⟨_, hl⟩)), g1]; simp only [Lab.ren, (hn.inv k j hk).1], g2⟩
    · cases hk : σ k with
      | none =>
        have hh : Λ.hid σ b = true := by unfold L.hid; rw [hl]; simp [hk]
        obtain ⟨fr', g1, g2, g3⟩ := hheap hh
        exact ⟨by rw [hH hh]; exact hl, g2⟩
      | some j =>
        have hj := hfreshF hk (.inr ⟨_, _, hl⟩)
        have e1 : (Λ.view ρ σ m1).frf j i = Λ.frf k i := by simp [L.view, hj, (hn.inv k j hk).1]
        have e2 : (Λ.unview ρ σ Λ').frf k i = Λ'.frf j i := by simp [L.unview, hk]
        obtain ⟨g1, g2⟩ := k1.far b j i n hj hb (view_far hl hk) (by rw [← e2, hf, e1])
        exact ⟨by rw [hL (hvisF hk (.inr ⟨_, _, hl⟩)), g1]; simp only [Lab.ren, (hn.inv k j hk).1], g2⟩
    · cases hk' : σ k with
      | none => simp [L.unview, hk']
      | some j =>
        obtain ⟨e1, e2⟩ := hn.inv k j hk'
        simp only [L.unview, hk']
        by_cases hj : j < m1
        · have := k1.frf j i hj
          simpa [L.view, hj, e1] using this
        · have e3 := hn.new j (by omega) e2
          rw [(hfree k (by omega) (by omega)).2.1.frf]; omega
    · cases hk' : σ k with
      | none =>
        cases hh : Λ.hid σ b with
        | true => rw [hH hh] at hl; exact hl
        | false =>
          rw [hL hh] at hl
          cases hl' : Λ'.lab b <;> rw [hl'] at hl <;> simp [Lab.ren] at hl
          rename_i j' i'
          have hb1 := k3.bndF b j' (.inl ⟨_, hl'⟩)
          have hb2 := hn.at_ j' (by omega)
          rw [hl.1, hk'] at hb2; cases hb2
      | some j =>
        have hb1 := hinvF hk' hl
        obtain ⟨e1, e2⟩ := hn.inv k j hk'
        by_cases hj : j < m1
        · have e3 : (Λ.view ρ σ m1).frf j 0 = Λ.frf k 0 := by simp [L.view, hj, e1]
          have e4 : (Λ.unview ρ σ Λ').frf k 0 = Λ'.frf j 0 := by simp [L.unview, hk']
          obtain ⟨k', a1, a2⟩ := view_fob_inv (k1.fobN b j i hj (by rw [e3]; exact hp) (by rw [← e4, hf, e3]) hb1)
          have := (hn.inv _ _ a2).1
          rw [← this, e1] at a1; exact a1
        · have e3 := hn.new j (by omega) e2
          have := (hfree k (by omega) (by omega)).2.1.frf 0; omega
  have hobj : ∀ {b j : Nat}, Λ'.lab b = .obj j → (Λ.unview ρ σ Λ').lab b = .obj (ρ j) := by
    intro b k hb
    cases hh : Λ.hid σ b with
    | true => obtain ⟨fr, g1, _⟩ := hheap hh; rw [g1] at hb; simp at hb
    | false => rw [hL hh, hb]; rfl
  have harr : ∀ {b j n : Nat}, Λ'.lab b = .arr j n → (Λ.unview ρ σ Λ').lab b = .arr (ρ j) n := by
    intro b k n hb
    cases hh : Λ.hid σ b with
    | true => obtain ⟨fr, g1, _⟩ := hheap hh; rw [g1] at hb; simp at hb
    | false => rw [hL hh, hb]; rfl
  have hfob : ∀ {b j i : Nat}, Λ'.lab b = .fob j i → (Λ.unview ρ σ Λ').lab b = .fob (ρ j) i := by
    intro b k i hb
    cases hh : Λ.hid σ b with
    | true => obtain ⟨fr, g1, _⟩ := hheap hh; rw [g1] at hb; simp at hb
    | false => rw [hL hh, hb]; rfl
  have hfar : ∀ {b j i n : Nat}, Λ'.lab b = .far j i n → (Λ.unview ρ σ Λ').lab b = .far (ρ j) i n := by
    intro b k i n hb
    cases hh : Λ.hid σ b with
    | true => obtain ⟨fr, g1, _⟩ := hheap hh; rw [g1] at hb; simp at hb
    | false => rw [hL hh, hb]; rfl
  have hcur : ∀ {b j : Nat}, j < m1 + out.n → GCur Λ'.lab j b → GCur (Λ.unview ρ σ Λ').lab (ρ j) b := by
    rintro b j hj ⟨i, e1, e2⟩
    exact ⟨i, hfob e1, fun b' i' h' => e2 b' i' (hinvF (hn.at_ j hj) h')⟩
  have hrep : ∀ {u : Value} {y : T}, RepT Λ'.lab Λ'.w u y → RepT (Λ.unview ρ σ Λ').lab (Λ.unview ρ σ Λ').w u y := by
    intro u y hy
    refine hy.keep fun b o _ _ hrd => ⟨?_, rfl⟩
    cases hh : Λ.hid σ b with
    | true =>
      obtain ⟨fr, g1, _, g3⟩ := hheap hh
      unfold Rd at hrd ⊢
      rw [g1] at hrd
      rw [hH hh]
      rcases g3 with ⟨k, e, _, rfl⟩ | ⟨k, e, _⟩ | ⟨k, i, e, _, rfl⟩ | ⟨k, i, e, _⟩
      · simp at hrd
      · rw [e]; exact hrd
      · simp at hrd
      · rw [e]; exact hrd
    | false => exact rdren (hL hh) hrd
  have hfro : ∀ {j : Nat}, j < m1 + out.n → (Λ.unview ρ σ Λ').fro (ρ j) = Λ'.fro j := by
    intro j hj; simp [L.unview, hn.at_ j hj]
  have hfrf : ∀ {j i : Nat}, j < m1 + out.n → (Λ.unview ρ σ Λ').frf (ρ j) i = Λ'.frf j i := by
    intro j i hj; simp [L.unview, hn.at_ j hj]
  have hρ : ∀ {j : Nat}, j < m1 + out.n → ρ j < Λ.nxt := by
    intro j hj
    by_cases h1 : j < m1
    · have := hn.low j h1; omega
    · have := hn.new j (by omega) hj; omega
  have hval : ∀ {u : Value} {y : V}, RelV Λ' u y → RelV (Λ.unview ρ σ Λ') u (y.ren ρ) := by
    intro u y hy
    induction hy with
    | t h => exact .t (hrep h)
    | nils => exact .nils
    | @own v k sz xs h hsz hl hn' ho =>
      rw [k2] at hl
      refine .own (hrep h) hsz (hρ hl) (by rw [hfro hl]; exact hn') fun he => ?_
      rcases ho (by rw [← hfro hl]; exact he) with ho | ⟨b, cap, arr, e, hv, hb', hh, hc, hn'⟩
      · exact .inl ho
      · exact .inr ⟨b, cap, arr, e, hv, harr hb', hh, hc, hn'⟩
    | slc hl hc h => exact .slc (hρ (by omega)) hc (hobj h)
    | agg hs _ ih =>
      refine .agg (by rw [V.rens_eq]; simpa using hs) fun j v c h1 h2 => ?_
      rw [V.rens_eq, List.getElem?_map, Option.map_eq_some_iff] at h2
      obtain ⟨c', h3, rfl⟩ := h2
      exact ih j v c' h1 h3
    | tup hs _ ih =>
      refine .tup (by rw [V.rens_eq]; simpa using hs) fun j v c h1 h2 => ?_
      rw [V.rens_eq, List.getElem?_map, Option.map_eq_some_iff] at h2
      obtain ⟨c', h3, rfl⟩ := h2
      exact ih j v c' h1 h3
    | ptr hl h => exact .ptr (hρ (by omega)) (hobj h)
    | mp hl h => exact .mp (hρ (by omega)) (hobj h)
    | fn hs h =>
      refine .fn (by simpa using hs) fun j v c h1 h2 => ?_
      rw [List.getElem?_map, Option.map_eq_some_iff] at h2
      obtain ⟨c', h3, rfl⟩ := h2
      obtain ⟨b, e1, e2, e3⟩ := h j v c' h1 h3
      exact ⟨b, e1, hobj e2, hρ (by omega)⟩
    | gd _ h' ih => exact .gd ih h'
    | top => exact .top
    | ub h h' => exact .ub h h'
    | fpt hl h => exact .fpt (hρ (by omega)) (hfob h)
    | gpt hv hl hm h =>
      rw [k2] at hl
      refine .gpt hv (hρ hl) (by rw [hfrf hl]; exact hm) fun he => ?_
      obtain ⟨b, e1, e2⟩ := h (by rw [← hfrf hl]; exact he)
      exact ⟨b, e1, hcur hl e2⟩
    | gsl hv hl hm h =>
      rw [k2] at hl
      refine .gsl hv (hρ hl) (by rw [hfrf hl]; exact hm) fun he => ?_
      rcases h (by rw [← hfrf hl]; exact he) with h | ⟨b, cap, N, hv, hc, e2, hN, he'⟩
      · exact .inl h
      · exact .inr ⟨b, cap, N, hv, hc, hcur hl e2, hN, he'⟩
    | fow h hsz hl hm ho =>
      rw [k2] at hl
      refine .fow (hrep h) hsz (hρ hl) (by rw [hfrf hl]; exact hm) fun he => ?_
      rcases ho (by rw [← hfrf hl]; exact he) with ho | ⟨b, cap, arr, e, hv, hb', hh, hc, hn'⟩
      · exact .inl ho
      · exact .inr ⟨b, cap, arr, e, hv, hfar hb', hh, hc, hn'⟩
  have hname : ∀ {b k : Nat}, Λ.hid σ b = true → ((Λ.unview ρ σ Λ').lab b = .obj k ∨ ∃ n, (Λ.unview ρ σ Λ').lab b = .arr k n) → σ k = none ∧ (Λ.lab b = .obj k ∨ ∃ n, Λ.lab b = .arr k n) := by
    intro b k hh hb
    rw [hH hh] at hb
    refine ⟨?_, hb⟩
    unfold L.hid at hh; rcases hb with hb | ⟨n, hb⟩ <;> rw [hb] at hh <;> simpa using hh
  have hseen : ∀ {b k : Nat}, Λ.hid σ b = false → ((Λ.unview ρ σ Λ').lab b = .obj k ∨ ∃ n, (Λ.unview ρ σ Λ').lab b = .arr k n) → ∃ j, ρ j = k ∧ j < m1 + out.n ∧ (Λ'.lab b = .obj j ∨ ∃ n, Λ'.lab b = .arr j n) := by
    intro b k hh hb
    rw [hL hh] at hb
    cases hl : Λ'.lab b with
    | fix fr => rw [hl] at hb; simp [Lab.ren] at hb
    | obj j => rw [hl] at hb; simp [Lab.ren] at hb; have := k3.bnd b j (.inl hl); exact ⟨j, hb, by omega, .inl rfl⟩
    | arr j n => rw [hl] at hb; simp [Lab.ren] at hb; have := k3.bnd b j (.inr ⟨n, hl⟩); exact ⟨j, hb, by omega, .inr ⟨n, rfl⟩⟩
    | fob j i => rw [hl] at hb; simp [Lab.ren] at hb
    | far j i n => rw [hl] at hb; simp [Lab.ren] at hb
  have hseenF : ∀ {b k : Nat}, Λ.hid σ b = false → ((∃ i, (Λ.unview ρ σ Λ').lab b = .fob k i) ∨ ∃ i n, (Λ.unview ρ σ Λ').lab b = .far k i n) → ∃ j, ρ j = k ∧ j < m1 + out.n := by
    intro b k hh hb
    rw [hL hh] at hb
    cases hl : Λ'.lab b with
    | fix fr => rw [hl] at hb; simp [Lab.ren] at hb
    | obj j => rw [hl] at hb; simp [Lab.ren] at hb
    | arr j n => rw [hl] at hb; simp [Lab.ren] at hb
    | fob j i => rw [hl] at hb; simp [Lab.ren] at hb; have := k3.bndF b j (.inl ⟨i, hl⟩); exact ⟨j, hb, by omega⟩
    | far j i n => rw [hl] at hb; simp [Lab.ren] at hb; have := k3.bndF b j (.inr ⟨i, n, hl⟩); exact ⟨j, hb, by omega⟩
  obtain ⟨ag1, ag2⟩ := aget_asets_ren hn out.ob sto s1 (fun j hj => by
    by_cases h1 : j < m1
    · exact hsub j h1
    · have e3 := hn.new j (by omega) hj
      rw [(hfree (ρ j) (by omega) (by omega)).2.2]
      cases ha : aget s1 j with
      | none => rfl
      | some o => have := (stoBd_at hs j o ha).1; omega) (fun j o hj => (hob j o hj).1)
  refine ⟨v, Λ.unview ρ σ Λ', rfl, rfl, hkp, rfl, ?_, hval k4, fun k hk _ hcase => ?_⟩
  · refine ⟨fun k o ho => ?_, fun b b' k h1 h2 => ?_, fun b hb => ?_, fun b k hb => ?_, fun k hk => ?_, fun b b' k i h1 h2 => ?_, fun b k hb => ?_, fun k i hk => ?_⟩
    · cases hk : σ k with
      | none =>
        have ho' : aget sto k = some o := by rw [← ag2 k hk]; exact ho
        obtain ⟨g1, g2⟩ := hr.sto k o ho'
        refine ⟨g1, g2.mono hkp g1 (fun b hb => ?_) (by simp [L.unview, hk]) (fun b i hb => ?_) (fun b i hb => ?_) (fun i => by simp [L.unview, hk])⟩
        · obtain ⟨fr, q1, q2, _⟩ := hheap (b := b) (by unfold L.hid; rw [hb]; simp [hk])
          exact q2
        · obtain ⟨fr, q1, q2, _⟩ := hheap (b := b) (by unfold L.hid; rw [hb]; simp [hk])
          exact q2
        · cases hh : Λ.hid σ b with
          | true => rw [hH hh] at hb; exact hb
          | false => obtain ⟨j, e1, e2⟩ := hseenF hh (.inl ⟨i, hb⟩); rw [← e1, hn.at_ j e2] at hk; cases hk
      | some j =>
        obtain ⟨e1, e2⟩ := hn.inv k j hk
        subst e1
        have ho' : aget (asets sto (out.ob.map fun e => (ρ e.1, e.2.ren ρ))) (ρ j) = some o := ho
        rw [ag1 j e2, Option.map_eq_some_iff] at ho'
        obtain ⟨o1, a1, rfl⟩ := ho'
        obtain ⟨g1, g2⟩ := k3.sto j o1 a1
        refine ⟨hρ e2, ?_⟩
        cases o1 with
        | cells cs =>
          obtain ⟨b, arr, e, e1, e2, e3, e4⟩ := g2
          refine ⟨b, arr, e, hobj e1, e2, by rw [V.rens_eq]; simpa using e3, fun i v c a1 a2 => ?_⟩
          rw [V.rens_eq, List.getElem?_map, Option.map_eq_some_iff] at a2
          obtain ⟨c', a3, rfl⟩ := a2
          exact hval (e4 i v c' a1 a3)
        | map kag es sx =>
          obtain ⟨b, ents, clock, e1, e2, e3⟩ := g2
          refine ⟨b, ents, clock, hobj e1, e2, ⟨by simpa using e3.size, fun i e kv a1 a2 => ?_, e3.born, e3.apart, e3.known⟩⟩
          rw [List.getElem?_map, Option.map_eq_some_iff] at a2
          obtain ⟨kv', a3, rfl⟩ := a2
          obtain ⟨q1, q2⟩ := e3.at_ i e kv' a1 a3
          exact ⟨q1.keep fun _ _ h => hrep h, hval q2⟩
        | arr n' =>
          unfold RelO at *
          simp only [AObj.ren]
          rw [hfro e2]; exact g2
        | iter q s seen c =>
          obtain ⟨b, bm, a1, a2, a3, a4⟩ := g2
          exact ⟨b, bm, hobj a1, a2, hobj a3, hρ (by omega)⟩
        | gro ver cs =>
          obtain ⟨q0, q⟩ := g2
          refine ⟨by rw [hfrf e2]; exact q0, ?_⟩
          rw [V.rens_eq]
          rcases q with ⟨e3, e4⟩ | ⟨b, arr, e, e3, e4, e5, e6⟩
          · exact .inl ⟨by simp [e3], fun b i hb => e4 b i (hinvF (hn.at_ j e2) hb)⟩
          · refine .inr ⟨b, arr, e, hcur e2 e3, e4, by simpa using e5, fun i v c a1 a2 => ?_⟩
            rw [List.getElem?_map, Option.map_eq_some_iff] at a2
            obtain ⟨c', a3, rfl⟩ := a2
            exact hval (e6 i v c' a1 a3)
        | fobs os =>
          obtain ⟨q0, q⟩ := g2
          refine ⟨fun b i hb => by simpa using q0 b i (hinvF (hn.at_ j e2) hb), fun i cs hi => ?_⟩
          rw [List.getElem?_map, Option.map_eq_some_iff] at hi
          obtain ⟨cs', hi, rfl⟩ := hi
          obtain ⟨b, arr, e, e3, e4, e5, e6⟩ := q i cs' hi
          refine ⟨b, arr, e, hfob e3, e4, by rw [V.rens_eq]; simpa using e5, fun i v c a1 a2 => ?_⟩
          rw [V.rens_eq, List.getElem?_map, Option.map_eq_some_iff] at a2
          obtain ⟨c', a3, rfl⟩ := a2
          exact hval (e6 i v c' a1 a3)
        | farr ns => exact fun i => (hfrf e2).trans (g2 i)
        | memo kag I =>
          obtain ⟨b, ents, clock, e3, e4, e5, e6, e7⟩ := g2
          refine ⟨b, ents, clock, hobj e3, e4, e5, e6, fun i e hi => ?_⟩
          obtain ⟨cs, v, q1, q2, q3⟩ := e7 i e hi
          exact ⟨cs, v, q1.keep fun _ _ h => hrep h, hrep q2, q3⟩
    · cases hh : Λ.hid σ b with
      | true =>
        obtain ⟨q1, q2⟩ := hname hh (.inl h1)
        cases hh' : Λ.hid σ b' with
        | true =>
          rw [hH hh] at h1; rw [hH hh'] at h2
          exact hr.inj b b' k h1 h2
        | false =>
          obtain ⟨j, e1, e2, _⟩ := hseen hh' (.inl h2)
          rw [← e1, hn.at_ j e2] at q1; cases q1
      | false =>
        obtain ⟨j, e1, e2, _⟩ := hseen hh (.inl h1)
        cases hh' : Λ.hid σ b' with
        | true =>
          obtain ⟨q1, _⟩ := hname hh' (.inl h2)
          rw [← e1, hn.at_ j e2] at q1; cases q1
        | false =>
          rw [hL hh] at h1; rw [hL hh'] at h2
          cases hl : Λ'.lab b <;> rw [hl] at h1 <;> simp [Lab.ren] at h1
          cases hl' : Λ'.lab b' <;> rw [hl'] at h2 <;> simp [Lab.ren] at h2
          rename_i j1 j2
          have b1 := k3.bnd b j1 (.inl hl)
          have b2 := k3.bnd b' j2 (.inl hl')
          have c1 := hn.at_ j1 (by omega)
          have c2 := hn.at_ j2 (by omega)
          rw [h1] at c1; rw [h2, c1] at c2
          simp at c2; subst c2
          exact k3.inj b b' j1 hl hl'
    · have hge : Λ.w.heap.size ≤ b := Nat.le_trans k1.fr.size hb
      rw [hL (hfix (hr.new b hge)), k3.new b hb]; rfl
    · show k < Λ.nxt
      cases hh : Λ.hid σ b with
      | true => exact hr.bnd b k (hname hh hb).2
      | false => obtain ⟨j, rfl, e2, _⟩ := hseen hh hb; exact hρ e2
    · have hk' : Λ.nxt ≤ k := hk
      cases hs : σ k with
      | none => simp only [L.unview, hs]; exact hr.frz k hk'
      | some j => obtain ⟨rfl, e2⟩ := hn.inv k j hs; have := hρ e2; omega
    · cases hk : σ k with
      | some j => exact k3.injF b b' j i (hinvF hk h1) (hinvF hk h2)
      | none =>
        have hd : ∀ {b : Nat}, (Λ.unview ρ σ Λ').lab b = .fob k i → Λ.lab b = .fob k i := by
          intro b hb
          cases hh : Λ.hid σ b with
          | true => rw [hH hh] at hb; exact hb
          | false => obtain ⟨j, e1, e2⟩ := hseenF hh (.inl ⟨i, hb⟩); rw [← e1, hn.at_ j e2] at hk; cases hk
        exact hr.injF b b' k i (hd h1) (hd h2)
    · show k < Λ.nxt
      cases hh : Λ.hid σ b with
      | true => rw [hH hh] at hb; exact hr.bndF b k hb
      | false => obtain ⟨j, rfl, e2⟩ := hseenF hh hb; exact hρ e2
    · have hk' : Λ.nxt ≤ k := hk
      cases hs : σ k with
      | none => simp only [L.unview, hs]; exact hr.frzF k i hk'
      | some j => obtain ⟨rfl, e2⟩ := hn.inv k j hs; have := hρ e2; omega
  · have hge : m + out.n ≤ k := by
      rcases hcase with h | ⟨_, h⟩
      · exact h
      · cases h
    have hs0 : σ k = none := by
      cases hs : σ k with
      | none => rfl
      | some j =>
        obtain ⟨rfl, e2⟩ := hn.inv k j hs
        by_cases h1 : j < m1
        · have := hn.low j h1; omega
        · have := hn.new j (by omega) e2; omega
    refine ⟨fun b hb => ?_, fun b n hb => ?_, by simp only [L.unview, hs0]; exact hk.fro, fun b i hb => ?_, fun b i n hb => ?_, fun i => by simp only [L.unview, hs0]; exact hk.frf i⟩
    · cases hh : Λ.hid σ b with
      | true => rw [hH hh] at hb; exact hk.obj b hb
      | false => obtain ⟨j, e1, e2, _⟩ := hseen hh (.inl hb); rw [← e1, hn.at_ j e2] at hs0; cases hs0
    · cases hh : Λ.hid σ b with
      | true => rw [hH hh] at hb; exact hk.arr b n hb
      | false => obtain ⟨j, e1, e2, _⟩ := hseen hh (.inr ⟨n, hb⟩); rw [← e1, hn.at_ j e2] at hs0; cases hs0
    · cases hh : Λ.hid σ b with
      | true => rw [hH hh] at hb; exact hk.fob b i hb
      | false => obtain ⟨j, e1, e2⟩ := hseenF hh (.inl ⟨i, hb⟩); rw [← e1, hn.at_ j e2] at hs0; cases hs0
    · cases hh : Λ.hid σ b with
      | true => rw [hH hh] at hb; exact hk.far b i n hb
      | false => obtain ⟨j, e1, e2⟩ := hseenF hh (.inr ⟨i, n, hb⟩); rw [← e1, hn.at_ j e2] at hs0; cases hs0

end
end Go.GB

