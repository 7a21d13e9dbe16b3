/-
  YtjbpmfglccfkaaaDoorP5: lemmas of this proof (part 5). No conditions.
-/
import Derived.Test.YtjbpmfglccfkaaaDoorP2
import Derived.Test.YtjbpmfglccfkaaaDoorP3
import Derived.KernelRfl
import Derived.Test.YtjbpmfglccfkaaaDoorP4

/-
  F23Code: the code of some functions as abstract code (printed by program).
-/
namespace Go.GB.C11
open Go.GB
/- 3 supergraph supergraphlaw23.DirectivesSets -/
def c3_0 : ACode :=
  (.seq (.region false [⟨some 58, none, .mv (.s 4)⟩,
    ⟨some 59, none, .bin .neq (.s 58) (.c (.t (.int .i64 0)))⟩,
    ⟨some 60, none, .mv (.s 59)⟩,
    ⟨some 61, some (60, false), .mv (.s 7)⟩,
    ⟨some 62, some (60, false), .mv (.s 0)⟩,
    ⟨some 63, some (60, false), .bin .eql (.s 61) (.s 62)⟩,
    ⟨some 64, none, .pick (.s 60) (.c (.t (.bool true))) (.s 63)⟩,
    ⟨some 65, none, .mv (.s 64)⟩,
    ⟨some 66, some (65, true), .call 12 []⟩,
    ⟨some 67, none, .pick (.s 65) (.s 66) (.c (.t (.bool false)))⟩,
    ⟨some 2, none, .mv (.s 67)⟩] [] [2]) .ret)
def c3_1 : ACode :=
  (.region false [⟨some 37, none, .mv (.s 8)⟩,
    ⟨some 38, none, .bin .add (.s 37) (.c (.t (.int .i64 1)))⟩,
    ⟨some 8, none, .mv (.s 38)⟩] [] [0, 3, 4, 5, 7, 8])
def c3_2 : ACode :=
  (.region false [⟨some 52, none, .mv (.s 7)⟩,
    ⟨some 53, none, .mv (.s 3)⟩,
    ⟨some 54, none, .mv (.s 8)⟩,
    ⟨some 55, none, .ia 1 (.s 53) (.s 54)⟩,
    ⟨some 56, none, .ld false 1 (.s 55)⟩,
    ⟨some 57, none, .bin .add (.s 52) (.s 56)⟩,
    ⟨some 7, none, .mv (.s 57)⟩] [] [0, 3, 4, 5, 7, 8])
def c3_3 : ACode :=
  (.region false [⟨some 50, none, .mv (.s 7)⟩,
    ⟨some 51, none, .bin .add (.s 50) (.c (.t (.str [32])))⟩,
    ⟨some 7, none, .mv (.s 51)⟩] [] [0, 3, 4, 5, 7, 8])
def c3_4 : ACode :=
  (.cond (.s 49) c3_3 .skip)
def c3_5 : ACode :=
  (.seq (.seq (.region false [⟨some 48, none, .mv (.s 8)⟩,
    ⟨some 49, none, .bin .gtr (.s 48) (.c (.t (.int .i64 0)))⟩] [] [0, 3, 4, 5, 7, 8, 49]) c3_4) c3_2)
def c3_6 : ACode :=
  (.seq (.region false [⟨some 2, none, .cst (.t (.bool false))⟩] [] [2]) .ret)
def c3_7 : ACode :=
  (.cond (.s 47) c3_6 .skip)
def c3_8 : ACode :=
  (.seq (.seq (.region true [⟨some 39, none, .mv (.s 3)⟩,
    ⟨some 40, none, .mv (.s 8)⟩,
    ⟨some 41, none, .ia 1 (.s 39) (.s 40)⟩,
    ⟨some 42, none, .ld false 1 (.s 41)⟩,
    ⟨some 43, none, .mv (.s 5)⟩,
    ⟨some 44, none, .mv (.s 8)⟩,
    ⟨some 45, none, .ia 1 (.s 43) (.s 44)⟩,
    ⟨some 46, none, .ld false 1 (.s 45)⟩,
    ⟨some 47, none, .bin .neq (.s 42) (.s 46)⟩] [[], [], [0, 1], [2], [], [], [4, 5], [6], [3, 7]] [0, 3, 4, 5, 7, 8, 47]) c3_7) c3_5)
def c3_9 : ACode :=
  (.seq (.block 1 c3_8) c3_1)
def c3_10 : ACode :=
  (.cond (.s 36) .skip (.exit 0))
def c3_11 : ACode :=
  (.seq (.seq (.region false [⟨some 33, none, .mv (.s 8)⟩,
    ⟨some 34, none, .mv (.s 3)⟩,
    ⟨some 35, none, .len (.s 34)⟩,
    ⟨some 36, none, .bin .lss (.s 33) (.s 35)⟩] [] [0, 3, 4, 5, 7, 8, 36]) c3_10) c3_9)
def c3_12 : ACode :=
  (.loop c3_11)
def c3_13 : ACode :=
  (.block 0 c3_12)
def c3_14 : ACode :=
  (.seq (.seq (.region false [⟨some 8, none, .cst (.t (.int .i64 0))⟩] [] [0, 3, 4, 5, 7, 8]) c3_13) c3_0)
def c3_15 : ACode :=
  (.seq (.region false [⟨some 7, none, .cst (.t (.str []))⟩] [] [0, 3, 4, 5, 7]) c3_14)
def c3_16 : ACode :=
  (.seq (.region false [⟨some 2, none, .cst (.t (.bool false))⟩] [] [2]) .ret)
def c3_17 : ACode :=
  (.cond (.s 32) c3_16 .skip)
def c3_18 : ACode :=
  (.seq (.seq (.region false [⟨some 23, none, .mv (.s 3)⟩,
    ⟨some 24, none, .len (.s 23)⟩,
    ⟨some 25, none, .mv (.s 5)⟩,
    ⟨some 26, none, .len (.s 25)⟩,
    ⟨some 27, none, .bin .neq (.s 24) (.s 26)⟩,
    ⟨some 28, none, .mv (.s 27)⟩,
    ⟨some 29, some (28, false), .mv (.s 4)⟩,
    ⟨some 30, some (28, false), .mv (.s 6)⟩,
    ⟨some 31, some (28, false), .bin .neq (.s 29) (.s 30)⟩,
    ⟨some 32, none, .pick (.s 28) (.c (.t (.bool true))) (.s 31)⟩] [] [0, 3, 4, 5, 32]) c3_17) c3_15)
def c3_19 : ACode :=
  (.seq (.region false [⟨some 19, none, .mv (.s 0)⟩,
    ⟨some 20, none, .call 14 [(.s 19)]⟩,
    ⟨some 18, none, .mv (.s 20)⟩,
    ⟨some 21, none, .ext (.s 18) 0⟩,
    ⟨some 22, none, .ext (.s 18) 1⟩,
    ⟨some 5, none, .mv (.s 21)⟩,
    ⟨some 6, none, .mv (.s 22)⟩] [] [0, 3, 4, 5, 6]) c3_18)
def c3_20 : ACode :=
  (.seq (.region false [⟨some 14, none, .mv (.s 0)⟩,
    ⟨some 15, none, .call 13 [(.s 14)]⟩,
    ⟨some 13, none, .mv (.s 15)⟩,
    ⟨some 16, none, .ext (.s 13) 0⟩,
    ⟨some 17, none, .ext (.s 13) 1⟩,
    ⟨some 3, none, .mv (.s 16)⟩,
    ⟨some 4, none, .mv (.s 17)⟩] [] [0, 3, 4]) c3_19)
def c3_21 : ACode :=
  (.seq (.region false [⟨some 12, none, .call 12 []⟩,
    ⟨some 2, none, .mv (.s 12)⟩] [] [2]) .ret)
def c3_22 : ACode :=
  (.cond (.s 11) c3_21 .skip)
def c3_23 : ACode :=
  (.seq (.seq (.region false [⟨some 9, none, .mv (.s 0)⟩,
    ⟨some 10, none, .lens (.s 9)⟩,
    ⟨some 11, none, .bin .gtr (.s 10) (.c (.t (.int .i64 1000)))⟩] [] [0, 11]) c3_22) c3_20)
def c3 : ACode :=
  (.seq (.region false [⟨some 2, none, .cst (.t (.bool false))⟩] [] [0]) c3_23)
def r3 : List ARes := [.tmp 2]
def n3 : Nat := 68
/- 4 supergraph supergraphlaw23.DirectivesCheck -/
def c4_0 : ACode :=
  (.seq (.region true [⟨some 6, none, .ld true 1 (.s 1)⟩,
    ⟨some 7, none, .call 17 [(.s 6)]⟩,
    ⟨some 8, none, .ld true 1 (.s 1)⟩,
    ⟨some 9, none, .call 18 [(.s 8)]⟩,
    ⟨some 10, none, .call 16 [(.s 7), (.s 9)]⟩,
    ⟨some 11, none, .mv (.s 10)⟩,
    ⟨some 12, some (11, true), .call 12 []⟩,
    ⟨some 13, none, .pick (.s 11) (.s 12) (.c (.t (.bool false)))⟩,
    ⟨some 2, none, .mv (.s 13)⟩] [[], [0], [], [2, 1], [1, 3, 3], [4, 4], [5, 5], [5, 6], [7, 6, 0, 1, 2, 3, 4, 5, 6, 7]] [2]) .ret)
def c4_1 : ACode :=
  (.seq (.region false [⟨some 5, none, .call 12 []⟩,
    ⟨some 2, none, .mv (.s 5)⟩] [] [2]) .ret)
def c4_2 : ACode :=
  (.cond (.s 4) c4_1 .skip)
def c4_3 : ACode :=
  (.seq (.seq (.region false [⟨some 3, none, .ld true 1 (.s 1)⟩,
    ⟨some 4, none, .call 15 [(.s 3)]⟩] [] [1, 4]) c4_2) c4_0)
def c4 : ACode :=
  (.seq (.region false [⟨some 1, none, .box 1 (.s 0)⟩,
    ⟨some 2, none, .cst (.t (.bool false))⟩] [] [1]) c4_3)
def r4 : List ARes := [.tmp 2]
def n4 : Nat := 14
/- 5 supergraph supergraphlaw23.DirectivesUnknown -/
def n5 : Nat := 111
/- 6 supergraph supergraphlaw23.DirectivesPublic -/
def c6_0 : ACode :=
  (.seq (.region false [⟨some 82, none, .ld true 1 (.s 8)⟩,
    ⟨some 83, none, .call 17 [(.s 82)]⟩,
    ⟨some 84, none, .len (.s 83)⟩,
    ⟨some 85, none, .bin .eql (.s 84) (.c (.t (.int .i64 0)))⟩,
    ⟨some 86, none, .mv (.s 85)⟩,
    ⟨some 87, some (86, true), .call 12 []⟩,
    ⟨some 88, none, .pick (.s 86) (.s 87) (.c (.t (.bool false)))⟩,
    ⟨some 4, none, .mv (.s 88)⟩] [] [4]) .ret)
def c6_1 : ACode :=
  (.region false [⟨some 69, none, .mv (.s 9)⟩,
    ⟨some 70, none, .bin .add (.s 69) (.c (.t (.int .i64 1)))⟩,
    ⟨some 9, none, .mv (.s 70)⟩] [] [2, 8, 9])
def c6_2 : ACode :=
  (.region true [⟨some 71, none, .fa 0 (.s 8)⟩,
    ⟨some 72, none, .ld false 1 (.s 71)⟩,
    ⟨some 73, none, .fa 0 (.s 2)⟩,
    ⟨some 74, none, .ld false 1 (.s 73)⟩,
    ⟨some 75, none, .mv (.s 9)⟩,
    ⟨some 76, none, .ia 7 (.s 74) (.s 75)⟩,
    ⟨some 77, none, .ld true 7 (.s 76)⟩,
    ⟨some 78, none, .call 22 [(.s 77)]⟩,
    ⟨some 79, none, .bsl false 7 [[.int .i64 0, .str [], .lst [], .lst [], .lst [], .lst [], .lst []]] [(0, (.s 78))]⟩,
    ⟨some 80, none, .app 7 144 (.s 72) (.s 79)⟩,
    ⟨some 81, none, .fa 0 (.s 8)⟩,
    ⟨none, none, .st 1 (.s 81) (.s 80)⟩] [[], [0], [], [2], [], [3, 4], [5], [6], [7], [1, 8, 7], [0, 1, 2, 3, 4, 5, 6, 7, 8, 9], [10, 9, 9, 0, 1, 2, 3, 4, 5, 6, 7, 8, 9]] [2, 8, 9])
def c6_3 : ACode :=
  (.seq (.block 3 c6_2) c6_1)
def c6_4 : ACode :=
  (.cond (.s 68) .skip (.exit 2))
def c6_5 : ACode :=
  (.seq (.seq (.region false [⟨some 64, none, .mv (.s 9)⟩,
    ⟨some 65, none, .fa 0 (.s 2)⟩,
    ⟨some 66, none, .ld false 1 (.s 65)⟩,
    ⟨some 67, none, .len (.s 66)⟩,
    ⟨some 68, none, .bin .lss (.s 64) (.s 67)⟩] [] [2, 8, 9, 68]) c6_4) c6_3)
def c6_6 : ACode :=
  (.loop c6_5)
def c6_7 : ACode :=
  (.block 2 c6_6)
def c6_8 : ACode :=
  (.seq (.seq (.region false [⟨some 9, none, .cst (.t (.int .i64 0))⟩] [] [2, 8, 9]) c6_7) c6_0)
def c6_9 : ACode :=
  (.seq (.region false [⟨some 8, none, .alloc [.nils]⟩] [] [2, 8]) c6_8)
def c6_10 : ACode :=
  (.seq (.region false [⟨some 63, none, .call 12 []⟩,
    ⟨some 4, none, .mv (.s 63)⟩] [] [4]) .ret)
def c6_11 : ACode :=
  (.cond (.s 62) c6_10 .skip)
def c6_12 : ACode :=
  (.seq (.seq (.region false [⟨some 59, none, .ld true 1 (.s 2)⟩,
    ⟨some 60, none, .call 17 [(.s 59)]⟩,
    ⟨some 61, none, .len (.s 60)⟩,
    ⟨some 62, none, .bin .gtr (.s 61) (.c (.t (.int .i64 0)))⟩] [] [2, 62]) c6_11) c6_9)
def c6_13 : ACode :=
  (.region false [⟨some 31, none, .mv (.s 7)⟩,
    ⟨some 32, none, .bin .add (.s 31) (.c (.t (.int .i64 1)))⟩,
    ⟨some 7, none, .mv (.s 32)⟩] [] [2, 5, 6, 7])
def c6_14 : ACode :=
  (.seq (.region false [⟨some 4, none, .cst (.t (.bool false))⟩] [] [4]) .ret)
def c6_15 : ACode :=
  (.cond (.s 58) c6_14 .skip)
def c6_16 : ACode :=
  (.seq (.region true [⟨some 33, none, .mv (.s 5)⟩,
    ⟨some 34, none, .mv (.s 7)⟩,
    ⟨some 35, none, .ia 2 (.s 33) (.s 34)⟩,
    ⟨some 36, none, .fa 0 (.s 35)⟩,
    ⟨some 37, none, .ld false 1 (.s 36)⟩,
    ⟨some 38, none, .mv (.s 6)⟩,
    ⟨some 39, none, .mv (.s 7)⟩,
    ⟨some 40, none, .ia 2 (.s 38) (.s 39)⟩,
    ⟨some 41, none, .fa 0 (.s 40)⟩,
    ⟨some 42, none, .ld false 1 (.s 41)⟩,
    ⟨some 43, none, .bin .neq (.s 37) (.s 42)⟩,
    ⟨some 44, none, .mv (.s 43)⟩,
    ⟨some 45, some (44, false), .mv (.s 5)⟩,
    ⟨some 46, some (44, false), .mv (.s 7)⟩,
    ⟨some 47, some (44, false), .ia 2 (.s 45) (.s 46)⟩,
    ⟨some 48, some (44, false), .fa 1 (.s 47)⟩,
    ⟨some 49, some (44, false), .ld false 1 (.s 48)⟩,
    ⟨some 50, some (44, false), .len (.s 49)⟩,
    ⟨some 51, some (44, false), .mv (.s 6)⟩,
    ⟨some 52, some (44, false), .mv (.s 7)⟩,
    ⟨some 53, some (44, false), .ia 2 (.s 51) (.s 52)⟩,
    ⟨some 54, some (44, false), .fa 1 (.s 53)⟩,
    ⟨some 55, some (44, false), .ld false 1 (.s 54)⟩,
    ⟨some 56, some (44, false), .len (.s 55)⟩,
    ⟨some 57, some (44, false), .bin .neq (.s 50) (.s 56)⟩,
    ⟨some 58, none, .pick (.s 44) (.c (.t (.bool true))) (.s 57)⟩] [[], [], [0, 1], [2], [3], [], [], [5, 6], [7], [8], [4, 9], [10], [11], [11], [12, 13, 11], [14, 11], [15, 11], [16, 11], [11], [11], [18, 19, 11], [20, 11], [21, 11], [22, 11], [17, 23, 11], [11, 24]] [2, 5, 6, 7, 58]) c6_15)
def c6_17 : ACode :=
  (.seq (.block 1 c6_16) c6_13)
def c6_18 : ACode :=
  (.cond (.s 30) .skip (.exit 0))
def c6_19 : ACode :=
  (.seq (.seq (.region false [⟨some 27, none, .mv (.s 7)⟩,
    ⟨some 28, none, .mv (.s 5)⟩,
    ⟨some 29, none, .len (.s 28)⟩,
    ⟨some 30, none, .bin .lss (.s 27) (.s 29)⟩] [] [2, 5, 6, 7, 30]) c6_18) c6_17)
def c6_20 : ACode :=
  (.loop c6_19)
def c6_21 : ACode :=
  (.block 0 c6_20)
def c6_22 : ACode :=
  (.seq (.seq (.region false [⟨some 7, none, .cst (.t (.int .i64 0))⟩] [] [2, 5, 6, 7]) c6_21) c6_12)
def c6_23 : ACode :=
  (.seq (.region false [⟨some 4, none, .cst (.t (.bool false))⟩] [] [4]) .ret)
def c6_24 : ACode :=
  (.cond (.s 26) c6_23 .skip)
def c6_25 : ACode :=
  (.seq (.seq (.region false [⟨some 22, none, .mv (.s 5)⟩,
    ⟨some 23, none, .len (.s 22)⟩,
    ⟨some 24, none, .mv (.s 6)⟩,
    ⟨some 25, none, .len (.s 24)⟩,
    ⟨some 26, none, .bin .neq (.s 23) (.s 25)⟩] [] [2, 5, 6, 26]) c6_24) c6_22)
def c6_26 : ACode :=
  (.seq (.region false [⟨some 18, none, .mv (.s 1)⟩,
    ⟨some 19, none, .call 20 [(.s 18)]⟩,
    ⟨some 20, none, .mv (.s 1)⟩,
    ⟨some 21, none, .call 21 [(.s 20)]⟩,
    ⟨some 5, none, .mv (.s 19)⟩,
    ⟨some 6, none, .mv (.s 21)⟩] [] [2, 5, 6]) c6_25)
def c6_27 : ACode :=
  (.seq (.region false [⟨some 17, none, .call 12 []⟩,
    ⟨some 4, none, .mv (.s 17)⟩] [] [4]) .ret)
def c6_28 : ACode :=
  (.cond (.s 16) c6_27 .skip)
def c6_29 : ACode :=
  (.seq (.seq (.region false [⟨some 10, none, .ld true 1 (.s 2)⟩,
    ⟨some 11, none, .call 15 [(.s 10)]⟩,
    ⟨some 12, none, .mv (.s 11)⟩,
    ⟨some 13, some (12, false), .mv (.s 1)⟩,
    ⟨some 14, some (12, false), .len (.s 13)⟩,
    ⟨some 15, some (12, false), .bin .gtr (.s 14) (.c (.t (.int .i64 60)))⟩,
    ⟨some 16, none, .pick (.s 12) (.c (.t (.bool true))) (.s 15)⟩] [] [1, 2, 16]) c6_28) c6_26)
def c6 : ACode :=
  (.seq (.region false [⟨some 2, none, .box 1 (.s 0)⟩,
    ⟨some 4, none, .cst (.t (.bool false))⟩] [] [1, 2]) c6_29)
def r6 : List ARes := [.tmp 4]
def n6 : Nat := 89
/- 7 supergraph supergraphlaw23.DirectivesFind -/
def n7 : Nat := 60
/- 8 supergraph supergraphlaw25.MovesSound -/
def n8 : Nat := 95
/- 9 supergraph supergraphlaw25.MovesOrder -/
def n9 : Nat := 67
/- 10 supergraph supergraphlaw25.MovesAlone -/
def n10 : Nat := 136
/- 11 supergraph supergraphlaw25.MovesFinds -/
def n11 : Nat := 96
/- 12 supergraph supergraphlaw23.exampleHolds -/
def c12_0 : ACode :=
  (.seq (.region false [⟨some 13, none, .mv (.s 2)⟩,
    ⟨some 14, none, .bin .eql (.s 13) (.c (.t (.int .i64 0)))⟩,
    ⟨some 15, none, .mv (.s 14)⟩,
    ⟨some 16, some (15, true), .mv (.s 1)⟩,
    ⟨some 17, some (15, true), .len (.s 16)⟩,
    ⟨some 18, some (15, true), .bin .eql (.s 17) (.c (.t (.int .i64 2)))⟩,
    ⟨some 19, none, .pick (.s 15) (.s 18) (.c (.t (.bool false)))⟩,
    ⟨some 20, none, .mv (.s 19)⟩,
    ⟨some 21, some (20, true), .mv (.s 1)⟩,
    ⟨some 22, some (20, true), .ia 1 (.s 21) (.c (.t (.int .i64 1)))⟩,
    ⟨some 23, some (20, true), .ld false 1 (.s 22)⟩,
    ⟨some 24, some (20, true), .bin .eql (.s 23) (.c (.t (.str [110, 97, 109, 101])))⟩,
    ⟨some 25, none, .pick (.s 20) (.s 24) (.c (.t (.bool false)))⟩,
    ⟨some 26, none, .mv (.s 25)⟩,
    ⟨some 27, some (26, true), .ld true 1 (.s 3)⟩,
    ⟨some 28, some (26, true), .call 17 [(.s 27)]⟩,
    ⟨some 29, some (26, true), .build [.t (.int .i64 0), .t (.str [])] [(0, 1, (.c (.t (.int .i64 29)))), (1, 1, (.c (.t (.str [84]))))]⟩,
    ⟨some 30, some (26, true), .bsl true 2 [[.int .i64 0, .str []]] [(0, (.s 29))]⟩,
    ⟨some 31, some (26, true), .call 16 [(.s 28), (.s 30)]⟩,
    ⟨some 32, none, .pick (.s 26) (.s 31) (.c (.t (.bool false)))⟩,
    ⟨some 33, none, .mv (.s 32)⟩,
    ⟨some 34, some (33, true), .build [.t (.str []), .nils] [(0, 1, (.c (.t (.str [98]))))]⟩,
    ⟨some 35, some (33, true), .bsl true 2 [[.str [], .lst []]] [(0, (.s 34))]⟩,
    ⟨some 36, some (33, true), .call 25 [(.s 35), (.c (.t (.str [98])))]⟩,
    ⟨some 37, none, .pick (.s 33) (.s 36) (.c (.t (.bool false)))⟩,
    ⟨some 0, none, .mv (.s 37)⟩] [] [0]) .ret)
def c12_1 : ACode :=
  (.seq (.region false [⟨some 8, none, .build [.t (.str []), .nils] [(0, 1, (.c (.t (.str [99, 111, 115, 116]))))]⟩,
    ⟨some 9, none, .bsl true 2 [[.str [], .lst []]] [(0, (.s 8))]⟩,
    ⟨some 10, none, .build [.t (.int .i64 0), .t (.str []), .nils, .nils, .nils, .nils, .nils] [(0, 1, (.c (.t (.int .i64 1)))), (1, 1, (.c (.t (.str [84])))), (3, 1, (.s 9))]⟩,
    ⟨some 11, none, .bsl true 7 [[.int .i64 0, .str [], .lst [], .lst [], .lst [], .lst [], .lst []]] [(0, (.s 10))]⟩,
    ⟨some 12, none, .build [.nils] [(0, 1, (.s 11))]⟩,
    ⟨some 3, none, .alloc [.nils]⟩,
    ⟨none, none, .st 1 (.s 3) (.s 12)⟩] [] [1, 2, 3]) c12_0)
def c12_2 : ACode :=
  (.seq (.region false [⟨some 5, none, .call 13 [(.c (.t (.str [105, 100, 32, 110, 97, 109, 101])))]⟩,
    ⟨some 4, none, .mv (.s 5)⟩,
    ⟨some 6, none, .ext (.s 4) 0⟩,
    ⟨some 7, none, .ext (.s 4) 1⟩,
    ⟨some 1, none, .mv (.s 6)⟩,
    ⟨some 2, none, .mv (.s 7)⟩] [] [1, 2]) c12_1)
def c12 : ACode :=
  (.seq (.region false [⟨some 0, none, .cst (.t (.bool false))⟩] [] []) c12_2)
def r12 : List ARes := [.tmp 0]
def n12 : Nat := 38
/- 13 supergraph directives.Set -/
def c13_0 : ACode :=
  (.seq (.region false [⟨some 48, none, .mv (.s 4)⟩,
    ⟨some 2, none, .mv (.s 48)⟩,
    ⟨some 3, none, .cst (.t (.int .i64 0))⟩] [] [2, 3]) .ret)
def c13_1 : ACode :=
  (.region false [⟨some 47, none, .bin .add (.s 30) (.c (.t (.int .i64 1)))⟩,
    ⟨some 30, none, .mv (.s 47)⟩] [] [4, 29, 30])
def c13_2 : ACode :=
  (.region false [⟨some 46, none, .bin .add (.s 34) (.c (.t (.int .i64 1)))⟩,
    ⟨some 34, none, .mv (.s 46)⟩] [] [4, 7, 29, 30, 33, 34])
def c13_3 : ACode :=
  (.seq (.region false [⟨some 2, none, .cst (.nils)⟩,
    ⟨some 3, none, .cst (.t (.int .i64 7))⟩] [] [2, 3]) .ret)
def c13_4 : ACode :=
  (.cond (.s 45) c13_3 .skip)
def c13_5 : ACode :=
  (.seq (.region true [⟨some 37, none, .mv (.s 4)⟩,
    ⟨some 38, none, .mv (.s 7)⟩,
    ⟨some 39, none, .ia 1 (.s 37) (.s 38)⟩,
    ⟨some 40, none, .ld false 1 (.s 39)⟩,
    ⟨some 41, none, .mv (.s 4)⟩,
    ⟨some 42, none, .mv (.s 8)⟩,
    ⟨some 43, none, .ia 1 (.s 41) (.s 42)⟩,
    ⟨some 44, none, .ld false 1 (.s 43)⟩,
    ⟨some 45, none, .bin .eql (.s 40) (.s 44)⟩] [[], [], [0, 1], [2], [], [], [4, 5], [6], [3, 7]] [4, 7, 29, 30, 33, 34, 45]) c13_4)
def c13_6 : ACode :=
  (.seq (.region false [⟨some 36, none, .mv (.s 34)⟩,
    ⟨some 8, none, .mv (.s 36)⟩] [] [4, 7, 8, 29, 30, 33, 34]) c13_5)
def c13_7 : ACode :=
  (.seq (.block 5 c13_6) c13_2)
def c13_8 : ACode :=
  (.seq (.cond (.s 35) .skip (.exit 4)) c13_7)
def c13_9 : ACode :=
  (.seq (.region false [⟨some 35, none, .bin .lss (.s 34) (.s 33)⟩] [] [4, 7, 29, 30, 33, 34, 35]) c13_8)
def c13_10 : ACode :=
  (.loop c13_9)
def c13_11 : ACode :=
  (.block 4 c13_10)
def c13_12 : ACode :=
  (.seq (.region false [⟨some 33, none, .mv (.s 7)⟩,
    ⟨some 34, none, .cst (.t (.int .i64 0))⟩] [] [4, 7, 29, 30, 33, 34]) c13_11)
def c13_13 : ACode :=
  (.seq (.region false [⟨some 32, none, .mv (.s 30)⟩,
    ⟨some 7, none, .mv (.s 32)⟩] [] [4, 7, 29, 30]) c13_12)
def c13_14 : ACode :=
  (.seq (.block 3 c13_13) c13_1)
def c13_15 : ACode :=
  (.seq (.cond (.s 31) .skip (.exit 2)) c13_14)
def c13_16 : ACode :=
  (.seq (.region false [⟨some 31, none, .bin .lss (.s 30) (.s 29)⟩] [] [4, 29, 30, 31]) c13_15)
def c13_17 : ACode :=
  (.loop c13_16)
def c13_18 : ACode :=
  (.block 2 c13_17)
def c13_19 : ACode :=
  (.seq (.seq (.region false [⟨some 28, none, .mv (.s 4)⟩,
    ⟨some 29, none, .len (.s 28)⟩,
    ⟨some 30, none, .cst (.t (.int .i64 0))⟩] [] [4, 29, 30]) c13_18) c13_0)
def c13_20 : ACode :=
  (.seq (.region false [⟨some 2, none, .cst (.nils)⟩,
    ⟨some 3, none, .cst (.t (.int .i64 4))⟩] [] [2, 3]) .ret)
def c13_21 : ACode :=
  (.cond (.s 27) c13_20 .skip)
def c13_22 : ACode :=
  (.seq (.seq (.region false [⟨some 25, none, .mv (.s 4)⟩,
    ⟨some 26, none, .len (.s 25)⟩,
    ⟨some 27, none, .bin .gtr (.s 26) (.c (.t (.int .i64 4)))⟩] [] [4, 27]) c13_21) c13_19)
def c13_23 : ACode :=
  (.region false [⟨some 24, none, .bin .add (.s 13) (.c (.t (.int .i64 1)))⟩,
    ⟨some 13, none, .mv (.s 24)⟩] [] [4, 11, 12, 13])
def c13_24 : ACode :=
  (.seq (.region false [⟨some 2, none, .cst (.nils)⟩,
    ⟨some 3, none, .cst (.t (.int .i64 3))⟩] [] [2, 3]) .ret)
def c13_25 : ACode :=
  (.cond (.s 23) c13_24 .skip)
def c13_26 : ACode :=
  (.seq (.region false [⟨some 17, none, .mv (.s 6)⟩,
    ⟨some 18, none, .call 47 [(.s 17)]⟩,
    ⟨some 19, none, .un .not (.s 18)⟩,
    ⟨some 20, none, .mv (.s 19)⟩,
    ⟨some 21, some (20, false), .mv (.s 6)⟩,
    ⟨some 22, some (20, false), .call 48 [(.s 21)]⟩,
    ⟨some 23, none, .pick (.s 20) (.c (.t (.bool true))) (.s 22)⟩] [] [4, 11, 12, 13, 23]) c13_25)
def c13_27 : ACode :=
  (.seq (.region false [⟨some 15, none, .ia 1 (.s 11) (.s 13)⟩,
    ⟨some 16, none, .ld false 1 (.s 15)⟩,
    ⟨some 6, none, .mv (.s 16)⟩] [] [4, 6, 11, 12, 13]) c13_26)
def c13_28 : ACode :=
  (.seq (.block 1 c13_27) c13_23)
def c13_29 : ACode :=
  (.seq (.cond (.s 14) .skip (.exit 0)) c13_28)
def c13_30 : ACode :=
  (.seq (.region false [⟨some 14, none, .bin .lss (.s 13) (.s 12)⟩] [] [4, 11, 12, 13, 14]) c13_29)
def c13_31 : ACode :=
  (.loop c13_30)
def c13_32 : ACode :=
  (.block 0 c13_31)
def c13_33 : ACode :=
  (.seq (.seq (.region false [⟨some 11, none, .mv (.s 4)⟩,
    ⟨some 12, none, .len (.s 11)⟩,
    ⟨some 13, none, .cst (.t (.int .i64 0))⟩] [] [4, 11, 12, 13]) c13_32) c13_22)
def c13_34 : ACode :=
  (.seq (.region false [⟨some 9, none, .mv (.s 0)⟩,
    ⟨some 10, none, .call 46 [(.s 9), (.c (.t (.str [32])))]⟩,
    ⟨some 4, none, .mv (.s 10)⟩] [] [4]) c13_33)
def c13 : ACode :=
  (.seq (.region false [⟨some 2, none, .cst (.nils)⟩,
    ⟨some 3, none, .cst (.t (.int .i64 0))⟩] [] [0]) c13_34)
def r13 : List ARes := [.tmp 2, .tmp 3]
def n13 : Nat := 49
/- 14 supergraph supergraphref23.Set -/
/- 15 supergraph supergraphref10.Large -/
def c15_0 : ACode :=
  (.seq (.region false [⟨some 69, none, .mv (.s 3)⟩,
    ⟨some 70, none, .bin .gtr (.s 69) (.c (.t (.int .i64 1000)))⟩,
    ⟨some 2, none, .mv (.s 70)⟩] [] [2]) .ret)
def c15_1 : ACode :=
  (.region false [⟨some 16, none, .mv (.s 4)⟩,
    ⟨some 17, none, .bin .add (.s 16) (.c (.t (.int .i64 1)))⟩,
    ⟨some 4, none, .mv (.s 17)⟩] [] [1, 3, 4])
def c15_2 : ACode :=
  (.region false [⟨some 50, none, .mv (.s 6)⟩,
    ⟨some 51, none, .bin .add (.s 50) (.c (.t (.int .i64 1)))⟩,
    ⟨some 6, none, .mv (.s 51)⟩] [] [1, 3, 4, 5, 6])
def c15_3 : ACode :=
  (.region true [⟨some 52, none, .mv (.s 3)⟩,
    ⟨some 53, none, .fa 4 (.s 5)⟩,
    ⟨some 54, none, .ld false 1 (.s 53)⟩,
    ⟨some 55, none, .mv (.s 6)⟩,
    ⟨some 56, none, .ia 5 (.s 54) (.s 55)⟩,
    ⟨some 57, none, .fa 1 (.s 56)⟩,
    ⟨some 58, none, .ld false 1 (.s 57)⟩,
    ⟨some 59, none, .len (.s 58)⟩,
    ⟨some 60, none, .fa 4 (.s 5)⟩,
    ⟨some 61, none, .ld false 1 (.s 60)⟩,
    ⟨some 62, none, .mv (.s 6)⟩,
    ⟨some 63, none, .ia 5 (.s 61) (.s 62)⟩,
    ⟨some 64, none, .fa 4 (.s 63)⟩,
    ⟨some 65, none, .ld false 1 (.s 64)⟩,
    ⟨some 66, none, .len (.s 65)⟩,
    ⟨some 67, none, .bin .add (.s 59) (.s 66)⟩,
    ⟨some 68, none, .bin .add (.s 52) (.s 67)⟩,
    ⟨some 3, none, .mv (.s 68)⟩] [[], [], [1], [], [2, 3], [4], [5], [6], [], [8], [], [9, 10], [11], [12], [13], [7, 14], [0, 15], [16, 0, 1, 2, 3, 4, 5, 6, 7, 8, 9, 10, 11, 12, 13, 14, 15, 16]] [1, 3, 4, 5, 6])
def c15_4 : ACode :=
  (.seq (.block 3 c15_3) c15_2)
def c15_5 : ACode :=
  (.cond (.s 49) .skip (.exit 2))
def c15_6 : ACode :=
  (.seq (.seq (.region false [⟨some 45, none, .mv (.s 6)⟩,
    ⟨some 46, none, .fa 4 (.s 5)⟩,
    ⟨some 47, none, .ld false 1 (.s 46)⟩,
    ⟨some 48, none, .len (.s 47)⟩,
    ⟨some 49, none, .bin .lss (.s 45) (.s 48)⟩] [] [1, 3, 4, 5, 6, 49]) c15_5) c15_4)
def c15_7 : ACode :=
  (.loop c15_6)
def c15_8 : ACode :=
  (.block 2 c15_7)
def c15_9 : ACode :=
  (.seq (.region false [⟨some 6, none, .cst (.t (.int .i64 0))⟩] [] [1, 3, 4, 5, 6]) c15_8)
def c15_10 : ACode :=
  (.seq (.region false [⟨some 23, none, .mv (.s 3)⟩,
    ⟨some 24, none, .fa 4 (.s 5)⟩,
    ⟨some 25, none, .ld false 1 (.s 24)⟩,
    ⟨some 26, none, .len (.s 25)⟩,
    ⟨some 27, none, .bin .add (.c (.t (.int .i64 1))) (.s 26)⟩,
    ⟨some 28, none, .fa 5 (.s 5)⟩,
    ⟨some 29, none, .ld false 1 (.s 28)⟩,
    ⟨some 30, none, .len (.s 29)⟩,
    ⟨some 31, none, .bin .add (.s 27) (.s 30)⟩,
    ⟨some 32, none, .fa 6 (.s 5)⟩,
    ⟨some 33, none, .ld false 1 (.s 32)⟩,
    ⟨some 34, none, .len (.s 33)⟩,
    ⟨some 35, none, .bin .add (.s 31) (.s 34)⟩,
    ⟨some 36, none, .fa 3 (.s 5)⟩,
    ⟨some 37, none, .ld false 1 (.s 36)⟩,
    ⟨some 38, none, .len (.s 37)⟩,
    ⟨some 39, none, .bin .add (.s 35) (.s 38)⟩,
    ⟨some 40, none, .fa 2 (.s 5)⟩,
    ⟨some 41, none, .ld false 1 (.s 40)⟩,
    ⟨some 42, none, .len (.s 41)⟩,
    ⟨some 43, none, .bin .add (.s 39) (.s 42)⟩,
    ⟨some 44, none, .bin .add (.s 23) (.s 43)⟩,
    ⟨some 3, none, .mv (.s 44)⟩] [] [1, 3, 4, 5]) c15_9)
def c15_11 : ACode :=
  (.seq (.region false [⟨some 18, none, .fa 0 (.s 1)⟩,
    ⟨some 19, none, .ld false 1 (.s 18)⟩,
    ⟨some 20, none, .mv (.s 4)⟩,
    ⟨some 21, none, .ia 7 (.s 19) (.s 20)⟩,
    ⟨some 22, none, .ld true 7 (.s 21)⟩,
    ⟨some 5, none, .alloc [.t (.int .i64 0), .t (.str []), .nils, .nils, .nils, .nils, .nils]⟩,
    ⟨none, none, .st 7 (.s 5) (.s 22)⟩] [] [1, 3, 4, 5]) c15_10)
def c15_12 : ACode :=
  (.seq (.block 1 c15_11) c15_1)
def c15_13 : ACode :=
  (.cond (.s 15) .skip (.exit 0))
def c15_14 : ACode :=
  (.seq (.seq (.region false [⟨some 11, none, .mv (.s 4)⟩,
    ⟨some 12, none, .fa 0 (.s 1)⟩,
    ⟨some 13, none, .ld false 1 (.s 12)⟩,
    ⟨some 14, none, .len (.s 13)⟩,
    ⟨some 15, none, .bin .lss (.s 11) (.s 14)⟩] [] [1, 3, 4, 15]) c15_13) c15_12)
def c15_15 : ACode :=
  (.loop c15_14)
def c15_16 : ACode :=
  (.block 0 c15_15)
def c15_17 : ACode :=
  (.seq (.seq (.region false [⟨some 4, none, .cst (.t (.int .i64 0))⟩] [] [1, 3, 4]) c15_16) c15_0)
def c15_18 : ACode :=
  (.seq (.region false [⟨some 3, none, .cst (.t (.int .i64 0))⟩] [] [1, 3]) c15_17)
def c15_19 : ACode :=
  (.seq (.region false [⟨some 2, none, .cst (.t (.bool true))⟩] [] [2]) .ret)
def c15_20 : ACode :=
  (.cond (.s 10) c15_19 .skip)
def c15_21 : ACode :=
  (.seq (.seq (.region false [⟨some 7, none, .fa 0 (.s 1)⟩,
    ⟨some 8, none, .ld false 1 (.s 7)⟩,
    ⟨some 9, none, .len (.s 8)⟩,
    ⟨some 10, none, .bin .gtr (.s 9) (.c (.t (.int .i64 70)))⟩] [] [1, 10]) c15_20) c15_18)
def c15 : ACode :=
  (.seq (.region false [⟨some 1, none, .box 1 (.s 0)⟩,
    ⟨some 2, none, .cst (.t (.bool false))⟩] [] [1]) c15_21)
def r15 : List ARes := [.tmp 2]
def n15 : Nat := 71
/- 16 supergraph supergraphref10.Faults -/
def c16_0 : ACode :=
  (.seq (.region false [⟨some 4, none, .cst (.t (.bool true))⟩] [] [4]) .ret)
def c16_1 : ACode :=
  (.region false [⟨some 15, none, .mv (.s 5)⟩,
    ⟨some 16, none, .bin .add (.s 15) (.c (.t (.int .i64 1)))⟩,
    ⟨some 5, none, .mv (.s 16)⟩] [] [0, 1, 5])
def c16_2 : ACode :=
  (.seq (.region false [⟨some 4, none, .cst (.t (.bool false))⟩] [] [4]) .ret)
def c16_3 : ACode :=
  (.cond (.s 25) c16_2 .skip)
def c16_4 : ACode :=
  (.seq (.region true [⟨some 17, none, .mv (.s 0)⟩,
    ⟨some 18, none, .mv (.s 5)⟩,
    ⟨some 19, none, .ia 2 (.s 17) (.s 18)⟩,
    ⟨some 20, none, .ld true 2 (.s 19)⟩,
    ⟨some 21, none, .mv (.s 1)⟩,
    ⟨some 22, none, .mv (.s 5)⟩,
    ⟨some 23, none, .ia 2 (.s 21) (.s 22)⟩,
    ⟨some 24, none, .ld true 2 (.s 23)⟩,
    ⟨some 25, none, .nw (.eqst true [.int .i64, .str] (.s 20) (.s 24))⟩] [[], [], [0, 1], [2], [], [], [4, 5], [6], [3, 7]] [0, 1, 5, 25]) c16_3)
def c16_5 : ACode :=
  (.seq (.block 1 c16_4) c16_1)
def c16_6 : ACode :=
  (.cond (.s 14) .skip (.exit 0))
def c16_7 : ACode :=
  (.seq (.seq (.region false [⟨some 11, none, .mv (.s 5)⟩,
    ⟨some 12, none, .mv (.s 0)⟩,
    ⟨some 13, none, .len (.s 12)⟩,
    ⟨some 14, none, .bin .lss (.s 11) (.s 13)⟩] [] [0, 1, 5, 14]) c16_6) c16_5)
def c16_8 : ACode :=
  (.loop c16_7)
def c16_9 : ACode :=
  (.block 0 c16_8)
def c16_10 : ACode :=
  (.seq (.seq (.region false [⟨some 5, none, .cst (.t (.int .i64 0))⟩] [] [0, 1, 5]) c16_9) c16_0)
def c16_11 : ACode :=
  (.seq (.region false [⟨some 4, none, .cst (.t (.bool false))⟩] [] [4]) .ret)
def c16_12 : ACode :=
  (.cond (.s 10) c16_11 .skip)
def c16_13 : ACode :=
  (.seq (.seq (.region false [⟨some 6, none, .mv (.s 0)⟩,
    ⟨some 7, none, .len (.s 6)⟩,
    ⟨some 8, none, .mv (.s 1)⟩,
    ⟨some 9, none, .len (.s 8)⟩,
    ⟨some 10, none, .bin .neq (.s 7) (.s 9)⟩] [] [0, 1, 10]) c16_12) c16_10)
def c16 : ACode :=
  (.seq (.region false [⟨some 4, none, .cst (.t (.bool false))⟩] [] [0, 1]) c16_13)
def r16 : List ARes := [.tmp 4]
def n16 : Nat := 26
/- 17 supergraph directives.Check -/
def c17_0 : ACode :=
  (.seq (.region false [⟨some 125, none, .mv (.s 3)⟩,
    ⟨some 2, none, .mv (.s 125)⟩] [] [2]) .ret)
def c17_1 : ACode :=
  (.region false [⟨some 124, none, .bin .add (.s 20) (.c (.t (.int .i64 1)))⟩,
    ⟨some 20, none, .mv (.s 124)⟩] [] [3, 18, 19, 20])
def c17_2 : ACode :=
  (.region false [⟨some 81, none, .bin .add (.s 47) (.c (.t (.int .i64 1)))⟩,
    ⟨some 47, none, .mv (.s 81)⟩] [] [3, 5, 7, 18, 19, 20, 45, 46, 47])
def c17_3 : ACode :=
  (.region false [⟨some 80, none, .bin .add (.s 66) (.c (.t (.int .i64 1)))⟩,
    ⟨some 66, none, .mv (.s 80)⟩] [] [3, 5, 7, 10, 18, 19, 20, 45, 46, 47, 64, 65, 66])
def c17_4 : ACode :=
  (.region false [⟨some 70, none, .mv (.s 3)⟩,
    ⟨some 71, none, .fa 9 (.s 12)⟩,
    ⟨some 72, none, .ld false 1 (.s 71)⟩,
    ⟨some 73, none, .mv (.s 10)⟩,
    ⟨some 74, none, .bin .add (.s 73) (.c (.t (.str [40])))⟩,
    ⟨some 75, none, .fa 0 (.s 12)⟩,
    ⟨some 76, none, .ld false 1 (.s 75)⟩,
    ⟨some 77, none, .bin .add (.s 74) (.s 76)⟩,
    ⟨some 78, none, .bin .add (.s 77) (.c (.t (.str [41])))⟩,
    ⟨some 79, none, .call 52 [(.s 70), (.s 72), (.c (.t (.int .i64 0))), (.s 78)]⟩,
    ⟨some 3, none, .mv (.s 79)⟩] [] [3, 5, 7, 10, 18, 19, 20, 45, 46, 47, 64, 65, 66])
def c17_5 : ACode :=
  (.seq (.region false [⟨some 68, none, .ia 10 (.s 64) (.s 66)⟩,
    ⟨some 69, none, .ld true 10 (.s 68)⟩,
    ⟨some 12, none, .alloc [.t (.str []), .t (.str []), .nils, .t (.bool false), .t (.int .i64 0), .t (.int .i64 0), .t (.str []), .nils, .nils, .nils]⟩,
    ⟨none, none, .st 10 (.s 12) (.s 69)⟩] [] [3, 5, 7, 10, 12, 18, 19, 20, 45, 46, 47, 64, 65, 66]) c17_4)
def c17_6 : ACode :=
  (.seq (.block 7 c17_5) c17_3)
def c17_7 : ACode :=
  (.seq (.cond (.s 67) .skip (.exit 6)) c17_6)
def c17_8 : ACode :=
  (.seq (.region false [⟨some 67, none, .bin .lss (.s 66) (.s 65)⟩] [] [3, 5, 7, 10, 18, 19, 20, 45, 46, 47, 64, 65, 66, 67]) c17_7)
def c17_9 : ACode :=
  (.loop c17_8)
def c17_10 : ACode :=
  (.block 6 c17_9)
def c17_11 : ACode :=
  (.seq (.region false [⟨some 63, none, .fa 1 (.s 9)⟩,
    ⟨some 64, none, .ld false 1 (.s 63)⟩,
    ⟨some 65, none, .len (.s 64)⟩,
    ⟨some 66, none, .cst (.t (.int .i64 0))⟩] [] [3, 5, 7, 10, 18, 19, 20, 45, 46, 47, 64, 65, 66]) c17_10)
def c17_12 : ACode :=
  (.seq (.region false [⟨some 57, none, .mv (.s 3)⟩,
    ⟨some 58, none, .fa 4 (.s 9)⟩,
    ⟨some 59, none, .ld false 1 (.s 58)⟩,
    ⟨some 60, none, .mv (.s 7)⟩,
    ⟨some 61, none, .mv (.s 10)⟩,
    ⟨some 62, none, .call 52 [(.s 57), (.s 59), (.s 60), (.s 61)]⟩,
    ⟨some 3, none, .mv (.s 62)⟩] [] [3, 5, 7, 9, 10, 18, 19, 20, 45, 46, 47]) c17_11)
def c17_13 : ACode :=
  (.seq (.region false [⟨some 51, none, .fa 1 (.s 5)⟩,
    ⟨some 52, none, .ld false 1 (.s 51)⟩,
    ⟨some 53, none, .bin .add (.s 52) (.c (.t (.str [46])))⟩,
    ⟨some 54, none, .fa 0 (.s 9)⟩,
    ⟨some 55, none, .ld false 1 (.s 54)⟩,
    ⟨some 56, none, .bin .add (.s 53) (.s 55)⟩,
    ⟨some 10, none, .mv (.s 56)⟩] [] [3, 5, 7, 9, 10, 18, 19, 20, 45, 46, 47]) c17_12)
def c17_14 : ACode :=
  (.seq (.region false [⟨some 49, none, .ia 5 (.s 45) (.s 47)⟩,
    ⟨some 50, none, .ld true 5 (.s 49)⟩,
    ⟨some 9, none, .alloc [.t (.str []), .nils, .t (.str []), .nils, .nils]⟩,
    ⟨none, none, .st 5 (.s 9) (.s 50)⟩] [] [3, 5, 7, 9, 18, 19, 20, 45, 46, 47]) c17_13)
def c17_15 : ACode :=
  (.seq (.block 5 c17_14) c17_2)
def c17_16 : ACode :=
  (.seq (.cond (.s 48) .skip (.exit 4)) c17_15)
def c17_17 : ACode :=
  (.seq (.region false [⟨some 48, none, .bin .lss (.s 47) (.s 46)⟩] [] [3, 5, 7, 18, 19, 20, 45, 46, 47, 48]) c17_16)
def c17_18 : ACode :=
  (.loop c17_17)
def c17_19 : ACode :=
  (.block 4 c17_18)
def c17_20 : ACode :=
  (.seq (.region false [⟨some 44, none, .fa 4 (.s 5)⟩,
    ⟨some 45, none, .ld false 1 (.s 44)⟩,
    ⟨some 46, none, .len (.s 45)⟩,
    ⟨some 47, none, .cst (.t (.int .i64 0))⟩] [] [3, 5, 7, 18, 19, 20, 45, 46, 47]) c17_19)
def c17_21 : ACode :=
  (.region false [⟨some 103, none, .bin .add (.s 88) (.c (.t (.int .i64 1)))⟩,
    ⟨some 88, none, .mv (.s 103)⟩] [] [3, 5, 7, 18, 19, 20, 86, 87, 88])
def c17_22 : ACode :=
  (.region false [⟨some 92, none, .mv (.s 3)⟩,
    ⟨some 93, none, .fa 1 (.s 14)⟩,
    ⟨some 94, none, .ld false 1 (.s 93)⟩,
    ⟨some 95, none, .mv (.s 7)⟩,
    ⟨some 96, none, .fa 1 (.s 5)⟩,
    ⟨some 97, none, .ld false 1 (.s 96)⟩,
    ⟨some 98, none, .bin .add (.s 97) (.c (.t (.str [46])))⟩,
    ⟨some 99, none, .fa 0 (.s 14)⟩,
    ⟨some 100, none, .ld false 1 (.s 99)⟩,
    ⟨some 101, none, .bin .add (.s 98) (.s 100)⟩,
    ⟨some 102, none, .call 52 [(.s 92), (.s 94), (.s 95), (.s 101)]⟩,
    ⟨some 3, none, .mv (.s 102)⟩] [] [3, 5, 7, 18, 19, 20, 86, 87, 88])
def c17_23 : ACode :=
  (.seq (.region false [⟨some 90, none, .ia 2 (.s 86) (.s 88)⟩,
    ⟨some 91, none, .ld true 2 (.s 90)⟩,
    ⟨some 14, none, .alloc [.t (.str []), .nils]⟩,
    ⟨none, none, .st 2 (.s 14) (.s 91)⟩] [] [3, 5, 7, 14, 18, 19, 20, 86, 87, 88]) c17_22)
def c17_24 : ACode :=
  (.seq (.block 9 c17_23) c17_21)
def c17_25 : ACode :=
  (.seq (.cond (.s 89) .skip (.exit 8)) c17_24)
def c17_26 : ACode :=
  (.seq (.region false [⟨some 89, none, .bin .lss (.s 88) (.s 87)⟩] [] [3, 5, 7, 18, 19, 20, 86, 87, 88, 89]) c17_25)
def c17_27 : ACode :=
  (.loop c17_26)
def c17_28 : ACode :=
  (.block 8 c17_27)
def c17_29 : ACode :=
  (.seq (.region false [⟨some 85, none, .fa 5 (.s 5)⟩,
    ⟨some 86, none, .ld false 1 (.s 85)⟩,
    ⟨some 87, none, .len (.s 86)⟩,
    ⟨some 88, none, .cst (.t (.int .i64 0))⟩] [] [3, 5, 7, 18, 19, 20, 86, 87, 88]) c17_28)
def c17_30 : ACode :=
  (.region false [⟨some 123, none, .bin .add (.s 109) (.c (.t (.int .i64 1)))⟩,
    ⟨some 109, none, .mv (.s 123)⟩] [] [3, 5, 18, 19, 20, 107, 108, 109])
def c17_31 : ACode :=
  (.region false [⟨some 113, none, .mv (.s 3)⟩,
    ⟨some 114, none, .fa 9 (.s 16)⟩,
    ⟨some 115, none, .ld false 1 (.s 114)⟩,
    ⟨some 116, none, .fa 1 (.s 5)⟩,
    ⟨some 117, none, .ld false 1 (.s 116)⟩,
    ⟨some 118, none, .bin .add (.s 117) (.c (.t (.str [46])))⟩,
    ⟨some 119, none, .fa 0 (.s 16)⟩,
    ⟨some 120, none, .ld false 1 (.s 119)⟩,
    ⟨some 121, none, .bin .add (.s 118) (.s 120)⟩,
    ⟨some 122, none, .call 52 [(.s 113), (.s 115), (.c (.t (.int .i64 0))), (.s 121)]⟩,
    ⟨some 3, none, .mv (.s 122)⟩] [] [3, 5, 18, 19, 20, 107, 108, 109])
def c17_32 : ACode :=
  (.seq (.region false [⟨some 111, none, .ia 10 (.s 107) (.s 109)⟩,
    ⟨some 112, none, .ld true 10 (.s 111)⟩,
    ⟨some 16, none, .alloc [.t (.str []), .t (.str []), .nils, .t (.bool false), .t (.int .i64 0), .t (.int .i64 0), .t (.str []), .nils, .nils, .nils]⟩,
    ⟨none, none, .st 10 (.s 16) (.s 112)⟩] [] [3, 5, 16, 18, 19, 20, 107, 108, 109]) c17_31)
def c17_33 : ACode :=
  (.seq (.block 11 c17_32) c17_30)
def c17_34 : ACode :=
  (.seq (.cond (.s 110) .skip (.exit 10)) c17_33)
def c17_35 : ACode :=
  (.seq (.region false [⟨some 110, none, .bin .lss (.s 109) (.s 108)⟩] [] [3, 5, 18, 19, 20, 107, 108, 109, 110]) c17_34)
def c17_36 : ACode :=
  (.loop c17_35)
def c17_37 : ACode :=
  (.block 10 c17_36)
def c17_38 : ACode :=
  (.seq (.region false [⟨some 106, none, .fa 6 (.s 5)⟩,
    ⟨some 107, none, .ld false 1 (.s 106)⟩,
    ⟨some 108, none, .len (.s 107)⟩,
    ⟨some 109, none, .cst (.t (.int .i64 0))⟩] [] [3, 5, 18, 19, 20, 107, 108, 109]) c17_37)
def c17_39 : ACode :=
  (.cond (.s 104) c17_38 .skip)
def c17_40 : ACode :=
  (.seq (.region false [⟨some 105, none, .bin .eql (.s 40) (.c (.t (.int .i64 5)))⟩,
    ⟨some 104, none, .mv (.s 105)⟩] [] [3, 5, 18, 19, 20, 104]) c17_39)
def c17_41 : ACode :=
  (.cond (.s 82) c17_29 c17_40)
def c17_42 : ACode :=
  (.region false [⟨some 84, none, .bin .eql (.s 40) (.c (.t (.int .i64 4)))⟩,
    ⟨some 82, none, .mv (.s 84)⟩] [] [3, 5, 7, 18, 19, 20, 40, 82])
def c17_43 : ACode :=
  (.cond (.s 82) .skip c17_42)
def c17_44 : ACode :=
  (.seq (.seq (.region false [⟨some 83, none, .bin .eql (.s 40) (.c (.t (.int .i64 3)))⟩,
    ⟨some 82, none, .mv (.s 83)⟩] [] [3, 5, 7, 18, 19, 20, 40, 82]) c17_43) c17_41)
def c17_45 : ACode :=
  (.cond (.s 41) c17_20 c17_44)
def c17_46 : ACode :=
  (.region false [⟨some 43, none, .bin .eql (.s 40) (.c (.t (.int .i64 2)))⟩,
    ⟨some 41, none, .mv (.s 43)⟩] [] [3, 5, 7, 18, 19, 20, 40, 41])
def c17_47 : ACode :=
  (.cond (.s 41) .skip c17_46)
def c17_48 : ACode :=
  (.seq (.seq (.region false [⟨some 42, none, .bin .eql (.s 40) (.c (.t (.int .i64 1)))⟩,
    ⟨some 41, none, .mv (.s 42)⟩] [] [3, 5, 7, 18, 19, 20, 40, 41]) c17_47) c17_45)
def c17_49 : ACode :=
  (.block 3 c17_48)
def c17_50 : ACode :=
  (.seq (.region false [⟨some 39, none, .fa 0 (.s 5)⟩,
    ⟨some 40, none, .ld false 1 (.s 39)⟩] [] [3, 5, 7, 18, 19, 20, 40]) c17_49)
def c17_51 : ACode :=
  (.seq (.region false [⟨some 32, none, .mv (.s 3)⟩,
    ⟨some 33, none, .fa 3 (.s 5)⟩,
    ⟨some 34, none, .ld false 1 (.s 33)⟩,
    ⟨some 35, none, .mv (.s 6)⟩,
    ⟨some 36, none, .fa 1 (.s 5)⟩,
    ⟨some 37, none, .ld false 1 (.s 36)⟩,
    ⟨some 38, none, .call 52 [(.s 32), (.s 34), (.s 35), (.s 37)]⟩,
    ⟨some 3, none, .mv (.s 38)⟩] [] [3, 5, 7, 18, 19, 20]) c17_50)
def c17_52 : ACode :=
  (.region false [⟨some 6, none, .cst (.t (.int .i64 1))⟩,
    ⟨some 7, none, .cst (.t (.int .i64 4))⟩] [] [3, 5, 6, 7, 18, 19, 20])
def c17_53 : ACode :=
  (.region false [⟨some 7, none, .cst (.t (.int .i64 8))⟩] [] [3, 5, 6, 7, 18, 19, 20])
def c17_54 : ACode :=
  (.region false [⟨some 7, none, .cst (.t (.int .i64 16))⟩] [] [3, 5, 6, 7, 18, 19, 20])
def c17_55 : ACode :=
  (.cond (.s 30) c17_54 .skip)
def c17_56 : ACode :=
  (.seq (.region false [⟨some 31, none, .bin .eql (.s 25) (.c (.t (.int .i64 4)))⟩,
    ⟨some 30, none, .mv (.s 31)⟩] [] [3, 5, 6, 7, 18, 19, 20, 30]) c17_55)
def c17_57 : ACode :=
  (.cond (.s 28) c17_53 c17_56)
def c17_58 : ACode :=
  (.seq (.region false [⟨some 29, none, .bin .eql (.s 25) (.c (.t (.int .i64 2)))⟩,
    ⟨some 28, none, .mv (.s 29)⟩] [] [3, 5, 6, 7, 18, 19, 20, 25, 28]) c17_57)
def c17_59 : ACode :=
  (.cond (.s 26) c17_52 c17_58)
def c17_60 : ACode :=
  (.seq (.region false [⟨some 27, none, .bin .eql (.s 25) (.c (.t (.int .i64 1)))⟩,
    ⟨some 26, none, .mv (.s 27)⟩] [] [3, 5, 6, 7, 18, 19, 20, 25, 26]) c17_59)
def c17_61 : ACode :=
  (.block 2 c17_60)
def c17_62 : ACode :=
  (.seq (.seq (.region false [⟨some 24, none, .fa 0 (.s 5)⟩,
    ⟨some 25, none, .ld false 1 (.s 24)⟩] [] [3, 5, 6, 7, 18, 19, 20, 25]) c17_61) c17_51)
def c17_63 : ACode :=
  (.seq (.region false [⟨some 6, none, .cst (.t (.int .i64 2))⟩,
    ⟨some 7, none, .cst (.t (.int .i64 0))⟩] [] [3, 5, 6, 7, 18, 19, 20]) c17_62)
def c17_64 : ACode :=
  (.seq (.region false [⟨some 22, none, .ia 7 (.s 18) (.s 20)⟩,
    ⟨some 23, none, .ld true 7 (.s 22)⟩,
    ⟨some 5, none, .alloc [.t (.int .i64 0), .t (.str []), .nils, .nils, .nils, .nils, .nils]⟩,
    ⟨none, none, .st 7 (.s 5) (.s 23)⟩] [] [3, 5, 18, 19, 20]) c17_63)
def c17_65 : ACode :=
  (.seq (.block 1 c17_64) c17_1)
def c17_66 : ACode :=
  (.seq (.cond (.s 21) .skip (.exit 0)) c17_65)
def c17_67 : ACode :=
  (.seq (.region false [⟨some 21, none, .bin .lss (.s 20) (.s 19)⟩] [] [3, 18, 19, 20, 21]) c17_66)
def c17_68 : ACode :=
  (.loop c17_67)
def c17_69 : ACode :=
  (.block 0 c17_68)
def c17_70 : ACode :=
  (.seq (.seq (.region false [⟨some 17, none, .fa 0 (.s 1)⟩,
    ⟨some 18, none, .ld false 1 (.s 17)⟩,
    ⟨some 19, none, .len (.s 18)⟩,
    ⟨some 20, none, .cst (.t (.int .i64 0))⟩] [] [3, 18, 19, 20]) c17_69) c17_0)
def c17_71 : ACode :=
  (.seq (.region false [⟨some 3, none, .cst (.nils)⟩] [] [1, 3]) c17_70)
def c17 : ACode :=
  (.seq (.region false [⟨some 1, none, .box 1 (.s 0)⟩,
    ⟨some 2, none, .cst (.nils)⟩] [] [1]) c17_71)
def r17 : List ARes := [.tmp 2]
def n17 : Nat := 126
/- 18 supergraph supergraphref23.Check -/
/- 19 supergraph supergraphref23.Has -/
def c19_0 : ACode :=
  (.seq (.region false [⟨some 4, none, .cst (.t (.bool false))⟩] [] [4]) .ret)
def c19_1 : ACode :=
  (.region false [⟨some 10, none, .mv (.s 5)⟩,
    ⟨some 11, none, .bin .add (.s 10) (.c (.t (.int .i64 1)))⟩,
    ⟨some 5, none, .mv (.s 11)⟩] [] [0, 1, 5])
def c19_2 : ACode :=
  (.seq (.region false [⟨some 4, none, .cst (.t (.bool true))⟩] [] [4]) .ret)
def c19_3 : ACode :=
  (.cond (.s 18) c19_2 .skip)
def c19_4 : ACode :=
  (.seq (.region false [⟨some 12, none, .mv (.s 0)⟩,
    ⟨some 13, none, .mv (.s 5)⟩,
    ⟨some 14, none, .ia 2 (.s 12) (.s 13)⟩,
    ⟨some 15, none, .fa 0 (.s 14)⟩,
    ⟨some 16, none, .ld false 1 (.s 15)⟩,
    ⟨some 17, none, .mv (.s 1)⟩,
    ⟨some 18, none, .bin .eql (.s 16) (.s 17)⟩] [] [0, 1, 5, 18]) c19_3)
def c19_5 : ACode :=
  (.seq (.block 1 c19_4) c19_1)
def c19_6 : ACode :=
  (.cond (.s 9) .skip (.exit 0))
def c19_7 : ACode :=
  (.seq (.seq (.region false [⟨some 6, none, .mv (.s 5)⟩,
    ⟨some 7, none, .mv (.s 0)⟩,
    ⟨some 8, none, .len (.s 7)⟩,
    ⟨some 9, none, .bin .lss (.s 6) (.s 8)⟩] [] [0, 1, 5, 9]) c19_6) c19_5)
def c19_8 : ACode :=
  (.loop c19_7)
def c19_9 : ACode :=
  (.block 0 c19_8)
def c19_10 : ACode :=
  (.seq (.seq (.region false [⟨some 5, none, .cst (.t (.int .i64 0))⟩] [] [0, 1, 5]) c19_9) c19_0)
def c19 : ACode :=
  (.seq (.region false [⟨some 4, none, .cst (.t (.bool false))⟩] [] [0, 1]) c19_10)
def r19 : List ARes := [.tmp 4]
def n19 : Nat := 19
/- 20 supergraph directives.Public -/
def c20_0 : ACode :=
  (.seq (.region false [⟨some 25, none, .mv (.s 3)⟩,
    ⟨some 2, none, .mv (.s 25)⟩] [] [2]) .ret)
def c20_1 : ACode :=
  (.region false [⟨some 24, none, .bin .add (.s 8) (.c (.t (.int .i64 1)))⟩,
    ⟨some 8, none, .mv (.s 24)⟩] [] [3, 6, 7, 8])
def c20_2 : ACode :=
  (.region false [⟨some 14, none, .mv (.s 3)⟩,
    ⟨some 15, none, .ld true 2 (.s 5)⟩,
    ⟨some 16, none, .bsl false 2 [[.str [], .lst []]] [(0, (.s 15))]⟩,
    ⟨some 17, none, .app 2 40 (.s 14) (.s 16)⟩,
    ⟨some 3, none, .mv (.s 17)⟩] [] [3, 6, 7, 8])
def c20_3 : ACode :=
  (.cond (.s 18) .skip c20_2)
def c20_4 : ACode :=
  (.region false [⟨some 23, none, .bin .eql (.s 13) (.c (.t (.str [112, 114, 111, 118, 105, 100, 101, 115])))⟩,
    ⟨some 18, none, .mv (.s 23)⟩] [] [3, 5, 6, 7, 8, 18])
def c20_5 : ACode :=
  (.cond (.s 18) .skip c20_4)
def c20_6 : ACode :=
  (.seq (.region false [⟨some 22, none, .bin .eql (.s 13) (.c (.t (.str [114, 101, 113, 117, 105, 114, 101, 115])))⟩,
    ⟨some 18, none, .mv (.s 22)⟩] [] [3, 5, 6, 7, 8, 13, 18]) c20_5)
def c20_7 : ACode :=
  (.cond (.s 18) .skip c20_6)
def c20_8 : ACode :=
  (.seq (.region false [⟨some 21, none, .bin .eql (.s 13) (.c (.t (.str [115, 104, 97, 114, 101, 97, 98, 108, 101])))⟩,
    ⟨some 18, none, .mv (.s 21)⟩] [] [3, 5, 6, 7, 8, 13, 18]) c20_7)
def c20_9 : ACode :=
  (.cond (.s 18) .skip c20_8)
def c20_10 : ACode :=
  (.seq (.region false [⟨some 20, none, .bin .eql (.s 13) (.c (.t (.str [101, 120, 116, 101, 114, 110, 97, 108])))⟩,
    ⟨some 18, none, .mv (.s 20)⟩] [] [3, 5, 6, 7, 8, 13, 18]) c20_9)
def c20_11 : ACode :=
  (.cond (.s 18) .skip c20_10)
def c20_12 : ACode :=
  (.seq (.seq (.region false [⟨some 19, none, .bin .eql (.s 13) (.c (.t (.str [107, 101, 121])))⟩,
    ⟨some 18, none, .mv (.s 19)⟩] [] [3, 5, 6, 7, 8, 13, 18]) c20_11) c20_3)
def c20_13 : ACode :=
  (.block 2 c20_12)
def c20_14 : ACode :=
  (.seq (.region false [⟨some 12, none, .fa 0 (.s 5)⟩,
    ⟨some 13, none, .ld false 1 (.s 12)⟩] [] [3, 5, 6, 7, 8, 13]) c20_13)
def c20_15 : ACode :=
  (.seq (.region false [⟨some 10, none, .ia 2 (.s 6) (.s 8)⟩,
    ⟨some 11, none, .ld true 2 (.s 10)⟩,
    ⟨some 5, none, .alloc [.t (.str []), .nils]⟩,
    ⟨none, none, .st 2 (.s 5) (.s 11)⟩] [] [3, 5, 6, 7, 8]) c20_14)
def c20_16 : ACode :=
  (.seq (.block 1 c20_15) c20_1)
def c20_17 : ACode :=
  (.seq (.cond (.s 9) .skip (.exit 0)) c20_16)
def c20_18 : ACode :=
  (.seq (.region false [⟨some 9, none, .bin .lss (.s 8) (.s 7)⟩] [] [3, 6, 7, 8, 9]) c20_17)
def c20_19 : ACode :=
  (.loop c20_18)
def c20_20 : ACode :=
  (.block 0 c20_19)
def c20_21 : ACode :=
  (.seq (.seq (.region false [⟨some 6, none, .mv (.s 0)⟩,
    ⟨some 7, none, .len (.s 6)⟩,
    ⟨some 8, none, .cst (.t (.int .i64 0))⟩] [] [3, 6, 7, 8]) c20_20) c20_0)
def c20_22 : ACode :=
  (.seq (.region false [⟨some 3, none, .cst (.nils)⟩] [] [0, 3]) c20_21)
def c20 : ACode :=
  (.seq (.region false [⟨some 2, none, .cst (.nils)⟩] [] [0]) c20_22)
def r20 : List ARes := [.tmp 2]
def n20 : Nat := 26
/- 21 supergraph supergraphref23.Public -/
def c21_0 : ACode :=
  (.seq (.region false [⟨some 29, none, .mv (.s 3)⟩,
    ⟨some 2, none, .mv (.s 29)⟩] [] [2]) .ret)
def c21_1 : ACode :=
  (.region false [⟨some 9, none, .mv (.s 4)⟩,
    ⟨some 10, none, .bin .add (.s 9) (.c (.t (.int .i64 1)))⟩,
    ⟨some 4, none, .mv (.s 10)⟩] [] [0, 3, 4])
def c21_2 : ACode :=
  (.region false [⟨some 16, none, .mv (.s 3)⟩,
    ⟨some 17, none, .mv (.s 0)⟩,
    ⟨some 18, none, .mv (.s 4)⟩,
    ⟨some 19, none, .ia 2 (.s 17) (.s 18)⟩,
    ⟨some 20, none, .ld true 2 (.s 19)⟩,
    ⟨some 21, none, .bsl false 2 [[.str [], .lst []]] [(0, (.s 20))]⟩,
    ⟨some 22, none, .app 2 40 (.s 16) (.s 21)⟩,
    ⟨some 3, none, .mv (.s 22)⟩] [] [0, 3, 4])
def c21_3 : ACode :=
  (.cond (.s 23) .skip c21_2)
def c21_4 : ACode :=
  (.region false [⟨some 28, none, .bin .eql (.s 15) (.c (.t (.str [112, 114, 111, 118, 105, 100, 101, 115])))⟩,
    ⟨some 23, none, .mv (.s 28)⟩] [] [0, 3, 4, 23])
def c21_5 : ACode :=
  (.cond (.s 23) .skip c21_4)
def c21_6 : ACode :=
  (.seq (.region false [⟨some 27, none, .bin .eql (.s 15) (.c (.t (.str [114, 101, 113, 117, 105, 114, 101, 115])))⟩,
    ⟨some 23, none, .mv (.s 27)⟩] [] [0, 3, 4, 15, 23]) c21_5)
def c21_7 : ACode :=
  (.cond (.s 23) .skip c21_6)
def c21_8 : ACode :=
  (.seq (.region false [⟨some 26, none, .bin .eql (.s 15) (.c (.t (.str [115, 104, 97, 114, 101, 97, 98, 108, 101])))⟩,
    ⟨some 23, none, .mv (.s 26)⟩] [] [0, 3, 4, 15, 23]) c21_7)
def c21_9 : ACode :=
  (.cond (.s 23) .skip c21_8)
def c21_10 : ACode :=
  (.seq (.region false [⟨some 25, none, .bin .eql (.s 15) (.c (.t (.str [101, 120, 116, 101, 114, 110, 97, 108])))⟩,
    ⟨some 23, none, .mv (.s 25)⟩] [] [0, 3, 4, 15, 23]) c21_9)
def c21_11 : ACode :=
  (.cond (.s 23) .skip c21_10)
def c21_12 : ACode :=
  (.seq (.seq (.region false [⟨some 24, none, .bin .eql (.s 15) (.c (.t (.str [107, 101, 121])))⟩,
    ⟨some 23, none, .mv (.s 24)⟩] [] [0, 3, 4, 15, 23]) c21_11) c21_3)
def c21_13 : ACode :=
  (.block 2 c21_12)
def c21_14 : ACode :=
  (.seq (.region false [⟨some 11, none, .mv (.s 0)⟩,
    ⟨some 12, none, .mv (.s 4)⟩,
    ⟨some 13, none, .ia 2 (.s 11) (.s 12)⟩,
    ⟨some 14, none, .fa 0 (.s 13)⟩,
    ⟨some 15, none, .ld false 1 (.s 14)⟩] [] [0, 3, 4, 15]) c21_13)
def c21_15 : ACode :=
  (.seq (.block 1 c21_14) c21_1)
def c21_16 : ACode :=
  (.cond (.s 8) .skip (.exit 0))
def c21_17 : ACode :=
  (.seq (.seq (.region false [⟨some 5, none, .mv (.s 4)⟩,
    ⟨some 6, none, .mv (.s 0)⟩,
    ⟨some 7, none, .len (.s 6)⟩,
    ⟨some 8, none, .bin .lss (.s 5) (.s 7)⟩] [] [0, 3, 4, 8]) c21_16) c21_15)
def c21_18 : ACode :=
  (.loop c21_17)
def c21_19 : ACode :=
  (.block 0 c21_18)
def c21_20 : ACode :=
  (.seq (.seq (.region false [⟨some 4, none, .cst (.t (.int .i64 0))⟩] [] [0, 3, 4]) c21_19) c21_0)
def c21_21 : ACode :=
  (.seq (.region false [⟨some 3, none, .cst (.nils)⟩] [] [0, 3]) c21_20)
def c21 : ACode :=
  (.seq (.region false [⟨some 2, none, .cst (.nils)⟩] [] [0]) c21_21)
def r21 : List ARes := [.tmp 2]
def n21 : Nat := 30
/- 22 supergraph supergraphlaw23.bare -/
def c22_0 : ACode :=
  (.seq (.region false [⟨some 66, none, .ld true 7 (.s 3)⟩,
    ⟨none, none, .st 7 (.s 2) (.s 66)⟩] [] [2]) .ret)
def c22_1 : ACode :=
  (.seq (.region false [⟨some 60, none, .fa 6 (.s 3)⟩,
    ⟨some 61, none, .ld false 1 (.s 60)⟩,
    ⟨some 62, none, .fa 6 (.s 1)⟩,
    ⟨some 63, none, .ld false 1 (.s 62)⟩,
    ⟨some 64, none, .app 10 168 (.s 61) (.s 63)⟩,
    ⟨some 65, none, .fa 6 (.s 3)⟩,
    ⟨none, none, .st 1 (.s 65) (.s 64)⟩] [] [2, 3]) c22_0)
def c22_2 : ACode :=
  (.region false [⟨some 43, none, .mv (.s 6)⟩,
    ⟨some 44, none, .bin .add (.s 43) (.c (.t (.int .i64 1)))⟩,
    ⟨some 6, none, .mv (.s 44)⟩] [] [1, 2, 3, 6])
def c22_3 : ACode :=
  (.region false [⟨some 54, none, .fa 5 (.s 3)⟩,
    ⟨some 55, none, .ld false 1 (.s 54)⟩,
    ⟨some 56, none, .ld true 2 (.s 7)⟩,
    ⟨some 57, none, .bsl false 2 [[.str [], .lst []]] [(0, (.s 56))]⟩,
    ⟨some 58, none, .app 2 40 (.s 55) (.s 57)⟩,
    ⟨some 59, none, .fa 5 (.s 3)⟩,
    ⟨none, none, .st 1 (.s 59) (.s 58)⟩] [] [1, 2, 3, 6])
def c22_4 : ACode :=
  (.seq (.region false [⟨some 50, none, .fa 1 (.s 7)⟩,
    ⟨some 51, none, .ld false 1 (.s 50)⟩,
    ⟨some 52, none, .call 20 [(.s 51)]⟩,
    ⟨some 53, none, .fa 1 (.s 7)⟩,
    ⟨none, none, .st 1 (.s 53) (.s 52)⟩] [] [1, 2, 3, 6, 7]) c22_3)
def c22_5 : ACode :=
  (.seq (.region false [⟨some 45, none, .fa 5 (.s 1)⟩,
    ⟨some 46, none, .ld false 1 (.s 45)⟩,
    ⟨some 47, none, .mv (.s 6)⟩,
    ⟨some 48, none, .ia 2 (.s 46) (.s 47)⟩,
    ⟨some 49, none, .ld true 2 (.s 48)⟩,
    ⟨some 7, none, .alloc [.t (.str []), .nils]⟩,
    ⟨none, none, .st 2 (.s 7) (.s 49)⟩] [] [1, 2, 3, 6, 7]) c22_4)
def c22_6 : ACode :=
  (.seq (.block 3 c22_5) c22_2)
def c22_7 : ACode :=
  (.cond (.s 42) .skip (.exit 2))
def c22_8 : ACode :=
  (.seq (.seq (.region false [⟨some 38, none, .mv (.s 6)⟩,
    ⟨some 39, none, .fa 5 (.s 1)⟩,
    ⟨some 40, none, .ld false 1 (.s 39)⟩,
    ⟨some 41, none, .len (.s 40)⟩,
    ⟨some 42, none, .bin .lss (.s 38) (.s 41)⟩] [] [1, 2, 3, 6, 42]) c22_7) c22_6)
def c22_9 : ACode :=
  (.loop c22_8)
def c22_10 : ACode :=
  (.block 2 c22_9)
def c22_11 : ACode :=
  (.seq (.seq (.region false [⟨some 6, none, .cst (.t (.int .i64 0))⟩] [] [1, 2, 3, 6]) c22_10) c22_1)
def c22_12 : ACode :=
  (.region false [⟨some 21, none, .mv (.s 4)⟩,
    ⟨some 22, none, .bin .add (.s 21) (.c (.t (.int .i64 1)))⟩,
    ⟨some 4, none, .mv (.s 22)⟩] [] [1, 2, 3, 4])
def c22_13 : ACode :=
  (.region false [⟨some 32, none, .fa 4 (.s 3)⟩,
    ⟨some 33, none, .ld false 1 (.s 32)⟩,
    ⟨some 34, none, .ld true 5 (.s 5)⟩,
    ⟨some 35, none, .bsl false 5 [[.str [], .lst [], .str [], .lst [], .lst []]] [(0, (.s 34))]⟩,
    ⟨some 36, none, .app 5 104 (.s 33) (.s 35)⟩,
    ⟨some 37, none, .fa 4 (.s 3)⟩,
    ⟨none, none, .st 1 (.s 37) (.s 36)⟩] [] [1, 2, 3, 4])
def c22_14 : ACode :=
  (.seq (.region false [⟨some 28, none, .fa 4 (.s 5)⟩,
    ⟨some 29, none, .ld false 1 (.s 28)⟩,
    ⟨some 30, none, .call 20 [(.s 29)]⟩,
    ⟨some 31, none, .fa 4 (.s 5)⟩,
    ⟨none, none, .st 1 (.s 31) (.s 30)⟩] [] [1, 2, 3, 4, 5]) c22_13)
def c22_15 : ACode :=
  (.seq (.region false [⟨some 23, none, .fa 4 (.s 1)⟩,
    ⟨some 24, none, .ld false 1 (.s 23)⟩,
    ⟨some 25, none, .mv (.s 4)⟩,
    ⟨some 26, none, .ia 5 (.s 24) (.s 25)⟩,
    ⟨some 27, none, .ld true 5 (.s 26)⟩,
    ⟨some 5, none, .alloc [.t (.str []), .nils, .t (.str []), .nils, .nils]⟩,
    ⟨none, none, .st 5 (.s 5) (.s 27)⟩] [] [1, 2, 3, 4, 5]) c22_14)
def c22_16 : ACode :=
  (.seq (.block 1 c22_15) c22_12)
def c22_17 : ACode :=
  (.cond (.s 20) .skip (.exit 0))
def c22_18 : ACode :=
  (.seq (.seq (.region false [⟨some 16, none, .mv (.s 4)⟩,
    ⟨some 17, none, .fa 4 (.s 1)⟩,
    ⟨some 18, none, .ld false 1 (.s 17)⟩,
    ⟨some 19, none, .len (.s 18)⟩,
    ⟨some 20, none, .bin .lss (.s 16) (.s 19)⟩] [] [1, 2, 3, 4, 20]) c22_17) c22_16)
def c22_19 : ACode :=
  (.loop c22_18)
def c22_20 : ACode :=
  (.block 0 c22_19)
def c22_21 : ACode :=
  (.seq (.seq (.region false [⟨some 4, none, .cst (.t (.int .i64 0))⟩] [] [1, 2, 3, 4]) c22_20) c22_11)
def c22_22 : ACode :=
  (.seq (.region false [⟨some 13, none, .fa 4 (.s 3)⟩,
    ⟨none, none, .st 1 (.s 13) (.c (.nils))⟩,
    ⟨some 14, none, .fa 5 (.s 3)⟩,
    ⟨none, none, .st 1 (.s 14) (.c (.nils))⟩,
    ⟨some 15, none, .fa 6 (.s 3)⟩,
    ⟨none, none, .st 1 (.s 15) (.c (.nils))⟩] [] [1, 2, 3]) c22_21)
def c22_23 : ACode :=
  (.seq (.region false [⟨some 9, none, .fa 3 (.s 1)⟩,
    ⟨some 10, none, .ld false 1 (.s 9)⟩,
    ⟨some 11, none, .call 20 [(.s 10)]⟩,
    ⟨some 12, none, .fa 3 (.s 3)⟩,
    ⟨none, none, .st 1 (.s 12) (.s 11)⟩] [] [1, 2, 3]) c22_22)
def c22_24 : ACode :=
  (.seq (.region false [⟨some 8, none, .ld true 7 (.s 1)⟩,
    ⟨some 3, none, .alloc [.t (.int .i64 0), .t (.str []), .nils, .nils, .nils, .nils, .nils]⟩,
    ⟨none, none, .st 7 (.s 3) (.s 8)⟩] [] [1, 2, 3]) c22_23)
def c22 : ACode :=
  (.seq (.region false [⟨some 1, none, .box 7 (.s 0)⟩,
    ⟨some 2, none, .alloc [.t (.int .i64 0), .t (.str []), .nils, .nils, .nils, .nils, .nils]⟩] [] [1, 2]) c22_24)
def r22 : List ARes := [.cell 2 true 7]
def n22 : Nat := 67
/- 23 supergraph directives.Arg -/
/- 24 supergraph supergraphref23.Arg -/
/- 25 supergraph directives.Has -/
def c25_0 : ACode :=
  (.seq (.region false [⟨some 4, none, .cst (.t (.bool false))⟩] [] [4]) .ret)
def c25_1 : ACode :=
  (.region false [⟨some 17, none, .bin .add (.s 9) (.c (.t (.int .i64 1)))⟩,
    ⟨some 9, none, .mv (.s 17)⟩] [] [1, 7, 8, 9])
def c25_2 : ACode :=
  (.seq (.region false [⟨some 4, none, .cst (.t (.bool true))⟩] [] [4]) .ret)
def c25_3 : ACode :=
  (.cond (.s 16) c25_2 .skip)
def c25_4 : ACode :=
  (.seq (.region false [⟨some 13, none, .fa 0 (.s 6)⟩,
    ⟨some 14, none, .ld false 1 (.s 13)⟩,
    ⟨some 15, none, .mv (.s 1)⟩,
    ⟨some 16, none, .bin .eql (.s 14) (.s 15)⟩] [] [1, 7, 8, 9, 16]) c25_3)
def c25_5 : ACode :=
  (.seq (.region false [⟨some 11, none, .ia 2 (.s 7) (.s 9)⟩,
    ⟨some 12, none, .ld true 2 (.s 11)⟩,
    ⟨some 6, none, .alloc [.t (.str []), .nils]⟩,
    ⟨none, none, .st 2 (.s 6) (.s 12)⟩] [] [1, 6, 7, 8, 9]) c25_4)
def c25_6 : ACode :=
  (.seq (.block 1 c25_5) c25_1)
def c25_7 : ACode :=
  (.seq (.cond (.s 10) .skip (.exit 0)) c25_6)
def c25_8 : ACode :=
  (.seq (.region false [⟨some 10, none, .bin .lss (.s 9) (.s 8)⟩] [] [1, 7, 8, 9, 10]) c25_7)
def c25_9 : ACode :=
  (.loop c25_8)
def c25_10 : ACode :=
  (.block 0 c25_9)
def c25_11 : ACode :=
  (.seq (.seq (.region false [⟨some 7, none, .mv (.s 0)⟩,
    ⟨some 8, none, .len (.s 7)⟩,
    ⟨some 9, none, .cst (.t (.int .i64 0))⟩] [] [1, 7, 8, 9]) c25_10) c25_0)
def c25 : ACode :=
  (.seq (.region false [⟨some 4, none, .cst (.t (.bool false))⟩] [] [0, 1]) c25_11)
def r25 : List ARes := [.tmp 4]
def n25 : Nat := 18
/- 26 supergraph supergraphlaw23.same -/
/- 27 supergraph supergraphlaw23.values -/
/- 28 supergraph directives.All -/
/- 29 supergraph supergraphref23.All -/
/- 30 supergraph supergraphlaw25.large -/
/- 31 supergraph supergraphref25.Right -/
/- 32 supergraph supergraphlaw25.exampleHolds -/
/- 33 supergraph moves.Joins -/
/- 34 supergraph supergraphlaw25.keyed -/
/- 35 supergraph supergraphlaw25.others -/
/- 36 supergraph supergraphref25.Bare -/
/- 37 supergraph supergraphlaw25.fieldsOf -/
/- 38 supergraph moves.Find -/
/- 39 supergraph supergraphref25.Find -/
/- 40 supergraph moves.Keys -/
/- 41 supergraph supergraphref25.Keys -/
/- 42 supergraph supergraphref25.SameJoin -/
/- 43 supergraph supergraphref25.Texts -/
/- 44 supergraph moves.Needs -/
/- 45 supergraph supergraphref25.Needs -/
/- 46 strings.Split -/
def c46_0 : ACode :=
  (.seq (.region false [⟨some 5, none, .mv (.s 0)⟩,
    ⟨some 6, none, .mv (.s 1)⟩,
    ⟨some 7, none, .call 69 [(.s 5), (.s 6), (.c (.t (.int .i64 0))), (.c (.t (.int .i64 (-1))))]⟩,
    ⟨some 4, none, .mv (.s 7)⟩] [] [4]) .ret)
def c46 : ACode :=
  (.seq (.region false [⟨some 4, none, .cst (.nils)⟩] [] [0, 1]) c46_0)
def r46 : List ARes := [.tmp 4]
def n46 : Nat := 8
/- 47 supergraph text.Name -/
def c47_0 : ACode :=
  (.seq (.region false [⟨some 2, none, .cst (.t (.bool true))⟩] [] [2]) .ret)
def c47_1 : ACode :=
  (.region false [⟨some 57, none, .bin .add (.s 24) (.c (.t (.int .i64 1)))⟩,
    ⟨some 24, none, .mv (.s 57)⟩] [] [0, 23, 24])
def c47_2 : ACode :=
  (.seq (.region false [⟨some 2, none, .cst (.t (.bool false))⟩] [] [2]) .ret)
def c47_3 : ACode :=
  (.cond (.s 56) c47_2 .skip)
def c47_4 : ACode :=
  (.seq (.region false [⟨some 30, none, .mv (.s 4)⟩,
    ⟨some 31, none, .bin .geq (.s 30) (.c (.t (.int .u8 97)))⟩,
    ⟨some 32, none, .mv (.s 31)⟩,
    ⟨some 33, some (32, true), .mv (.s 4)⟩,
    ⟨some 34, some (32, true), .bin .leq (.s 33) (.c (.t (.int .u8 122)))⟩,
    ⟨some 35, none, .pick (.s 32) (.s 34) (.c (.t (.bool false)))⟩,
    ⟨some 36, none, .mv (.s 35)⟩,
    ⟨some 37, some (36, false), .mv (.s 4)⟩,
    ⟨some 38, some (36, false), .bin .geq (.s 37) (.c (.t (.int .u8 65)))⟩,
    ⟨some 39, some (36, false), .mv (.s 38)⟩,
    ⟨some 40, some (39, true), .mv (.s 4)⟩,
    ⟨some 41, some (39, true), .bin .leq (.s 40) (.c (.t (.int .u8 90)))⟩,
    ⟨some 42, some (36, false), .pick (.s 39) (.s 41) (.c (.t (.bool false)))⟩,
    ⟨some 43, none, .pick (.s 36) (.c (.t (.bool true))) (.s 42)⟩,
    ⟨some 44, none, .mv (.s 43)⟩,
    ⟨some 45, some (44, false), .mv (.s 4)⟩,
    ⟨some 46, some (44, false), .bin .geq (.s 45) (.c (.t (.int .u8 48)))⟩,
    ⟨some 47, some (44, false), .mv (.s 46)⟩,
    ⟨some 48, some (47, true), .mv (.s 4)⟩,
    ⟨some 49, some (47, true), .bin .leq (.s 48) (.c (.t (.int .u8 57)))⟩,
    ⟨some 50, some (44, false), .pick (.s 47) (.s 49) (.c (.t (.bool false)))⟩,
    ⟨some 51, none, .pick (.s 44) (.c (.t (.bool true))) (.s 50)⟩,
    ⟨some 52, none, .mv (.s 51)⟩,
    ⟨some 53, some (52, false), .mv (.s 4)⟩,
    ⟨some 54, some (52, false), .bin .eql (.s 53) (.c (.t (.int .u8 95)))⟩,
    ⟨some 55, none, .pick (.s 52) (.c (.t (.bool true))) (.s 54)⟩,
    ⟨some 56, none, .un .not (.s 55)⟩] [] [0, 23, 24, 56]) c47_3)
def c47_5 : ACode :=
  (.seq (.region false [⟨some 27, none, .mv (.s 0)⟩,
    ⟨some 28, none, .mv (.s 3)⟩,
    ⟨some 29, none, .ixs (.s 27) (.s 28)⟩,
    ⟨some 4, none, .mv (.s 29)⟩] [] [0, 4, 23, 24]) c47_4)
def c47_6 : ACode :=
  (.seq (.region false [⟨some 26, none, .mv (.s 24)⟩,
    ⟨some 3, none, .mv (.s 26)⟩] [] [0, 3, 23, 24]) c47_5)
def c47_7 : ACode :=
  (.seq (.block 1 c47_6) c47_1)
def c47_8 : ACode :=
  (.seq (.cond (.s 25) .skip (.exit 0)) c47_7)
def c47_9 : ACode :=
  (.seq (.region false [⟨some 25, none, .bin .lss (.s 24) (.s 23)⟩] [] [0, 23, 24, 25]) c47_8)
def c47_10 : ACode :=
  (.loop c47_9)
def c47_11 : ACode :=
  (.block 0 c47_10)
def c47_12 : ACode :=
  (.seq (.seq (.region false [⟨some 22, none, .mv (.s 0)⟩,
    ⟨some 23, none, .lens (.s 22)⟩,
    ⟨some 24, none, .cst (.t (.int .i64 0))⟩] [] [0, 23, 24]) c47_11) c47_0)
def c47_13 : ACode :=
  (.seq (.region false [⟨some 2, none, .cst (.t (.bool false))⟩] [] [2]) .ret)
def c47_14 : ACode :=
  (.cond (.s 21) c47_13 .skip)
def c47_15 : ACode :=
  (.seq (.seq (.region false [⟨some 5, none, .mv (.s 0)⟩,
    ⟨some 6, none, .bin .eql (.s 5) (.c (.t (.str [])))⟩,
    ⟨some 7, none, .mv (.s 6)⟩,
    ⟨some 8, some (7, false), .mv (.s 0)⟩,
    ⟨some 9, some (7, false), .lens (.s 8)⟩,
    ⟨some 10, some (7, false), .bin .gtr (.s 9) (.c (.t (.int .i64 64)))⟩,
    ⟨some 11, none, .pick (.s 7) (.c (.t (.bool true))) (.s 10)⟩,
    ⟨some 12, none, .mv (.s 11)⟩,
    ⟨some 13, some (12, false), .mv (.s 0)⟩,
    ⟨some 14, some (12, false), .ixs (.s 13) (.c (.t (.int .i64 0)))⟩,
    ⟨some 15, some (12, false), .bin .geq (.s 14) (.c (.t (.int .u8 48)))⟩,
    ⟨some 16, some (12, false), .mv (.s 15)⟩,
    ⟨some 17, some (16, true), .mv (.s 0)⟩,
    ⟨some 18, some (16, true), .ixs (.s 17) (.c (.t (.int .i64 0)))⟩,
    ⟨some 19, some (16, true), .bin .leq (.s 18) (.c (.t (.int .u8 57)))⟩,
    ⟨some 20, some (12, false), .pick (.s 16) (.s 19) (.c (.t (.bool false)))⟩,
    ⟨some 21, none, .pick (.s 12) (.c (.t (.bool true))) (.s 20)⟩] [] [0, 21]) c47_14) c47_12)
def c47 : ACode :=
  (.seq (.region false [⟨some 2, none, .cst (.t (.bool false))⟩] [] [0]) c47_15)
def r47 : List ARes := [.tmp 2]
def n47 : Nat := 58
/- 48 supergraph text.Reserved -/
def c48_0 : ACode :=
  (.seq (.region false [⟨some 3, none, .mv (.s 0)⟩,
    ⟨some 4, none, .call 70 [(.s 3), (.c (.t (.str [95, 95])))]⟩,
    ⟨some 2, none, .mv (.s 4)⟩] [] [2]) .ret)
def c48 : ACode :=
  (.seq (.region false [⟨some 2, none, .cst (.t (.bool false))⟩] [] [0]) c48_0)
def r48 : List ARes := [.tmp 2]
def n48 : Nat := 5
/- 49 supergraph supergraphref23.split -/
/- 50 supergraph supergraphref01.Name -/
/- 51 supergraph supergraphref01.Reserved -/
/- 52 supergraph directives.uses -/
def c52_0 : ACode :=
  (.seq (.region false [⟨some 29, none, .mv (.s 0)⟩,
    ⟨some 8, none, .mv (.s 29)⟩] [] [8]) .ret)
def c52_1 : ACode :=
  (.region false [⟨some 28, none, .bin .add (.s 13) (.c (.t (.int .i64 1)))⟩,
    ⟨some 13, none, .mv (.s 28)⟩] [] [0, 1, 2, 3, 12, 13])
def c52_2 : ACode :=
  (.region false [⟨some 22, none, .mv (.s 0)⟩,
    ⟨some 23, none, .mv (.s 10)⟩,
    ⟨some 24, none, .mv (.s 3)⟩,
    ⟨some 25, none, .build [.t (.int .i64 0), .t (.str [])] [(0, 1, (.s 23)), (1, 1, (.s 24))]⟩,
    ⟨some 26, none, .bsl false 2 [[.int .i64 0, .str []]] [(0, (.s 25))]⟩,
    ⟨some 27, none, .app 2 24 (.s 22) (.s 26)⟩,
    ⟨some 0, none, .mv (.s 27)⟩] [] [0, 1, 2, 3, 12, 13])
def c52_3 : ACode :=
  (.cond (.s 21) c52_2 .skip)
def c52_4 : ACode :=
  (.seq (.region false [⟨some 20, none, .mv (.s 10)⟩,
    ⟨some 21, none, .bin .neq (.s 20) (.c (.t (.int .i64 0)))⟩] [] [0, 1, 2, 3, 10, 12, 13, 21]) c52_3)
def c52_5 : ACode :=
  (.seq (.region false [⟨some 16, none, .mv (.s 1)⟩,
    ⟨some 17, none, .mv (.s 9)⟩,
    ⟨some 18, none, .mv (.s 2)⟩,
    ⟨some 19, none, .call 73 [(.s 16), (.s 17), (.s 18)]⟩,
    ⟨some 10, none, .mv (.s 19)⟩] [] [0, 1, 2, 3, 10, 12, 13]) c52_4)
def c52_6 : ACode :=
  (.seq (.region false [⟨some 15, none, .mv (.s 13)⟩,
    ⟨some 9, none, .mv (.s 15)⟩] [] [0, 1, 2, 3, 9, 12, 13]) c52_5)
def c52_7 : ACode :=
  (.seq (.block 1 c52_6) c52_1)
def c52_8 : ACode :=
  (.seq (.cond (.s 14) .skip (.exit 0)) c52_7)
def c52_9 : ACode :=
  (.seq (.region false [⟨some 14, none, .bin .lss (.s 13) (.s 12)⟩] [] [0, 1, 2, 3, 12, 13, 14]) c52_8)
def c52_10 : ACode :=
  (.loop c52_9)
def c52_11 : ACode :=
  (.block 0 c52_10)
def c52_12 : ACode :=
  (.seq (.seq (.region false [⟨some 11, none, .mv (.s 1)⟩,
    ⟨some 12, none, .len (.s 11)⟩,
    ⟨some 13, none, .cst (.t (.int .i64 0))⟩] [] [0, 1, 2, 3, 12, 13]) c52_11) c52_0)
def c52 : ACode :=
  (.seq (.region false [⟨some 8, none, .cst (.nils)⟩] [] [0, 1, 2, 3]) c52_12)
def r52 : List ARes := [.tmp 8]
def n52 : Nat := 30
/- 53 supergraph supergraphref23.uses -/
/- 54 supergraph supergraphref23.fields -/
/- 55 supergraph supergraphref23.members -/
/- 56 supergraph directives.argument -/
def c56_0 : ACode :=
  (.seq (.region false [⟨some 22, none, .build [.t (.int .i64 0), .t (.int .i64 0), .t (.str []), .nils, .nils] []⟩,
    ⟨none, none, .st 5 (.s 4) (.s 22)⟩,
    ⟨some 5, none, .cst (.t (.bool false))⟩] [] [4, 5]) .ret)
def c56_1 : ACode :=
  (.region false [⟨some 21, none, .bin .add (.s 11) (.c (.t (.int .i64 1)))⟩,
    ⟨some 11, none, .mv (.s 21)⟩] [] [1, 4, 9, 10, 11])
def c56_2 : ACode :=
  (.seq (.region false [⟨some 19, none, .fa 1 (.s 7)⟩,
    ⟨some 20, none, .ld true 5 (.s 19)⟩,
    ⟨none, none, .st 5 (.s 4) (.s 20)⟩,
    ⟨some 5, none, .cst (.t (.bool true))⟩] [] [4, 5]) .ret)
def c56_3 : ACode :=
  (.cond (.s 18) c56_2 .skip)
def c56_4 : ACode :=
  (.seq (.region false [⟨some 15, none, .fa 0 (.s 7)⟩,
    ⟨some 16, none, .ld false 1 (.s 15)⟩,
    ⟨some 17, none, .mv (.s 1)⟩,
    ⟨some 18, none, .bin .eql (.s 16) (.s 17)⟩] [] [1, 4, 7, 9, 10, 11, 18]) c56_3)
def c56_5 : ACode :=
  (.seq (.region false [⟨some 13, none, .ia 6 (.s 9) (.s 11)⟩,
    ⟨some 14, none, .ld true 6 (.s 13)⟩,
    ⟨some 7, none, .alloc [.t (.str []), .t (.int .i64 0), .t (.int .i64 0), .t (.str []), .nils, .nils]⟩,
    ⟨none, none, .st 6 (.s 7) (.s 14)⟩] [] [1, 4, 7, 9, 10, 11]) c56_4)
def c56_6 : ACode :=
  (.seq (.block 1 c56_5) c56_1)
def c56_7 : ACode :=
  (.seq (.cond (.s 12) .skip (.exit 0)) c56_6)
def c56_8 : ACode :=
  (.seq (.region false [⟨some 12, none, .bin .lss (.s 11) (.s 10)⟩] [] [1, 4, 9, 10, 11, 12]) c56_7)
def c56_9 : ACode :=
  (.loop c56_8)
def c56_10 : ACode :=
  (.block 0 c56_9)
def c56_11 : ACode :=
  (.seq (.seq (.region false [⟨some 8, none, .fa 1 (.s 2)⟩,
    ⟨some 9, none, .ld false 1 (.s 8)⟩,
    ⟨some 10, none, .len (.s 9)⟩,
    ⟨some 11, none, .cst (.t (.int .i64 0))⟩] [] [1, 4, 9, 10, 11]) c56_10) c56_0)
def c56 : ACode :=
  (.seq (.region false [⟨some 2, none, .box 2 (.s 0)⟩,
    ⟨some 4, none, .alloc [.t (.int .i64 0), .t (.int .i64 0), .t (.str []), .nils, .nils]⟩,
    ⟨some 5, none, .cst (.t (.bool false))⟩] [] [1, 2, 4]) c56_11)
def r56 : List ARes := [.cell 4 true 5, .tmp 5]
def n56 : Nat := 23
/- 57 supergraph supergraphref23.argument -/
def c57_0 : ACode :=
  (.seq (.region false [⟨some 28, none, .build [.t (.int .i64 0), .t (.int .i64 0), .t (.str []), .nils, .nils] []⟩,
    ⟨none, none, .st 5 (.s 4) (.s 28)⟩,
    ⟨some 5, none, .cst (.t (.bool false))⟩] [] [4, 5]) .ret)
def c57_1 : ACode :=
  (.region false [⟨some 12, none, .mv (.s 6)⟩,
    ⟨some 13, none, .bin .add (.s 12) (.c (.t (.int .i64 1)))⟩,
    ⟨some 6, none, .mv (.s 13)⟩] [] [1, 2, 4, 6])
def c57_2 : ACode :=
  (.seq (.region false [⟨some 22, none, .fa 1 (.s 2)⟩,
    ⟨some 23, none, .ld false 1 (.s 22)⟩,
    ⟨some 24, none, .mv (.s 6)⟩,
    ⟨some 25, none, .ia 6 (.s 23) (.s 24)⟩,
    ⟨some 26, none, .fa 1 (.s 25)⟩,
    ⟨some 27, none, .ld true 5 (.s 26)⟩,
    ⟨none, none, .st 5 (.s 4) (.s 27)⟩,
    ⟨some 5, none, .cst (.t (.bool true))⟩] [] [4, 5]) .ret)
def c57_3 : ACode :=
  (.cond (.s 21) c57_2 .skip)
def c57_4 : ACode :=
  (.seq (.region false [⟨some 14, none, .fa 1 (.s 2)⟩,
    ⟨some 15, none, .ld false 1 (.s 14)⟩,
    ⟨some 16, none, .mv (.s 6)⟩,
    ⟨some 17, none, .ia 6 (.s 15) (.s 16)⟩,
    ⟨some 18, none, .fa 0 (.s 17)⟩,
    ⟨some 19, none, .ld false 1 (.s 18)⟩,
    ⟨some 20, none, .mv (.s 1)⟩,
    ⟨some 21, none, .bin .eql (.s 19) (.s 20)⟩] [] [1, 2, 4, 6, 21]) c57_3)
def c57_5 : ACode :=
  (.seq (.block 1 c57_4) c57_1)
def c57_6 : ACode :=
  (.cond (.s 11) .skip (.exit 0))
def c57_7 : ACode :=
  (.seq (.seq (.region false [⟨some 7, none, .mv (.s 6)⟩,
    ⟨some 8, none, .fa 1 (.s 2)⟩,
    ⟨some 9, none, .ld false 1 (.s 8)⟩,
    ⟨some 10, none, .len (.s 9)⟩,
    ⟨some 11, none, .bin .lss (.s 7) (.s 10)⟩] [] [1, 2, 4, 6, 11]) c57_6) c57_5)
def c57_8 : ACode :=
  (.loop c57_7)
def c57_9 : ACode :=
  (.block 0 c57_8)
def c57_10 : ACode :=
  (.seq (.seq (.region false [⟨some 6, none, .cst (.t (.int .i64 0))⟩] [] [1, 2, 4, 6]) c57_9) c57_0)
def c57 : ACode :=
  (.seq (.region false [⟨some 2, none, .box 2 (.s 0)⟩,
    ⟨some 4, none, .alloc [.t (.int .i64 0), .t (.int .i64 0), .t (.str []), .nils, .nils]⟩,
    ⟨some 5, none, .cst (.t (.bool false))⟩] [] [1, 2, 4]) c57_10)
def r57 : List ARes := [.cell 4 true 5, .tmp 5]
def n57 : Nat := 29
/- 58 supergraph supergraphref25.Size -/
/- 59 supergraph supergraphref10.Check -/
/- 60 supergraph supergraphlaw25.user -/
/- 61 (*supergraph moves.judge).keys -/
/- 62 supergraph moves.keysOf -/
/- 63 (*supergraph moves.judge).field -/
/- 64 supergraph moves.set -/
def c64_0 : ACode :=
  (.seq (.region false [⟨some 23, none, .mv (.s 7)⟩,
    ⟨some 4, none, .mv (.s 23)⟩] [] [4]) .ret)
def c64_1 : ACode :=
  (.seq (.region false [⟨some 4, none, .cst (.nils)⟩] [] [4]) .ret)
def c64_2 : ACode :=
  (.cond (.s 22) c64_1 .skip)
def c64_3 : ACode :=
  (.seq (.seq (.region false [⟨some 21, none, .mv (.s 8)⟩,
    ⟨some 22, none, .bin .neq (.s 21) (.c (.t (.int .i64 0)))⟩] [] [7, 22]) c64_2) c64_0)
def c64_4 : ACode :=
  (.seq (.region false [⟨some 16, none, .fa 2 (.s 5)⟩,
    ⟨some 17, none, .ld false 1 (.s 16)⟩,
    ⟨some 18, none, .call 13 [(.s 17)]⟩,
    ⟨some 15, none, .mv (.s 18)⟩,
    ⟨some 19, none, .ext (.s 15) 0⟩,
    ⟨some 20, none, .ext (.s 15) 1⟩,
    ⟨some 7, none, .mv (.s 19)⟩,
    ⟨some 8, none, .mv (.s 20)⟩] [] [7, 8]) c64_3)
def c64_5 : ACode :=
  (.seq (.region false [⟨some 10, none, .mv (.s 0)⟩,
    ⟨some 11, none, .mv (.s 1)⟩,
    ⟨some 12, none, .call 23 [(.s 10), (.s 11), (.c (.t (.str [102, 105, 101, 108, 100, 115])))]⟩,
    ⟨some 9, none, .mv (.s 12)⟩,
    ⟨some 13, none, .ext (.s 9) 0⟩,
    ⟨some 14, none, .ext (.s 9) 1⟩,
    ⟨some 5, none, .alloc [.t (.int .i64 0), .t (.int .i64 0), .t (.str []), .nils, .nils]⟩,
    ⟨none, none, .st 5 (.s 5) (.s 13)⟩,
    ⟨some 6, none, .mv (.s 14)⟩] [] [5]) c64_4)
def c64 : ACode :=
  (.seq (.region false [⟨some 4, none, .cst (.nils)⟩] [] [0, 1]) c64_5)
def r64 : List ARes := [.tmp 4]
def n64 : Nat := 24
/- 65 supergraph schema.Find -/
/- 66 supergraph schema.FieldOf -/
/- 67 supergraph supergraphref25.bareInputs -/
/- 68 slices.Clone[[]string,string] -/
/- 69 strings.genSplit -/
def c69_0 : ACode :=
  (.seq (.region false [⟨some 62, none, .mv (.s 9)⟩,
    ⟨some 63, none, .mv (.s 10)⟩,
    ⟨some 64, none, .bin .add (.s 63) (.c (.t (.int .i64 1)))⟩,
    ⟨some 65, none, .sll 1 (.s 62) none (some (.s 64))⟩,
    ⟨some 8, none, .mv (.s 65)⟩] [] [8]) .ret)
def c69_1 : ACode :=
  (.seq (.region false [⟨some 58, none, .mv (.s 9)⟩,
    ⟨some 59, none, .mv (.s 10)⟩,
    ⟨some 60, none, .mv (.s 0)⟩,
    ⟨some 61, none, .ia 1 (.s 58) (.s 59)⟩,
    ⟨none, none, .st 1 (.s 61) (.s 60)⟩] [] [9, 10]) c69_0)
def c69_2 : ACode :=
  (.region false [⟨some 56, none, .mv (.s 10)⟩,
    ⟨some 57, none, .bin .add (.s 56) (.c (.t (.int .i64 1)))⟩,
    ⟨some 10, none, .mv (.s 57)⟩] [] [0, 1, 2, 3, 9, 10])
def c69_3 : ACode :=
  (.seq (.region false [⟨some 50, none, .mv (.s 0)⟩,
    ⟨some 51, none, .mv (.s 11)⟩,
    ⟨some 52, none, .mv (.s 1)⟩,
    ⟨some 53, none, .lens (.s 52)⟩,
    ⟨some 54, none, .bin .add (.s 51) (.s 53)⟩,
    ⟨some 55, none, .sls (.s 50) (some (.s 54)) none⟩,
    ⟨some 0, none, .mv (.s 55)⟩] [] [0, 1, 2, 3, 9, 10]) c69_2)
def c69_4 : ACode :=
  (.seq (.region false [⟨some 42, none, .mv (.s 9)⟩,
    ⟨some 43, none, .mv (.s 10)⟩,
    ⟨some 44, none, .mv (.s 0)⟩,
    ⟨some 45, none, .mv (.s 11)⟩,
    ⟨some 46, none, .mv (.s 2)⟩,
    ⟨some 47, none, .bin .add (.s 45) (.s 46)⟩,
    ⟨some 48, none, .sls (.s 44) none (some (.s 47))⟩,
    ⟨some 49, none, .ia 1 (.s 42) (.s 43)⟩,
    ⟨none, none, .st 1 (.s 49) (.s 48)⟩] [] [0, 1, 2, 3, 9, 10, 11]) c69_3)
def c69_5 : ACode :=
  (.cond (.s 41) (.exit 0) .skip)
def c69_6 : ACode :=
  (.seq (.seq (.region false [⟨some 40, none, .mv (.s 11)⟩,
    ⟨some 41, none, .bin .lss (.s 40) (.c (.t (.int .i64 0)))⟩] [] [0, 1, 2, 3, 9, 10, 11, 41]) c69_5) c69_4)
def c69_7 : ACode :=
  (.seq (.region false [⟨some 37, none, .mv (.s 0)⟩,
    ⟨some 38, none, .mv (.s 1)⟩,
    ⟨some 39, none, .call 90 [(.s 37), (.s 38)]⟩,
    ⟨some 11, none, .mv (.s 39)⟩] [] [0, 1, 2, 3, 9, 10, 11]) c69_6)
def c69_8 : ACode :=
  (.block 1 c69_7)
def c69_9 : ACode :=
  (.cond (.s 36) .skip (.exit 0))
def c69_10 : ACode :=
  (.seq (.seq (.region false [⟨some 34, none, .mv (.s 10)⟩,
    ⟨some 35, none, .mv (.s 3)⟩,
    ⟨some 36, none, .bin .lss (.s 34) (.s 35)⟩] [] [0, 1, 2, 3, 9, 10, 36]) c69_9) c69_8)
def c69_11 : ACode :=
  (.loop c69_10)
def c69_12 : ACode :=
  (.seq (.block 0 c69_11) c69_1)
def c69_13 : ACode :=
  (.seq (.region false [⟨some 10, none, .cst (.t (.int .i64 0))⟩] [] [0, 1, 2, 3, 9, 10]) c69_12)
def c69_14 : ACode :=
  (.seq (.region false [⟨some 32, none, .mv (.s 3)⟩,
    ⟨some 33, none, .bin .sub (.s 32) (.c (.t (.int .i64 1)))⟩,
    ⟨some 3, none, .mv (.s 33)⟩] [] [0, 1, 2, 3, 9]) c69_13)
def c69_15 : ACode :=
  (.seq (.region false [⟨some 30, none, .mv (.s 3)⟩,
    ⟨some 31, none, .mksl 1 16 [.t (.str [])] (.s 30)⟩,
    ⟨some 9, none, .mv (.s 31)⟩] [] [0, 1, 2, 3, 9]) c69_14)
def c69_16 : ACode :=
  (.seq (.region false [⟨some 25, none, .mv (.s 3)⟩,
    ⟨some 26, none, .mv (.s 0)⟩,
    ⟨some 27, none, .lens (.s 26)⟩,
    ⟨some 28, none, .bin .add (.s 27) (.c (.t (.int .i64 1)))⟩,
    ⟨some 29, none, .mini (.s 25) (.s 28)⟩,
    ⟨some 3, none, .mv (.s 29)⟩] [] [0, 1, 2, 3]) c69_15)
def c69_17 : ACode :=
  (.region false [⟨some 21, none, .mv (.s 0)⟩,
    ⟨some 22, none, .mv (.s 1)⟩,
    ⟨some 23, none, .call 89 [(.s 21), (.s 22)]⟩,
    ⟨some 24, none, .bin .add (.s 23) (.c (.t (.int .i64 1)))⟩,
    ⟨some 3, none, .mv (.s 24)⟩] [] [0, 1, 2, 3])
def c69_18 : ACode :=
  (.cond (.s 20) c69_17 .skip)
def c69_19 : ACode :=
  (.seq (.seq (.region false [⟨some 19, none, .mv (.s 3)⟩,
    ⟨some 20, none, .bin .lss (.s 19) (.c (.t (.int .i64 0)))⟩] [] [0, 1, 2, 3, 20]) c69_18) c69_16)
def c69_20 : ACode :=
  (.seq (.region false [⟨some 16, none, .mv (.s 0)⟩,
    ⟨some 17, none, .mv (.s 3)⟩,
    ⟨some 18, none, .call 88 [(.s 16), (.s 17)]⟩,
    ⟨some 8, none, .mv (.s 18)⟩] [] [8]) .ret)
def c69_21 : ACode :=
  (.cond (.s 15) c69_20 .skip)
def c69_22 : ACode :=
  (.seq (.seq (.region false [⟨some 14, none, .mv (.s 1)⟩,
    ⟨some 15, none, .bin .eql (.s 14) (.c (.t (.str [])))⟩] [] [0, 1, 2, 3, 15]) c69_21) c69_19)
def c69_23 : ACode :=
  (.seq (.region false [⟨some 8, none, .cst (.nils)⟩] [] [8]) .ret)
def c69_24 : ACode :=
  (.cond (.s 13) c69_23 .skip)
def c69_25 : ACode :=
  (.seq (.seq (.region false [⟨some 12, none, .mv (.s 3)⟩,
    ⟨some 13, none, .bin .eql (.s 12) (.c (.t (.int .i64 0)))⟩] [] [0, 1, 2, 3, 13]) c69_24) c69_22)
def c69 : ACode :=
  (.seq (.region false [⟨some 8, none, .cst (.nils)⟩] [] [0, 1, 2, 3]) c69_25)
def r69 : List ARes := [.tmp 8]
def n69 : Nat := 66
/- 70 strings.HasPrefix -/
def c70_0 : ACode :=
  (.seq (.region false [⟨some 5, none, .mv (.s 0)⟩,
    ⟨some 6, none, .mv (.s 1)⟩,
    ⟨some 7, none, .call 91 [(.s 5), (.s 6)]⟩,
    ⟨some 4, none, .mv (.s 7)⟩] [] [4]) .ret)
def c70 : ACode :=
  (.seq (.region false [⟨some 4, none, .cst (.t (.bool false))⟩] [] [0, 1]) c70_0)
def r70 : List ARes := [.tmp 4]
def n70 : Nat := 8
/- 71 supergraph supergraphref01.letter -/
/- 72 supergraph supergraphref01.digit -/
/- 73 supergraph directives.judge -/
def c73_0 : ACode :=
  (.seq (.region false [⟨some 6, none, .cst (.t (.int .i64 0))⟩] [] [6]) .ret)
def c73_1 : ACode :=
  (.region false [⟨some 128, none, .bin .add (.s 111) (.c (.t (.int .i64 1)))⟩,
    ⟨some 111, none, .mv (.s 128)⟩] [] [8, 109, 110, 111])
def c73_2 : ACode :=
  (.seq (.region false [⟨some 6, none, .cst (.t (.int .i64 23))⟩] [] [6]) .ret)
def c73_3 : ACode :=
  (.cond (.s 127) c73_2 .skip)
def c73_4 : ACode :=
  (.seq (.region false [⟨some 122, none, .fa 2 (.s 22)⟩,
    ⟨some 123, none, .ld false 1 (.s 122)⟩,
    ⟨some 124, none, .fa 1 (.s 21)⟩,
    ⟨some 125, none, .ld true 5 (.s 124)⟩,
    ⟨some 126, none, .callv (.s 123) [(.s 125)]⟩,
    ⟨some 127, none, .un .not (.s 126)⟩] [] [8, 109, 110, 111, 127]) c73_3)
def c73_5 : ACode :=
  (.seq (.region false [⟨some 116, none, .ld true 3 (.s 8)⟩,
    ⟨some 117, none, .fa 0 (.s 21)⟩,
    ⟨some 118, none, .ld false 1 (.s 117)⟩,
    ⟨some 119, none, .call 93 [(.s 116), (.s 118)]⟩,
    ⟨some 115, none, .mv (.s 119)⟩,
    ⟨some 120, none, .ext (.s 115) 0⟩,
    ⟨some 121, none, .ext (.s 115) 1⟩,
    ⟨some 22, none, .alloc [.t (.str []), .t (.bool false), .t (.nilf)]⟩,
    ⟨none, none, .st 3 (.s 22) (.s 120)⟩,
    ⟨some 23, none, .mv (.s 121)⟩] [] [8, 21, 22, 109, 110, 111]) c73_4)
def c73_6 : ACode :=
  (.seq (.region false [⟨some 113, none, .ia 6 (.s 109) (.s 111)⟩,
    ⟨some 114, none, .ld true 6 (.s 113)⟩,
    ⟨some 21, none, .alloc [.t (.str []), .t (.int .i64 0), .t (.int .i64 0), .t (.str []), .nils, .nils]⟩,
    ⟨none, none, .st 6 (.s 21) (.s 114)⟩] [] [8, 21, 109, 110, 111]) c73_5)
def c73_7 : ACode :=
  (.seq (.block 6 c73_6) c73_1)
def c73_8 : ACode :=
  (.seq (.cond (.s 112) .skip (.exit 5)) c73_7)
def c73_9 : ACode :=
  (.seq (.region false [⟨some 112, none, .bin .lss (.s 111) (.s 110)⟩] [] [8, 109, 110, 111, 112]) c73_8)
def c73_10 : ACode :=
  (.loop c73_9)
def c73_11 : ACode :=
  (.block 5 c73_10)
def c73_12 : ACode :=
  (.seq (.seq (.region false [⟨some 108, none, .fa 1 (.s 7)⟩,
    ⟨some 109, none, .ld false 1 (.s 108)⟩,
    ⟨some 110, none, .len (.s 109)⟩,
    ⟨some 111, none, .cst (.t (.int .i64 0))⟩] [] [8, 109, 110, 111]) c73_11) c73_0)
def c73_13 : ACode :=
  (.region false [⟨some 107, none, .bin .add (.s 89) (.c (.t (.int .i64 1)))⟩,
    ⟨some 89, none, .mv (.s 107)⟩] [] [7, 8, 87, 88, 89])
def c73_14 : ACode :=
  (.seq (.region false [⟨some 6, none, .cst (.t (.int .i64 22))⟩] [] [6]) .ret)
def c73_15 : ACode :=
  (.cond (.s 106) c73_14 .skip)
def c73_16 : ACode :=
  (.seq (.region false [⟨some 100, none, .mv (.s 19)⟩,
    ⟨some 101, none, .un .not (.s 100)⟩,
    ⟨some 102, none, .mv (.s 101)⟩,
    ⟨some 103, some (102, true), .fa 1 (.s 17)⟩,
    ⟨some 104, some (102, true), .ld false 1 (.s 103)⟩,
    ⟨some 105, some (102, true), .un .not (.s 104)⟩,
    ⟨some 106, none, .pick (.s 102) (.s 105) (.c (.t (.bool false)))⟩] [] [7, 8, 87, 88, 89, 106]) c73_15)
def c73_17 : ACode :=
  (.seq (.region false [⟨some 94, none, .ld true 2 (.s 7)⟩,
    ⟨some 95, none, .fa 0 (.s 17)⟩,
    ⟨some 96, none, .ld false 1 (.s 95)⟩,
    ⟨some 97, none, .call 56 [(.s 94), (.s 96)]⟩,
    ⟨some 93, none, .mv (.s 97)⟩,
    ⟨some 98, none, .ext (.s 93) 0⟩,
    ⟨some 99, none, .ext (.s 93) 1⟩,
    ⟨some 18, none, .alloc [.t (.int .i64 0), .t (.int .i64 0), .t (.str []), .nils, .nils]⟩,
    ⟨none, none, .st 5 (.s 18) (.s 98)⟩,
    ⟨some 19, none, .mv (.s 99)⟩] [] [7, 8, 17, 19, 87, 88, 89]) c73_16)
def c73_18 : ACode :=
  (.seq (.region false [⟨some 91, none, .ia 3 (.s 87) (.s 89)⟩,
    ⟨some 92, none, .ld true 3 (.s 91)⟩,
    ⟨some 17, none, .alloc [.t (.str []), .t (.bool false), .t (.nilf)]⟩,
    ⟨none, none, .st 3 (.s 17) (.s 92)⟩] [] [7, 8, 17, 87, 88, 89]) c73_17)
def c73_19 : ACode :=
  (.seq (.block 4 c73_18) c73_13)
def c73_20 : ACode :=
  (.seq (.cond (.s 90) .skip (.exit 3)) c73_19)
def c73_21 : ACode :=
  (.seq (.region false [⟨some 90, none, .bin .lss (.s 89) (.s 88)⟩] [] [7, 8, 87, 88, 89, 90]) c73_20)
def c73_22 : ACode :=
  (.loop c73_21)
def c73_23 : ACode :=
  (.block 3 c73_22)
def c73_24 : ACode :=
  (.seq (.seq (.region false [⟨some 86, none, .fa 2 (.s 8)⟩,
    ⟨some 87, none, .ld false 1 (.s 86)⟩,
    ⟨some 88, none, .len (.s 87)⟩,
    ⟨some 89, none, .cst (.t (.int .i64 0))⟩] [] [7, 8, 87, 88, 89]) c73_23) c73_12)
def c73_25 : ACode :=
  (.region false [⟨some 85, none, .bin .add (.s 59) (.c (.t (.int .i64 1)))⟩,
    ⟨some 59, none, .mv (.s 85)⟩] [] [7, 8, 57, 58, 59])
def c73_26 : ACode :=
  (.seq (.region false [⟨some 6, none, .cst (.t (.int .i64 22))⟩] [] [6]) .ret)
def c73_27 : ACode :=
  (.cond (.s 84) c73_26 .skip)
def c73_28 : ACode :=
  (.seq (.region false [⟨some 84, none, .mv (.s 15)⟩] [] [7, 8, 57, 58, 59, 84]) c73_27)
def c73_29 : ACode :=
  (.seq (.region true [⟨some 74, none, .fa 1 (.s 7)⟩,
    ⟨some 75, none, .ld false 1 (.s 74)⟩,
    ⟨some 76, none, .mv (.s 10)⟩,
    ⟨some 77, none, .sll 6 (.s 75) none (some (.s 76))⟩,
    ⟨some 78, none, .build [.t (.str []), .nils] [(1, 1, (.s 77))]⟩,
    ⟨some 79, none, .fa 0 (.s 11)⟩,
    ⟨some 80, none, .ld false 1 (.s 79)⟩,
    ⟨some 81, none, .call 56 [(.s 78), (.s 80)]⟩,
    ⟨some 73, none, .mv (.s 81)⟩,
    ⟨some 82, none, .ext (.s 73) 0⟩,
    ⟨some 83, none, .ext (.s 73) 1⟩,
    ⟨some 14, none, .alloc [.t (.int .i64 0), .t (.int .i64 0), .t (.str []), .nils, .nils]⟩,
    ⟨none, none, .st 5 (.s 14) (.s 82)⟩,
    ⟨some 15, none, .mv (.s 83)⟩] [[], [0], [], [1, 2], [3], [], [5], [4, 6], [7], [8], [8], [], [11, 9, 7, 0, 1, 2, 3, 4, 5, 6, 7, 8, 9, 11], [10, 12, 0, 1, 2, 3, 4, 5, 6, 7, 8, 9, 10, 11, 12]] [7, 8, 15, 57, 58, 59]) c73_28)
def c73_30 : ACode :=
  (.seq (.region false [⟨some 6, none, .cst (.t (.int .i64 22))⟩] [] [6]) .ret)
def c73_31 : ACode :=
  (.cond (.s 72) c73_30 .skip)
def c73_32 : ACode :=
  (.seq (.region false [⟨some 71, none, .mv (.s 13)⟩,
    ⟨some 72, none, .un .not (.s 71)⟩] [] [7, 8, 10, 11, 57, 58, 59, 72]) c73_31)
def c73_33 : ACode :=
  (.seq (.seq (.region false [⟨some 65, none, .ld true 3 (.s 8)⟩,
    ⟨some 66, none, .fa 0 (.s 11)⟩,
    ⟨some 67, none, .ld false 1 (.s 66)⟩,
    ⟨some 68, none, .call 93 [(.s 65), (.s 67)]⟩,
    ⟨some 64, none, .mv (.s 68)⟩,
    ⟨some 69, none, .ext (.s 64) 0⟩,
    ⟨some 70, none, .ext (.s 64) 1⟩,
    ⟨some 12, none, .alloc [.t (.str []), .t (.bool false), .t (.nilf)]⟩,
    ⟨none, none, .st 3 (.s 12) (.s 69)⟩,
    ⟨some 13, none, .mv (.s 70)⟩] [] [7, 8, 10, 11, 13, 57, 58, 59]) c73_32) c73_29)
def c73_34 : ACode :=
  (.seq (.region false [⟨some 61, none, .mv (.s 59)⟩,
    ⟨some 62, none, .ia 6 (.s 57) (.s 59)⟩,
    ⟨some 63, none, .ld true 6 (.s 62)⟩,
    ⟨some 11, none, .alloc [.t (.str []), .t (.int .i64 0), .t (.int .i64 0), .t (.str []), .nils, .nils]⟩,
    ⟨some 10, none, .mv (.s 61)⟩,
    ⟨none, none, .st 6 (.s 11) (.s 63)⟩] [] [7, 8, 10, 11, 57, 58, 59]) c73_33)
def c73_35 : ACode :=
  (.seq (.block 2 c73_34) c73_25)
def c73_36 : ACode :=
  (.seq (.cond (.s 60) .skip (.exit 1)) c73_35)
def c73_37 : ACode :=
  (.seq (.region false [⟨some 60, none, .bin .lss (.s 59) (.s 58)⟩] [] [7, 8, 57, 58, 59, 60]) c73_36)
def c73_38 : ACode :=
  (.loop c73_37)
def c73_39 : ACode :=
  (.block 1 c73_38)
def c73_40 : ACode :=
  (.seq (.seq (.region false [⟨some 56, none, .fa 1 (.s 7)⟩,
    ⟨some 57, none, .ld false 1 (.s 56)⟩,
    ⟨some 58, none, .len (.s 57)⟩,
    ⟨some 59, none, .cst (.t (.int .i64 0))⟩] [] [7, 8, 57, 58, 59]) c73_39) c73_24)
def c73_41 : ACode :=
  (.seq (.region false [⟨some 6, none, .cst (.t (.int .i64 29))⟩] [] [6]) .ret)
def c73_42 : ACode :=
  (.seq (.region false [⟨some 6, none, .cst (.t (.int .i64 7))⟩] [] [6]) .ret)
def c73_43 : ACode :=
  (.cond (.s 44) c73_42 .skip)
def c73_44 : ACode :=
  (.seq (.region true [⟨some 45, none, .fa 1 (.s 8)⟩,
    ⟨some 46, none, .ld false 1 (.s 45)⟩,
    ⟨some 47, none, .un .not (.s 46)⟩,
    ⟨some 48, none, .mv (.s 47)⟩,
    ⟨some 49, some (48, true), .mv (.s 0)⟩,
    ⟨some 50, some (48, true), .mv (.s 1)⟩,
    ⟨some 51, some (48, true), .sll 2 (.s 49) none (some (.s 50))⟩,
    ⟨some 52, some (48, true), .fa 0 (.s 7)⟩,
    ⟨some 53, some (48, true), .ld false 1 (.s 52)⟩,
    ⟨some 54, some (48, true), .call 25 [(.s 51), (.s 53)]⟩,
    ⟨some 55, none, .pick (.s 48) (.s 54) (.c (.t (.bool false)))⟩,
    ⟨some 44, none, .mv (.s 55)⟩] [[], [0], [1], [2], [3], [3], [4, 5, 3], [3], [7, 3], [6, 8, 3, 3], [3, 9], [10, 9]] [7, 8, 44]) c73_43)
def c73_45 : ACode :=
  (.cond (.s 34) c73_41 c73_44)
def c73_46 : ACode :=
  (.seq (.region false [⟨some 35, none, .mv (.s 9)⟩,
    ⟨some 36, none, .un .not (.s 35)⟩,
    ⟨some 37, none, .mv (.s 36)⟩,
    ⟨some 38, some (37, false), .fa 0 (.s 8)⟩,
    ⟨some 39, some (37, false), .ld false 1 (.s 38)⟩,
    ⟨some 40, some (37, false), .mv (.s 2)⟩,
    ⟨some 41, some (37, false), .bin .and (.s 39) (.s 40)⟩,
    ⟨some 42, some (37, false), .bin .eql (.s 41) (.c (.t (.int .i64 0)))⟩,
    ⟨some 43, none, .pick (.s 37) (.c (.t (.bool true))) (.s 42)⟩,
    ⟨some 34, none, .mv (.s 43)⟩] [] [0, 1, 7, 8, 34]) c73_45)
def c73_47 : ACode :=
  (.seq (.block 0 c73_46) c73_40)
def c73_48 : ACode :=
  (.seq (.region false [⟨some 29, none, .fa 0 (.s 7)⟩,
    ⟨some 30, none, .ld false 1 (.s 29)⟩,
    ⟨some 31, none, .call 92 [(.s 30)]⟩,
    ⟨some 28, none, .mv (.s 31)⟩,
    ⟨some 32, none, .ext (.s 28) 0⟩,
    ⟨some 33, none, .ext (.s 28) 1⟩,
    ⟨some 8, none, .alloc [.t (.int .i64 0), .t (.bool false), .nils]⟩,
    ⟨none, none, .st 3 (.s 8) (.s 32)⟩,
    ⟨some 9, none, .mv (.s 33)⟩] [] [0, 1, 2, 7, 8, 9]) c73_47)
def c73_49 : ACode :=
  (.seq (.region false [⟨some 24, none, .mv (.s 0)⟩,
    ⟨some 25, none, .mv (.s 1)⟩,
    ⟨some 26, none, .ia 2 (.s 24) (.s 25)⟩,
    ⟨some 27, none, .ld true 2 (.s 26)⟩,
    ⟨some 7, none, .alloc [.t (.str []), .nils]⟩,
    ⟨none, none, .st 2 (.s 7) (.s 27)⟩] [] [0, 1, 2, 7]) c73_48)
def c73 : ACode :=
  (.seq (.region false [⟨some 6, none, .cst (.t (.int .i64 0))⟩] [] [0, 1, 2]) c73_49)
def r73 : List ARes := [.tmp 6]
def n73 : Nat := 129
/- 74 supergraph supergraphref23.arguments -/
/- 75 supergraph supergraphref23.may -/
/- 76 supergraph supergraphref10.whole -/
/- 77 supergraph supergraphref10.fields -/
/- 78 supergraph supergraphref10.members -/
/- 79 supergraph supergraphref10.inputs -/
/- 80 supergraph supergraphref10.Find -/
/- 81 supergraph schema.Leaf -/
/- 82 (*supergraph moves.judge).add -/
/- 83 supergraph moves.mentioned -/
/- 84 (*supergraph moves.judge).others -/
/- 85 (*supergraph moves.judge).leant -/
/- 86 supergraph moves.outside -/
/- 87 supergraph moves.isKey -/
/- 88 strings.explode -/
/- 89 strings.Count -/
def c89_0 : ACode :=
  (.region false [⟨some 28, none, .mv (.s 0)⟩,
    ⟨some 29, none, .mv (.s 6)⟩,
    ⟨some 30, none, .mv (.s 1)⟩,
    ⟨some 31, none, .lens (.s 30)⟩,
    ⟨some 32, none, .bin .add (.s 29) (.s 31)⟩,
    ⟨some 33, none, .sls (.s 28) (some (.s 32)) none⟩,
    ⟨some 0, none, .mv (.s 33)⟩] [] [0, 1, 5])
def c89_1 : ACode :=
  (.seq (.region false [⟨some 26, none, .mv (.s 5)⟩,
    ⟨some 27, none, .bin .add (.s 26) (.c (.t (.int .i64 1)))⟩,
    ⟨some 5, none, .mv (.s 27)⟩] [] [0, 1, 5, 6]) c89_0)
def c89_2 : ACode :=
  (.seq (.region false [⟨some 25, none, .mv (.s 5)⟩,
    ⟨some 4, none, .mv (.s 25)⟩] [] [4]) .ret)
def c89_3 : ACode :=
  (.cond (.s 24) c89_2 .skip)
def c89_4 : ACode :=
  (.seq (.seq (.region false [⟨some 23, none, .mv (.s 6)⟩,
    ⟨some 24, none, .bin .eql (.s 23) (.c (.t (.int .i64 (-1))))⟩] [] [0, 1, 5, 6, 24]) c89_3) c89_1)
def c89_5 : ACode :=
  (.seq (.region false [⟨some 20, none, .mv (.s 0)⟩,
    ⟨some 21, none, .mv (.s 1)⟩,
    ⟨some 22, none, .call 90 [(.s 20), (.s 21)]⟩,
    ⟨some 6, none, .mv (.s 22)⟩] [] [0, 1, 5, 6]) c89_4)
def c89_6 : ACode :=
  (.block 1 c89_5)
def c89_7 : ACode :=
  (.loop c89_6)
def c89_8 : ACode :=
  (.block 0 c89_7)
def c89_9 : ACode :=
  (.seq (.region false [⟨some 5, none, .cst (.t (.int .i64 0))⟩] [] [0, 1, 5]) c89_8)
def c89_10 : ACode :=
  (.seq (.region false [⟨some 16, none, .mv (.s 0)⟩,
    ⟨some 17, none, .mv (.s 1)⟩,
    ⟨some 18, none, .ixs (.s 17) (.c (.t (.int .i64 0)))⟩,
    ⟨some 19, none, .nw (.xtr true (.s 16) (.s 18))⟩,
    ⟨some 4, none, .mv (.s 19)⟩] [] [4]) .ret)
def c89_11 : ACode :=
  (.cond (.s 15) c89_10 .skip)
def c89_12 : ACode :=
  (.seq (.seq (.region false [⟨some 13, none, .mv (.s 1)⟩,
    ⟨some 14, none, .lens (.s 13)⟩,
    ⟨some 15, none, .bin .eql (.s 14) (.c (.t (.int .i64 1)))⟩] [] [0, 1, 15]) c89_11) c89_9)
def c89_13 : ACode :=
  (.seq (.region false [⟨some 10, none, .mv (.s 0)⟩,
    ⟨some 11, none, .call 113 [(.s 10)]⟩,
    ⟨some 12, none, .bin .add (.s 11) (.c (.t (.int .i64 1)))⟩,
    ⟨some 4, none, .mv (.s 12)⟩] [] [4]) .ret)
def c89_14 : ACode :=
  (.cond (.s 9) c89_13 .skip)
def c89_15 : ACode :=
  (.seq (.seq (.region false [⟨some 7, none, .mv (.s 1)⟩,
    ⟨some 8, none, .lens (.s 7)⟩,
    ⟨some 9, none, .bin .eql (.s 8) (.c (.t (.int .i64 0)))⟩] [] [0, 1, 9]) c89_14) c89_12)
def c89 : ACode :=
  (.seq (.region false [⟨some 4, none, .cst (.t (.int .i64 0))⟩] [] [0, 1]) c89_15)
def r89 : List ARes := [.tmp 4]
def n89 : Nat := 34
/- 90 strings.Index -/
def c90_0 : ACode :=
  (.seq (.region false [⟨some 5, none, .mv (.s 0)⟩,
    ⟨some 6, none, .mv (.s 1)⟩,
    ⟨some 7, none, .call 116 [(.s 5), (.s 6)]⟩,
    ⟨some 4, none, .mv (.s 7)⟩] [] [4]) .ret)
def c90 : ACode :=
  (.seq (.region false [⟨some 4, none, .cst (.t (.int .i64 0))⟩] [] [0, 1]) c90_0)
def r90 : List ARes := [.tmp 4]
def n90 : Nat := 8
/- 91 internal stringslite.HasPrefix -/
def c91_0 : ACode :=
  (.seq (.region false [⟨some 5, none, .mv (.s 0)⟩,
    ⟨some 6, none, .lens (.s 5)⟩,
    ⟨some 7, none, .mv (.s 1)⟩,
    ⟨some 8, none, .lens (.s 7)⟩,
    ⟨some 9, none, .bin .geq (.s 6) (.s 8)⟩,
    ⟨some 10, none, .mv (.s 9)⟩,
    ⟨some 11, some (10, true), .mv (.s 0)⟩,
    ⟨some 12, some (10, true), .mv (.s 1)⟩,
    ⟨some 13, some (10, true), .lens (.s 12)⟩,
    ⟨some 14, some (10, true), .sls (.s 11) none (some (.s 13))⟩,
    ⟨some 15, some (10, true), .mv (.s 1)⟩,
    ⟨some 16, some (10, true), .bin .eql (.s 14) (.s 15)⟩,
    ⟨some 17, none, .pick (.s 10) (.s 16) (.c (.t (.bool false)))⟩,
    ⟨some 4, none, .mv (.s 17)⟩] [] [4]) .ret)
def c91 : ACode :=
  (.seq (.region false [⟨some 4, none, .cst (.t (.bool false))⟩] [] [0, 1]) c91_0)
def r91 : List ARes := [.tmp 4]
def n91 : Nat := 18
/- 92 supergraph directives.ruleOf -/
def c92_0 : ACode :=
  (.seq (.region false [⟨some 63, none, .build [.t (.int .i64 0), .t (.bool false), .nils] []⟩,
    ⟨none, none, .st 3 (.s 2) (.s 63)⟩,
    ⟨some 3, none, .cst (.t (.bool false))⟩] [] [2, 3]) .ret)
def c92_1 : ACode :=
  (.seq (.region false [⟨some 7, none, .build [.t (.str []), .t (.bool false), .t (.nilf)] [(0, 1, (.c (.t (.str [102, 105, 101, 108, 100, 115])))), (1, 1, (.c (.t (.bool false)))), (2, 1, (.c (.t (.fn 117))))]⟩,
    ⟨some 8, none, .bsl true 3 [[.str [], .bool false, .nilf]] [(0, (.s 7))]⟩,
    ⟨some 9, none, .build [.t (.int .i64 0), .t (.bool false), .nils] [(0, 1, (.c (.t (.int .i64 1)))), (1, 1, (.c (.t (.bool true)))), (2, 1, (.s 8))]⟩,
    ⟨none, none, .st 3 (.s 2) (.s 9)⟩,
    ⟨some 3, none, .cst (.t (.bool true))⟩] [] [2, 3]) .ret)
def c92_2 : ACode :=
  (.seq (.region false [⟨some 12, none, .build [.t (.int .i64 0), .t (.bool false), .nils] [(0, 1, (.c (.t (.int .i64 4)))), (1, 1, (.c (.t (.bool false)))), (2, 1, (.c (.nils)))]⟩,
    ⟨none, none, .st 3 (.s 2) (.s 12)⟩,
    ⟨some 3, none, .cst (.t (.bool true))⟩] [] [2, 3]) .ret)
def c92_3 : ACode :=
  (.seq (.region false [⟨some 15, none, .build [.t (.int .i64 0), .t (.bool false), .nils] [(0, 1, (.c (.t (.int .i64 4)))), (1, 1, (.c (.t (.bool false)))), (2, 1, (.c (.nils)))]⟩,
    ⟨none, none, .st 3 (.s 2) (.s 15)⟩,
    ⟨some 3, none, .cst (.t (.bool true))⟩] [] [2, 3]) .ret)
def c92_4 : ACode :=
  (.seq (.region false [⟨some 18, none, .build [.t (.int .i64 0), .t (.bool false), .nils] [(0, 1, (.c (.t (.int .i64 4)))), (1, 1, (.c (.t (.bool false)))), (2, 1, (.c (.nils)))]⟩,
    ⟨none, none, .st 3 (.s 2) (.s 18)⟩,
    ⟨some 3, none, .cst (.t (.bool true))⟩] [] [2, 3]) .ret)
def c92_5 : ACode :=
  (.seq (.region false [⟨some 21, none, .build [.t (.str []), .t (.bool false), .t (.nilf)] [(0, 1, (.c (.t (.str [102, 105, 101, 108, 100, 115])))), (1, 1, (.c (.t (.bool false)))), (2, 1, (.c (.t (.fn 117))))]⟩,
    ⟨some 22, none, .bsl true 3 [[.str [], .bool false, .nilf]] [(0, (.s 21))]⟩,
    ⟨some 23, none, .build [.t (.int .i64 0), .t (.bool false), .nils] [(0, 1, (.c (.t (.int .i64 4)))), (1, 1, (.c (.t (.bool false)))), (2, 1, (.s 22))]⟩,
    ⟨none, none, .st 3 (.s 2) (.s 23)⟩,
    ⟨some 3, none, .cst (.t (.bool true))⟩] [] [2, 3]) .ret)
def c92_6 : ACode :=
  (.seq (.region false [⟨some 26, none, .build [.t (.str []), .t (.bool false), .t (.nilf)] [(0, 1, (.c (.t (.str [102, 105, 101, 108, 100, 115])))), (1, 1, (.c (.t (.bool false)))), (2, 1, (.c (.t (.fn 117))))]⟩,
    ⟨some 27, none, .bsl true 3 [[.str [], .bool false, .nilf]] [(0, (.s 26))]⟩,
    ⟨some 28, none, .build [.t (.int .i64 0), .t (.bool false), .nils] [(0, 1, (.c (.t (.int .i64 4)))), (1, 1, (.c (.t (.bool false)))), (2, 1, (.s 27))]⟩,
    ⟨none, none, .st 3 (.s 2) (.s 28)⟩,
    ⟨some 3, none, .cst (.t (.bool true))⟩] [] [2, 3]) .ret)
def c92_7 : ACode :=
  (.seq (.region false [⟨some 31, none, .build [.t (.str []), .t (.bool false), .t (.nilf)] [(0, 1, (.c (.t (.str [110, 97, 109, 101])))), (1, 1, (.c (.t (.bool false)))), (2, 1, (.c (.t (.fn 118))))]⟩,
    ⟨some 32, none, .bsl true 3 [[.str [], .bool false, .nilf]] [(0, (.s 31))]⟩,
    ⟨some 33, none, .build [.t (.int .i64 0), .t (.bool false), .nils] [(0, 1, (.c (.t (.int .i64 31)))), (1, 1, (.c (.t (.bool true)))), (2, 1, (.s 32))]⟩,
    ⟨none, none, .st 3 (.s 2) (.s 33)⟩,
    ⟨some 3, none, .cst (.t (.bool true))⟩] [] [2, 3]) .ret)
def c92_8 : ACode :=
  (.seq (.region false [⟨some 36, none, .build [.t (.int .i64 0), .t (.bool false), .nils] [(0, 1, (.c (.t (.int .i64 13)))), (1, 1, (.c (.t (.bool false)))), (2, 1, (.c (.nils)))]⟩,
    ⟨none, none, .st 3 (.s 2) (.s 36)⟩,
    ⟨some 3, none, .cst (.t (.bool true))⟩] [] [2, 3]) .ret)
def c92_9 : ACode :=
  (.seq (.region false [⟨some 39, none, .build [.t (.str []), .t (.bool false), .t (.nilf)] [(0, 1, (.c (.t (.str [97, 108, 108])))), (1, 1, (.c (.t (.bool false)))), (2, 1, (.c (.t (.fn 119))))]⟩,
    ⟨some 40, none, .bsl true 3 [[.str [], .bool false, .nilf]] [(0, (.s 39))]⟩,
    ⟨some 41, none, .build [.t (.int .i64 0), .t (.bool false), .nils] [(0, 1, (.c (.t (.int .i64 13)))), (1, 1, (.c (.t (.bool false)))), (2, 1, (.s 40))]⟩,
    ⟨none, none, .st 3 (.s 2) (.s 41)⟩,
    ⟨some 3, none, .cst (.t (.bool true))⟩] [] [2, 3]) .ret)
def c92_10 : ACode :=
  (.seq (.region false [⟨some 44, none, .build [.t (.str []), .t (.bool false), .t (.nilf)] [(0, 1, (.c (.t (.str [119, 101, 105, 103, 104, 116])))), (1, 1, (.c (.t (.bool false)))), (2, 1, (.c (.t (.fn 120))))]⟩,
    ⟨some 45, none, .bsl true 3 [[.str [], .bool false, .nilf]] [(0, (.s 44))]⟩,
    ⟨some 46, none, .build [.t (.int .i64 0), .t (.bool false), .nils] [(0, 1, (.c (.t (.int .i64 12)))), (1, 1, (.c (.t (.bool false)))), (2, 1, (.s 45))]⟩,
    ⟨none, none, .st 3 (.s 2) (.s 46)⟩,
    ⟨some 3, none, .cst (.t (.bool true))⟩] [] [2, 3]) .ret)
def c92_11 : ACode :=
  (.seq (.region false [⟨some 49, none, .build [.t (.str []), .t (.bool false), .t (.nilf)] [(0, 1, (.c (.t (.str [97, 115, 115, 117, 109, 101, 100])))), (1, 1, (.c (.t (.bool false)))), (2, 1, (.c (.t (.fn 120))))]⟩,
    ⟨some 50, none, .bsl true 3 [[.str [], .bool false, .nilf]] [(0, (.s 49))]⟩,
    ⟨some 51, none, .build [.t (.int .i64 0), .t (.bool false), .nils] [(0, 1, (.c (.t (.int .i64 12)))), (1, 1, (.c (.t (.bool false)))), (2, 1, (.s 50))]⟩,
    ⟨none, none, .st 3 (.s 2) (.s 51)⟩,
    ⟨some 3, none, .cst (.t (.bool true))⟩] [] [2, 3]) .ret)
def c92_12 : ACode :=
  (.seq (.region false [⟨some 54, none, .build [.t (.str []), .t (.bool false), .t (.nilf)] [(0, 1, (.c (.t (.str [109, 97, 120, 65, 103, 101])))), (1, 1, (.c (.t (.bool false)))), (2, 1, (.c (.t (.fn 120))))]⟩,
    ⟨some 55, none, .build [.t (.str []), .t (.bool false), .t (.nilf)] [(0, 1, (.c (.t (.str [112, 114, 105, 118, 97, 116, 101])))), (1, 1, (.c (.t (.bool true)))), (2, 1, (.c (.t (.fn 121))))]⟩,
    ⟨some 56, none, .bsl true 3 [[.str [], .bool false, .nilf], [.str [], .bool false, .nilf]] [(0, (.s 54)), (1, (.s 55))]⟩,
    ⟨some 57, none, .build [.t (.int .i64 0), .t (.bool false), .nils] [(0, 1, (.c (.t (.int .i64 13)))), (1, 1, (.c (.t (.bool false)))), (2, 1, (.s 56))]⟩,
    ⟨none, none, .st 3 (.s 2) (.s 57)⟩,
    ⟨some 3, none, .cst (.t (.bool true))⟩] [] [2, 3]) .ret)
def c92_13 : ACode :=
  (.seq (.region false [⟨some 60, none, .build [.t (.str []), .t (.bool false), .t (.nilf)] [(0, 1, (.c (.t (.str [114, 101, 97, 115, 111, 110])))), (1, 1, (.c (.t (.bool true)))), (2, 1, (.c (.t (.fn 118))))]⟩,
    ⟨some 61, none, .bsl true 3 [[.str [], .bool false, .nilf]] [(0, (.s 60))]⟩,
    ⟨some 62, none, .build [.t (.int .i64 0), .t (.bool false), .nils] [(0, 1, (.c (.t (.int .i64 28)))), (1, 1, (.c (.t (.bool false)))), (2, 1, (.s 61))]⟩,
    ⟨none, none, .st 3 (.s 2) (.s 62)⟩,
    ⟨some 3, none, .cst (.t (.bool true))⟩] [] [2, 3]) .ret)
def c92_14 : ACode :=
  (.cond (.s 58) c92_13 .skip)
def c92_15 : ACode :=
  (.seq (.region false [⟨some 59, none, .bin .eql (.s 4) (.c (.t (.str [100, 101, 112, 114, 101, 99, 97, 116, 101, 100])))⟩,
    ⟨some 58, none, .mv (.s 59)⟩] [] [2, 58]) c92_14)
def c92_16 : ACode :=
  (.cond (.s 52) c92_12 c92_15)
def c92_17 : ACode :=
  (.seq (.region false [⟨some 53, none, .bin .eql (.s 4) (.c (.t (.str [99, 97, 99, 104, 101, 67, 111, 110, 116, 114, 111, 108])))⟩,
    ⟨some 52, none, .mv (.s 53)⟩] [] [2, 4, 52]) c92_16)
def c92_18 : ACode :=
  (.cond (.s 47) c92_11 c92_17)
def c92_19 : ACode :=
  (.seq (.region false [⟨some 48, none, .bin .eql (.s 4) (.c (.t (.str [108, 105, 115, 116, 83, 105, 122, 101])))⟩,
    ⟨some 47, none, .mv (.s 48)⟩] [] [2, 4, 47]) c92_18)
def c92_20 : ACode :=
  (.cond (.s 42) c92_10 c92_19)
def c92_21 : ACode :=
  (.seq (.region false [⟨some 43, none, .bin .eql (.s 4) (.c (.t (.str [99, 111, 115, 116])))⟩,
    ⟨some 42, none, .mv (.s 43)⟩] [] [2, 4, 42]) c92_20)
def c92_22 : ACode :=
  (.cond (.s 37) c92_9 c92_21)
def c92_23 : ACode :=
  (.seq (.region false [⟨some 38, none, .bin .eql (.s 4) (.c (.t (.str [115, 99, 111, 112, 101, 115])))⟩,
    ⟨some 37, none, .mv (.s 38)⟩] [] [2, 4, 37]) c92_22)
def c92_24 : ACode :=
  (.cond (.s 34) c92_8 c92_23)
def c92_25 : ACode :=
  (.seq (.region false [⟨some 35, none, .bin .eql (.s 4) (.c (.t (.str [97, 117, 116, 104, 101, 110, 116, 105, 99, 97, 116, 101, 100])))⟩,
    ⟨some 34, none, .mv (.s 35)⟩] [] [2, 4, 34]) c92_24)
def c92_26 : ACode :=
  (.cond (.s 29) c92_7 c92_25)
def c92_27 : ACode :=
  (.seq (.region false [⟨some 30, none, .bin .eql (.s 4) (.c (.t (.str [116, 97, 103])))⟩,
    ⟨some 29, none, .mv (.s 30)⟩] [] [2, 4, 29]) c92_26)
def c92_28 : ACode :=
  (.cond (.s 24) c92_6 c92_27)
def c92_29 : ACode :=
  (.seq (.region false [⟨some 25, none, .bin .eql (.s 4) (.c (.t (.str [112, 114, 111, 118, 105, 100, 101, 115])))⟩,
    ⟨some 24, none, .mv (.s 25)⟩] [] [2, 4, 24]) c92_28)
def c92_30 : ACode :=
  (.cond (.s 19) c92_5 c92_29)
def c92_31 : ACode :=
  (.seq (.region false [⟨some 20, none, .bin .eql (.s 4) (.c (.t (.str [114, 101, 113, 117, 105, 114, 101, 115])))⟩,
    ⟨some 19, none, .mv (.s 20)⟩] [] [2, 4, 19]) c92_30)
def c92_32 : ACode :=
  (.cond (.s 16) c92_4 c92_31)
def c92_33 : ACode :=
  (.seq (.region false [⟨some 17, none, .bin .eql (.s 4) (.c (.t (.str [105, 110, 97, 99, 99, 101, 115, 115, 105, 98, 108, 101])))⟩,
    ⟨some 16, none, .mv (.s 17)⟩] [] [2, 4, 16]) c92_32)
def c92_34 : ACode :=
  (.cond (.s 13) c92_3 c92_33)
def c92_35 : ACode :=
  (.seq (.region false [⟨some 14, none, .bin .eql (.s 4) (.c (.t (.str [115, 104, 97, 114, 101, 97, 98, 108, 101])))⟩,
    ⟨some 13, none, .mv (.s 14)⟩] [] [2, 4, 13]) c92_34)
def c92_36 : ACode :=
  (.cond (.s 10) c92_2 c92_35)
def c92_37 : ACode :=
  (.seq (.region false [⟨some 11, none, .bin .eql (.s 4) (.c (.t (.str [101, 120, 116, 101, 114, 110, 97, 108])))⟩,
    ⟨some 10, none, .mv (.s 11)⟩] [] [2, 4, 10]) c92_36)
def c92_38 : ACode :=
  (.cond (.s 5) c92_1 c92_37)
def c92_39 : ACode :=
  (.seq (.region false [⟨some 6, none, .bin .eql (.s 4) (.c (.t (.str [107, 101, 121])))⟩,
    ⟨some 5, none, .mv (.s 6)⟩] [] [2, 4, 5]) c92_38)
def c92_40 : ACode :=
  (.block 0 c92_39)
def c92_41 : ACode :=
  (.seq (.seq (.region false [⟨some 4, none, .mv (.s 0)⟩] [] [2, 4]) c92_40) c92_0)
def c92 : ACode :=
  (.seq (.region false [⟨some 2, none, .alloc [.t (.int .i64 0), .t (.bool false), .nils]⟩,
    ⟨some 3, none, .cst (.t (.bool false))⟩] [] [0, 2]) c92_41)
def r92 : List ARes := [.cell 2 true 3, .tmp 3]
def n92 : Nat := 64
/- 93 (supergraph directives.rule).param -/
def c93_0 : ACode :=
  (.seq (.region false [⟨some 21, none, .build [.t (.str []), .t (.bool false), .t (.nilf)] []⟩,
    ⟨none, none, .st 3 (.s 4) (.s 21)⟩,
    ⟨some 5, none, .cst (.t (.bool false))⟩] [] [4, 5]) .ret)
def c93_1 : ACode :=
  (.region false [⟨some 20, none, .bin .add (.s 11) (.c (.t (.int .i64 1)))⟩,
    ⟨some 11, none, .mv (.s 20)⟩] [] [1, 4, 9, 10, 11])
def c93_2 : ACode :=
  (.seq (.region false [⟨some 19, none, .ld true 3 (.s 7)⟩,
    ⟨none, none, .st 3 (.s 4) (.s 19)⟩,
    ⟨some 5, none, .cst (.t (.bool true))⟩] [] [4, 5]) .ret)
def c93_3 : ACode :=
  (.cond (.s 18) c93_2 .skip)
def c93_4 : ACode :=
  (.seq (.region false [⟨some 15, none, .fa 0 (.s 7)⟩,
    ⟨some 16, none, .ld false 1 (.s 15)⟩,
    ⟨some 17, none, .mv (.s 1)⟩,
    ⟨some 18, none, .bin .eql (.s 16) (.s 17)⟩] [] [1, 4, 7, 9, 10, 11, 18]) c93_3)
def c93_5 : ACode :=
  (.seq (.region false [⟨some 13, none, .ia 3 (.s 9) (.s 11)⟩,
    ⟨some 14, none, .ld true 3 (.s 13)⟩,
    ⟨some 7, none, .alloc [.t (.str []), .t (.bool false), .t (.nilf)]⟩,
    ⟨none, none, .st 3 (.s 7) (.s 14)⟩] [] [1, 4, 7, 9, 10, 11]) c93_4)
def c93_6 : ACode :=
  (.seq (.block 1 c93_5) c93_1)
def c93_7 : ACode :=
  (.seq (.cond (.s 12) .skip (.exit 0)) c93_6)
def c93_8 : ACode :=
  (.seq (.region false [⟨some 12, none, .bin .lss (.s 11) (.s 10)⟩] [] [1, 4, 9, 10, 11, 12]) c93_7)
def c93_9 : ACode :=
  (.loop c93_8)
def c93_10 : ACode :=
  (.block 0 c93_9)
def c93_11 : ACode :=
  (.seq (.seq (.region false [⟨some 8, none, .fa 2 (.s 2)⟩,
    ⟨some 9, none, .ld false 1 (.s 8)⟩,
    ⟨some 10, none, .len (.s 9)⟩,
    ⟨some 11, none, .cst (.t (.int .i64 0))⟩] [] [1, 4, 9, 10, 11]) c93_10) c93_0)
def c93 : ACode :=
  (.seq (.region false [⟨some 2, none, .box 3 (.s 0)⟩,
    ⟨some 4, none, .alloc [.t (.str []), .t (.bool false), .t (.nilf)]⟩,
    ⟨some 5, none, .cst (.t (.bool false))⟩] [] [1, 2, 4]) c93_11)
def r93 : List ARes := [.cell 4 true 3, .tmp 5]
def n93 : Nat := 22
/- 94 supergraph supergraphref23.kind -/
/- 95 supergraph supergraphref23.needed -/
/- 96 supergraph supergraphref23.fits -/
/- 97 supergraph supergraphref10.Scalar -/
/- 98 supergraph supergraphref10.names -/
/- 99 supergraph supergraphref10.empty -/
/- 100 supergraph supergraphref10.circular -/
/- 101 supergraph supergraphref10.FieldOf -/
/- 102 supergraph supergraphref10.known -/
/- 103 supergraph supergraphref10.InputOf -/
/- 104 supergraph supergraphref10.IsInput -/
/- 105 supergraph schema.Scalar -/
/- 106 supergraph schema.kind -/
/- 107 slices.Contains[[]string,string] -/
/- 108 supergraph moves.resolves -/
/- 109 slices.ContainsFunc[[]supergraph api.Field,supergraph api.Field] -/
/- 110 (*supergraph moves.judge).leant 1 -/
/- 111 slices.ContainsFunc[[][]string,[]string] -/
/- 112 supergraph moves.isKey 1 -/
/- 113 unicode utf8.RuneCountInString -/
/- 114 unicode utf8.DecodeRuneInString -/
/- 116 internal stringslite.Index -/
def c116_0 : ACode :=
  (.seq (.region false [⟨some 4, none, .cst (.t (.int .i64 (-1)))⟩] [] [4]) .ret)
def c116_1 : ACode :=
  (.seq (.region false [⟨some 4, none, .cst (.t (.int .i64 (-1)))⟩] [] [4]) .ret)
def c116_2 : ACode :=
  (.seq (.region false [⟨some 115, none, .mv (.s 12)⟩,
    ⟨some 116, none, .mv (.s 8)⟩,
    ⟨some 117, none, .bin .add (.s 115) (.s 116)⟩,
    ⟨some 4, none, .mv (.s 117)⟩] [] [4]) .ret)
def c116_3 : ACode :=
  (.cond (.s 114) c116_2 .skip)
def c116_4 : ACode :=
  (.seq (.seq (.region false [⟨some 113, none, .mv (.s 12)⟩,
    ⟨some 114, none, .bin .geq (.s 113) (.c (.t (.int .i64 0)))⟩] [] [8, 12, 114]) c116_3) c116_1)
def c116_5 : ACode :=
  (.seq (.region false [⟨some 108, none, .mv (.s 0)⟩,
    ⟨some 109, none, .mv (.s 8)⟩,
    ⟨some 110, none, .sls (.s 108) (some (.s 109)) none⟩,
    ⟨some 111, none, .mv (.s 1)⟩,
    ⟨some 112, none, .call 131 [(.s 110), (.s 111)]⟩,
    ⟨some 12, none, .mv (.s 112)⟩] [] [8, 12]) c116_4)
def c116_6 : ACode :=
  (.seq (.region false [⟨some 140, none, .mv (.s 8)⟩,
    ⟨some 141, none, .mv (.s 13)⟩,
    ⟨some 142, none, .bin .add (.s 140) (.s 141)⟩,
    ⟨some 4, none, .mv (.s 142)⟩] [] [4]) .ret)
def c116_7 : ACode :=
  (.seq (.region false [⟨some 4, none, .cst (.t (.int .i64 (-1)))⟩] [] [4]) .ret)
def c116_8 : ACode :=
  (.cond (.s 139) c116_7 .skip)
def c116_9 : ACode :=
  (.seq (.seq (.region false [⟨some 138, none, .mv (.s 13)⟩,
    ⟨some 139, none, .bin .lss (.s 138) (.c (.t (.int .i64 0)))⟩] [] [8, 13, 139]) c116_8) c116_6)
def c116_10 : ACode :=
  (.seq (.region false [⟨some 133, none, .mv (.s 0)⟩,
    ⟨some 134, none, .mv (.s 8)⟩,
    ⟨some 135, none, .sls (.s 133) (some (.s 134)) none⟩,
    ⟨some 136, none, .mv (.s 1)⟩,
    ⟨some 137, none, .call 133 [(.s 135), (.s 136)]⟩,
    ⟨some 13, none, .mv (.s 137)⟩] [] [8, 13]) c116_9)
def c116_11 : ACode :=
  (.cond (.s 132) c116_10 .skip)
def c116_12 : ACode :=
  (.seq (.region false [⟨some 118, none, .mv (.s 5)⟩,
    ⟨some 119, none, .nw (.bad)⟩,
    ⟨some 120, none, .bin .gtr (.s 118) (.s 119)⟩,
    ⟨some 121, none, .mv (.s 120)⟩,
    ⟨some 122, some (121, true), .mv (.s 10)⟩,
    ⟨some 123, some (121, true), .mv (.s 8)⟩,
    ⟨some 124, some (121, true), .bin .shr (.s 123) (.c (.t (.int .u64 4)))⟩,
    ⟨some 125, some (121, true), .bin .add (.c (.t (.int .i64 4))) (.s 124)⟩,
    ⟨some 126, some (121, true), .bin .geq (.s 122) (.s 125)⟩,
    ⟨some 127, none, .pick (.s 121) (.s 126) (.c (.t (.bool false)))⟩,
    ⟨some 128, none, .mv (.s 127)⟩,
    ⟨some 129, some (128, true), .mv (.s 8)⟩,
    ⟨some 130, some (128, true), .mv (.s 9)⟩,
    ⟨some 131, some (128, true), .bin .lss (.s 129) (.s 130)⟩,
    ⟨some 132, none, .pick (.s 128) (.s 131) (.c (.t (.bool false)))⟩] [] [0, 1, 5, 6, 7, 8, 9, 10, 132]) c116_11)
def c116_13 : ACode :=
  (.cond (.s 107) c116_5 c116_12)
def c116_14 : ACode :=
  (.seq (.region false [⟨some 99, none, .mv (.s 5)⟩,
    ⟨some 100, none, .nw (.bad)⟩,
    ⟨some 101, none, .bin .leq (.s 99) (.s 100)⟩,
    ⟨some 102, none, .mv (.s 101)⟩,
    ⟨some 103, some (102, true), .mv (.s 10)⟩,
    ⟨some 104, some (102, true), .mv (.s 8)⟩,
    ⟨some 105, some (102, true), .call 132 [(.s 104)]⟩,
    ⟨some 106, some (102, true), .bin .gtr (.s 103) (.s 105)⟩,
    ⟨some 107, none, .pick (.s 102) (.s 106) (.c (.t (.bool false)))⟩] [] [0, 1, 5, 6, 7, 8, 9, 10, 107]) c116_13)
def c116_15 : ACode :=
  (.seq (.region false [⟨some 97, none, .mv (.s 10)⟩,
    ⟨some 98, none, .bin .add (.s 97) (.c (.t (.int .i64 1)))⟩,
    ⟨some 10, none, .mv (.s 98)⟩] [] [0, 1, 5, 6, 7, 8, 9, 10]) c116_14)
def c116_16 : ACode :=
  (.seq (.region false [⟨some 95, none, .mv (.s 8)⟩,
    ⟨some 96, none, .bin .add (.s 95) (.c (.t (.int .i64 1)))⟩,
    ⟨some 8, none, .mv (.s 96)⟩] [] [0, 1, 5, 6, 7, 8, 9, 10]) c116_15)
def c116_17 : ACode :=
  (.seq (.region false [⟨some 94, none, .mv (.s 8)⟩,
    ⟨some 4, none, .mv (.s 94)⟩] [] [4]) .ret)
def c116_18 : ACode :=
  (.cond (.s 93) c116_17 .skip)
def c116_19 : ACode :=
  (.seq (.seq (.region false [⟨some 78, none, .mv (.s 0)⟩,
    ⟨some 79, none, .mv (.s 8)⟩,
    ⟨some 80, none, .bin .add (.s 79) (.c (.t (.int .i64 1)))⟩,
    ⟨some 81, none, .ixs (.s 78) (.s 80)⟩,
    ⟨some 82, none, .mv (.s 7)⟩,
    ⟨some 83, none, .bin .eql (.s 81) (.s 82)⟩,
    ⟨some 84, none, .mv (.s 83)⟩,
    ⟨some 85, some (84, true), .mv (.s 0)⟩,
    ⟨some 86, some (84, true), .mv (.s 8)⟩,
    ⟨some 87, some (84, true), .mv (.s 8)⟩,
    ⟨some 88, some (84, true), .mv (.s 5)⟩,
    ⟨some 89, some (84, true), .bin .add (.s 87) (.s 88)⟩,
    ⟨some 90, some (84, true), .sls (.s 85) (some (.s 86)) (some (.s 89))⟩,
    ⟨some 91, some (84, true), .mv (.s 1)⟩,
    ⟨some 92, some (84, true), .bin .eql (.s 90) (.s 91)⟩,
    ⟨some 93, none, .pick (.s 84) (.s 92) (.c (.t (.bool false)))⟩] [] [0, 1, 5, 6, 7, 8, 9, 10, 93]) c116_18) c116_16)
def c116_20 : ACode :=
  (.region false [⟨some 74, none, .mv (.s 8)⟩,
    ⟨some 75, none, .mv (.s 11)⟩,
    ⟨some 76, none, .bin .add (.s 75) (.c (.t (.int .i64 1)))⟩,
    ⟨some 77, none, .bin .add (.s 74) (.s 76)⟩,
    ⟨some 8, none, .mv (.s 77)⟩] [] [0, 1, 5, 6, 7, 8, 9, 10])
def c116_21 : ACode :=
  (.seq (.region false [⟨some 4, none, .cst (.t (.int .i64 (-1)))⟩] [] [4]) .ret)
def c116_22 : ACode :=
  (.cond (.s 73) c116_21 .skip)
def c116_23 : ACode :=
  (.seq (.seq (.region false [⟨some 72, none, .mv (.s 11)⟩,
    ⟨some 73, none, .bin .lss (.s 72) (.c (.t (.int .i64 0)))⟩] [] [0, 1, 5, 6, 7, 8, 9, 10, 11, 73]) c116_22) c116_20)
def c116_24 : ACode :=
  (.seq (.region false [⟨some 65, none, .mv (.s 0)⟩,
    ⟨some 66, none, .mv (.s 8)⟩,
    ⟨some 67, none, .bin .add (.s 66) (.c (.t (.int .i64 1)))⟩,
    ⟨some 68, none, .mv (.s 9)⟩,
    ⟨some 69, none, .sls (.s 65) (some (.s 67)) (some (.s 68))⟩,
    ⟨some 70, none, .mv (.s 6)⟩,
    ⟨some 71, none, .call 130 [(.s 69), (.s 70)]⟩,
    ⟨some 11, none, .mv (.s 71)⟩] [] [0, 1, 5, 6, 7, 8, 9, 10, 11]) c116_23)
def c116_25 : ACode :=
  (.cond (.s 64) c116_24 .skip)
def c116_26 : ACode :=
  (.seq (.seq (.region false [⟨some 60, none, .mv (.s 0)⟩,
    ⟨some 61, none, .mv (.s 8)⟩,
    ⟨some 62, none, .ixs (.s 60) (.s 61)⟩,
    ⟨some 63, none, .mv (.s 6)⟩,
    ⟨some 64, none, .bin .neq (.s 62) (.s 63)⟩] [] [0, 1, 5, 6, 7, 8, 9, 10, 64]) c116_25) c116_19)
def c116_27 : ACode :=
  (.block 2 c116_26)
def c116_28 : ACode :=
  (.cond (.s 59) .skip (.exit 1))
def c116_29 : ACode :=
  (.seq (.seq (.region false [⟨some 57, none, .mv (.s 8)⟩,
    ⟨some 58, none, .mv (.s 9)⟩,
    ⟨some 59, none, .bin .lss (.s 57) (.s 58)⟩] [] [0, 1, 5, 6, 7, 8, 9, 10, 59]) c116_28) c116_27)
def c116_30 : ACode :=
  (.loop c116_29)
def c116_31 : ACode :=
  (.seq (.block 1 c116_30) c116_0)
def c116_32 : ACode :=
  (.seq (.region false [⟨some 10, none, .cst (.t (.int .i64 0))⟩] [] [0, 1, 5, 6, 7, 8, 9, 10]) c116_31)
def c116_33 : ACode :=
  (.seq (.region false [⟨some 52, none, .mv (.s 0)⟩,
    ⟨some 53, none, .lens (.s 52)⟩,
    ⟨some 54, none, .mv (.s 5)⟩,
    ⟨some 55, none, .bin .sub (.s 53) (.s 54)⟩,
    ⟨some 56, none, .bin .add (.s 55) (.c (.t (.int .i64 1)))⟩,
    ⟨some 9, none, .mv (.s 56)⟩] [] [0, 1, 5, 6, 7, 8, 9]) c116_32)
def c116_34 : ACode :=
  (.seq (.region false [⟨some 8, none, .cst (.t (.int .i64 0))⟩] [] [0, 1, 5, 6, 7, 8]) c116_33)
def c116_35 : ACode :=
  (.seq (.region false [⟨some 50, none, .mv (.s 1)⟩,
    ⟨some 51, none, .ixs (.s 50) (.c (.t (.int .i64 1)))⟩,
    ⟨some 7, none, .mv (.s 51)⟩] [] [0, 1, 5, 6, 7]) c116_34)
def c116_36 : ACode :=
  (.seq (.region false [⟨some 48, none, .mv (.s 1)⟩,
    ⟨some 49, none, .ixs (.s 48) (.c (.t (.int .i64 0)))⟩,
    ⟨some 6, none, .mv (.s 49)⟩] [] [0, 1, 5, 6]) c116_35)
def c116_37 : ACode :=
  (.seq (.region false [⟨some 4, none, .cst (.t (.int .i64 0))⟩] [] [4]) .ret)
def c116_38 : ACode :=
  (.seq (.region false [⟨some 27, none, .mv (.s 0)⟩,
    ⟨some 28, none, .mv (.s 1)⟩,
    ⟨some 29, none, .ixs (.s 28) (.c (.t (.int .i64 0)))⟩,
    ⟨some 30, none, .call 130 [(.s 27), (.s 29)]⟩,
    ⟨some 4, none, .mv (.s 30)⟩] [] [4]) .ret)
def c116_39 : ACode :=
  (.seq (.region false [⟨some 4, none, .cst (.t (.int .i64 (-1)))⟩] [] [4]) .ret)
def c116_40 : ACode :=
  (.seq (.region false [⟨some 45, none, .mv (.s 0)⟩,
    ⟨some 46, none, .mv (.s 1)⟩,
    ⟨some 47, none, .call 131 [(.s 45), (.s 46)]⟩,
    ⟨some 4, none, .mv (.s 47)⟩] [] [4]) .ret)
def c116_41 : ACode :=
  (.cond (.s 36) c116_40 .skip)
def c116_42 : ACode :=
  (.seq (.region false [⟨some 37, none, .mv (.s 5)⟩,
    ⟨some 38, none, .nw (.bad)⟩,
    ⟨some 39, none, .bin .leq (.s 37) (.s 38)⟩,
    ⟨some 40, none, .mv (.s 39)⟩,
    ⟨some 41, some (40, true), .mv (.s 0)⟩,
    ⟨some 42, some (40, true), .lens (.s 41)⟩,
    ⟨some 43, some (40, true), .bin .leq (.s 42) (.c (.t (.int .i64 64)))⟩,
    ⟨some 44, none, .pick (.s 40) (.s 43) (.c (.t (.bool false)))⟩,
    ⟨some 36, none, .mv (.s 44)⟩] [] [0, 1, 5, 36]) c116_41)
def c116_43 : ACode :=
  (.cond (.s 31) c116_39 c116_42)
def c116_44 : ACode :=
  (.seq (.region false [⟨some 32, none, .mv (.s 5)⟩,
    ⟨some 33, none, .mv (.s 0)⟩,
    ⟨some 34, none, .lens (.s 33)⟩,
    ⟨some 35, none, .bin .geq (.s 32) (.s 34)⟩,
    ⟨some 31, none, .mv (.s 35)⟩] [] [0, 1, 5, 31]) c116_43)
def c116_45 : ACode :=
  (.cond (.s 24) c116_38 c116_44)
def c116_46 : ACode :=
  (.seq (.region false [⟨some 25, none, .mv (.s 5)⟩,
    ⟨some 26, none, .bin .eql (.s 25) (.c (.t (.int .i64 1)))⟩,
    ⟨some 24, none, .mv (.s 26)⟩] [] [0, 1, 5, 24]) c116_45)
def c116_47 : ACode :=
  (.cond (.s 16) c116_37 c116_46)
def c116_48 : ACode :=
  (.seq (.region false [⟨some 17, none, .mv (.s 5)⟩,
    ⟨some 18, none, .bin .eql (.s 17) (.c (.t (.int .i64 0)))⟩,
    ⟨some 19, none, .mv (.s 18)⟩,
    ⟨some 20, some (19, false), .mv (.s 1)⟩,
    ⟨some 21, some (19, false), .mv (.s 0)⟩,
    ⟨some 22, some (19, false), .bin .eql (.s 20) (.s 21)⟩,
    ⟨some 23, none, .pick (.s 19) (.c (.t (.bool true))) (.s 22)⟩,
    ⟨some 16, none, .mv (.s 23)⟩] [] [0, 1, 5, 16]) c116_47)
def c116_49 : ACode :=
  (.seq (.block 0 c116_48) c116_36)
def c116_50 : ACode :=
  (.seq (.region false [⟨some 14, none, .mv (.s 1)⟩,
    ⟨some 15, none, .lens (.s 14)⟩,
    ⟨some 5, none, .mv (.s 15)⟩] [] [0, 1, 5]) c116_49)
def c116 : ACode :=
  (.seq (.region false [⟨some 4, none, .cst (.t (.int .i64 0))⟩] [] [0, 1]) c116_50)
def r116 : List ARes := [.tmp 4]
def n116 : Nat := 143
/- 117 supergraph directives.isSet -/
def c117_0 : ACode :=
  (.seq (.region false [⟨some 11, none, .fa 0 (.s 1)⟩,
    ⟨some 12, none, .ld false 1 (.s 11)⟩,
    ⟨some 13, none, .bin .eql (.s 12) (.c (.t (.int .i64 3)))⟩,
    ⟨some 14, none, .mv (.s 13)⟩,
    ⟨some 15, some (14, true), .mv (.s 4)⟩,
    ⟨some 16, some (14, true), .bin .eql (.s 15) (.c (.t (.int .i64 0)))⟩,
    ⟨some 17, none, .pick (.s 14) (.s 16) (.c (.t (.bool false)))⟩,
    ⟨some 2, none, .mv (.s 17)⟩] [] [2]) .ret)
def c117_1 : ACode :=
  (.seq (.region false [⟨some 6, none, .fa 2 (.s 1)⟩,
    ⟨some 7, none, .ld false 1 (.s 6)⟩,
    ⟨some 8, none, .call 13 [(.s 7)]⟩,
    ⟨some 5, none, .mv (.s 8)⟩,
    ⟨some 9, none, .ext (.s 5) 0⟩,
    ⟨some 10, none, .ext (.s 5) 1⟩,
    ⟨some 3, none, .mv (.s 9)⟩,
    ⟨some 4, none, .mv (.s 10)⟩] [] [1, 4]) c117_0)
def c117 : ACode :=
  (.seq (.region false [⟨some 1, none, .box 5 (.s 0)⟩,
    ⟨some 2, none, .cst (.t (.bool false))⟩] [] [1]) c117_1)
def r117 : List ARes := [.tmp 2]
def n117 : Nat := 18
/- 118 supergraph directives.isText -/
def c118_0 : ACode :=
  (.seq (.region false [⟨some 3, none, .fa 0 (.s 1)⟩,
    ⟨some 4, none, .ld false 1 (.s 3)⟩,
    ⟨some 5, none, .bin .eql (.s 4) (.c (.t (.int .i64 3)))⟩,
    ⟨some 2, none, .mv (.s 5)⟩] [] [2]) .ret)
def c118 : ACode :=
  (.seq (.region false [⟨some 1, none, .box 5 (.s 0)⟩,
    ⟨some 2, none, .cst (.t (.bool false))⟩] [] [1]) c118_0)
def r118 : List ARes := [.tmp 2]
def n118 : Nat := 6
/- 119 supergraph directives.isTexts -/
def c119_0 : ACode :=
  (.seq (.region false [⟨some 2, none, .cst (.t (.bool true))⟩] [] [2]) .ret)
def c119_1 : ACode :=
  (.region false [⟨some 18, none, .bin .add (.s 11) (.c (.t (.int .i64 1)))⟩,
    ⟨some 11, none, .mv (.s 18)⟩] [] [9, 10, 11])
def c119_2 : ACode :=
  (.seq (.region false [⟨some 2, none, .cst (.t (.bool false))⟩] [] [2]) .ret)
def c119_3 : ACode :=
  (.cond (.s 17) c119_2 .skip)
def c119_4 : ACode :=
  (.seq (.region false [⟨some 15, none, .fa 0 (.s 4)⟩,
    ⟨some 16, none, .ld false 1 (.s 15)⟩,
    ⟨some 17, none, .bin .neq (.s 16) (.c (.t (.int .i64 3)))⟩] [] [9, 10, 11, 17]) c119_3)
def c119_5 : ACode :=
  (.seq (.region false [⟨some 13, none, .ia 5 (.s 9) (.s 11)⟩,
    ⟨some 14, none, .ld true 5 (.s 13)⟩,
    ⟨some 4, none, .alloc [.t (.int .i64 0), .t (.int .i64 0), .t (.str []), .nils, .nils]⟩,
    ⟨none, none, .st 5 (.s 4) (.s 14)⟩] [] [4, 9, 10, 11]) c119_4)
def c119_6 : ACode :=
  (.seq (.block 1 c119_5) c119_1)
def c119_7 : ACode :=
  (.seq (.cond (.s 12) .skip (.exit 0)) c119_6)
def c119_8 : ACode :=
  (.seq (.region false [⟨some 12, none, .bin .lss (.s 11) (.s 10)⟩] [] [9, 10, 11, 12]) c119_7)
def c119_9 : ACode :=
  (.loop c119_8)
def c119_10 : ACode :=
  (.block 0 c119_9)
def c119_11 : ACode :=
  (.seq (.seq (.region false [⟨some 8, none, .fa 3 (.s 1)⟩,
    ⟨some 9, none, .ld false 1 (.s 8)⟩,
    ⟨some 10, none, .len (.s 9)⟩,
    ⟨some 11, none, .cst (.t (.int .i64 0))⟩] [] [9, 10, 11]) c119_10) c119_0)
def c119_12 : ACode :=
  (.seq (.region false [⟨some 2, none, .cst (.t (.bool false))⟩] [] [2]) .ret)
def c119_13 : ACode :=
  (.cond (.s 7) c119_12 .skip)
def c119_14 : ACode :=
  (.seq (.seq (.region false [⟨some 5, none, .fa 0 (.s 1)⟩,
    ⟨some 6, none, .ld false 1 (.s 5)⟩,
    ⟨some 7, none, .bin .neq (.s 6) (.c (.t (.int .i64 5)))⟩] [] [1, 7]) c119_13) c119_11)
def c119 : ACode :=
  (.seq (.region false [⟨some 1, none, .box 5 (.s 0)⟩,
    ⟨some 2, none, .cst (.t (.bool false))⟩] [] [1]) c119_14)
def r119 : List ARes := [.tmp 2]
def n119 : Nat := 19
/- 120 supergraph directives.isNumber -/
def c120_0 : ACode :=
  (.seq (.region false [⟨some 3, none, .fa 0 (.s 1)⟩,
    ⟨some 4, none, .ld false 1 (.s 3)⟩,
    ⟨some 5, none, .bin .eql (.s 4) (.c (.t (.int .i64 2)))⟩,
    ⟨some 6, none, .mv (.s 5)⟩,
    ⟨some 7, some (6, true), .fa 1 (.s 1)⟩,
    ⟨some 8, some (6, true), .ld false 1 (.s 7)⟩,
    ⟨some 9, some (6, true), .bin .geq (.s 8) (.c (.t (.int .i64 0)))⟩,
    ⟨some 10, none, .pick (.s 6) (.s 9) (.c (.t (.bool false)))⟩,
    ⟨some 11, none, .mv (.s 10)⟩,
    ⟨some 12, some (11, true), .fa 1 (.s 1)⟩,
    ⟨some 13, some (11, true), .ld false 1 (.s 12)⟩,
    ⟨some 14, some (11, true), .bin .lss (.s 13) (.c (.t (.int .i64 2147483648)))⟩,
    ⟨some 15, none, .pick (.s 11) (.s 14) (.c (.t (.bool false)))⟩,
    ⟨some 2, none, .mv (.s 15)⟩] [] [2]) .ret)
def c120 : ACode :=
  (.seq (.region false [⟨some 1, none, .box 5 (.s 0)⟩,
    ⟨some 2, none, .cst (.t (.bool false))⟩] [] [1]) c120_0)
def r120 : List ARes := [.tmp 2]
def n120 : Nat := 16
/- 121 supergraph directives.isTruth -/
def c121_0 : ACode :=
  (.seq (.region false [⟨some 3, none, .fa 0 (.s 1)⟩,
    ⟨some 4, none, .ld false 1 (.s 3)⟩,
    ⟨some 5, none, .bin .eql (.s 4) (.c (.t (.int .i64 1)))⟩,
    ⟨some 2, none, .mv (.s 5)⟩] [] [2]) .ret)
def c121 : ACode :=
  (.seq (.region false [⟨some 1, none, .box 5 (.s 0)⟩,
    ⟨some 2, none, .cst (.t (.bool false))⟩] [] [1]) c121_0)
def r121 : List ARes := [.tmp 2]
def n121 : Nat := 6
/- 122 supergraph supergraphref10.allowed -/
/- 123 supergraph supergraphref10.next -/
/- 124 supergraph supergraphref10.has -/
/- 125 supergraph supergraphref10.Leaf -/
/- 126 slices.Index[[]string,string] -/
def c126_0 : ACode :=
  (.seq (.region false [⟨some 4, none, .cst (.t (.int .i64 (-1)))⟩] [] [4]) .ret)
def c126_1 : ACode :=
  (.region false [⟨some 18, none, .bin .add (.s 8) (.c (.t (.int .i64 1)))⟩,
    ⟨some 8, none, .mv (.s 18)⟩] [] [0, 1, 7, 8])
def c126_2 : ACode :=
  (.seq (.region false [⟨some 17, none, .mv (.s 5)⟩,
    ⟨some 4, none, .mv (.s 17)⟩] [] [4]) .ret)
def c126_3 : ACode :=
  (.cond (.s 16) c126_2 .skip)
def c126_4 : ACode :=
  (.seq (.region false [⟨some 11, none, .mv (.s 1)⟩,
    ⟨some 12, none, .mv (.s 0)⟩,
    ⟨some 13, none, .mv (.s 5)⟩,
    ⟨some 14, none, .ia 1 (.s 12) (.s 13)⟩,
    ⟨some 15, none, .ld false 1 (.s 14)⟩,
    ⟨some 16, none, .bin .eql (.s 11) (.s 15)⟩] [] [0, 1, 5, 7, 8, 16]) c126_3)
def c126_5 : ACode :=
  (.seq (.region false [⟨some 10, none, .mv (.s 8)⟩,
    ⟨some 5, none, .mv (.s 10)⟩] [] [0, 1, 5, 7, 8]) c126_4)
def c126_6 : ACode :=
  (.seq (.block 1 c126_5) c126_1)
def c126_7 : ACode :=
  (.seq (.cond (.s 9) .skip (.exit 0)) c126_6)
def c126_8 : ACode :=
  (.seq (.region false [⟨some 9, none, .bin .lss (.s 8) (.s 7)⟩] [] [0, 1, 7, 8, 9]) c126_7)
def c126_9 : ACode :=
  (.loop c126_8)
def c126_10 : ACode :=
  (.block 0 c126_9)
def c126_11 : ACode :=
  (.seq (.seq (.region false [⟨some 6, none, .mv (.s 0)⟩,
    ⟨some 7, none, .len (.s 6)⟩,
    ⟨some 8, none, .cst (.t (.int .i64 0))⟩] [] [0, 1, 7, 8]) c126_10) c126_0)
def c126 : ACode :=
  (.seq (.region false [⟨some 4, none, .cst (.t (.int .i64 0))⟩] [] [0, 1]) c126_11)
def r126 : List ARes := [.tmp 4]
def n126 : Nat := 19
/- 127 slices.IndexFunc[[]supergraph api.Field,supergraph api.Field] -/
/- 128 slices.IndexFunc[[][]string,[]string] -/
/- 129 unicode utf8.decodeRuneInStringSlow -/
/- 130 internal stringslite.IndexByte -/
def c130_0 : ACode :=
  (.seq (.region false [⟨some 5, none, .mv (.s 0)⟩,
    ⟨some 6, none, .mv (.s 1)⟩,
    ⟨some 7, none, .nw (.xtr false (.s 5) (.s 6))⟩,
    ⟨some 4, none, .mv (.s 7)⟩] [] [4]) .ret)
def c130 : ACode :=
  (.seq (.region false [⟨some 4, none, .cst (.t (.int .i64 0))⟩] [] [0, 1]) c130_0)
def r130 : List ARes := [.tmp 4]
def n130 : Nat := 8
/- 132 internal bytealg.Cutover -/
/- 133 internal bytealg.IndexRabinKarp[string] -/
/- 134 supergraph supergraphref10.direct -/
/- 136 internal bytealg.hashStr[string] -/
end Go.GB.C11


/-
  D11A: contracts of chapter 11's functions: finding definitions and fields, lists of names.
-/
namespace Go.GB.C11
open Go.GB
set_option linter.unusedSimpArgs false
set_option linter.unusedVariables false
set_option maxRecDepth 100000
set_option maxHeartbeats 2000000
structure Pr (P : Program) : Prop where
  mixed : P.follows .mixedOrders = true
  i15 : fnInfo P 15 = some (n15, c15.bare, r15)
  i16 : fnInfo P 16 = some (n16, c16.bare, r16)
  i126 : fnInfo P 126 = some (n126, c126.bare, r126)

variable {P : Program}

def findDef (n : Str) : List Def → Option Def
  | [] => none
  | d :: r => if (d.name == n) = true then some d else findDef n r
theorem findDef_mem {n : Str} : ∀ {l : List Def} {d : Def}, findDef n l = some d → d ∈ l
  | [], d, h => by simp [findDef] at h
  | x :: r, d, h => by
    simp only [findDef] at h
    split at h
    · cases h; exact List.mem_cons_self ..
    · exact List.mem_cons_of_mem _ (findDef_mem h)
def findField (n : Str) : List Field → Option Field
  | [] => none
  | d :: r => if (d.name == n) = true then some d else findField n r
theorem findField_mem {n : Str} : ∀ {l : List Field} {d : Field}, findField n l = some d → d ∈ l
  | [], d, h => by simp [findField] at h
  | x :: r, d, h => by
    simp only [findField] at h
    split at h
    · cases h; exact List.mem_cons_self ..
    · exact List.mem_cons_of_mem _ (findField_mem h)
def indexS (s : Str) : List Str → Int → Int
  | [], _ => -1
  | x :: r, i => if (s == x) = true then i else indexS s r (i + 1)
theorem index_ok (H : Pr P) (l : List Str) (hl : l.length ≤ 140737488355328) (s : Str) : FnOk P 126 [.t (.lst (l.map sE)), .t (.str s)] ⟨[], 0⟩ { v := .t (.int .i64 (indexS s l 0)) } := by
  refine FnOk.run H.i126 H.mixed rfl rfl ?_
  refine fR rfl ?_
  refine lM rfl rfl rfl ?_
  refine fM rfl ?_
  refine rList l (fun i (_ : Unit) => { env := [(0, .t (.lst (l.map sE))), (1, .t (.str s)), (7, .t (.int .i64 l.length)), (8, .t (.int .i64 i))], s := ⟨[], 0⟩ }) (fun r i _ => indexS s l 0 = indexS s r i) 0 () rfl rfl rfl rfl rfl ?_ ?_
  · intro _ hinv
    refine fR rfl ?_
    refine Run.condF rfl rfl (by simp) ?_
    refine fR rfl ?_
    refine Run.fin rfl (EndOk.go ?_); exact .t (by rw [hinv]; simp [indexS])
  · intro i x r _ h1 hi hd hinv ih
    refine fR rfl ?_
    refine Run.condT rfl rfl (by simp; omega) ?_
    refine fR rfl ?_
    refine Mid.elemMap rfl rfl rfl h1 rfl rfl ?_
    refine fM rfl ?_
    refine Run.cond rfl rfl (fun h => ?_) (fun h => ?_)
    · refine fR rfl ?_
      refine Run.fin rfl (EndOk.go ?_); exact .t (by rw [hinv]; simp only [indexS]; rw [if_pos h])
    · refine fR rfl ?_
      refine aL rfl rfl rfl rfl rfl ?_
      refine fM rfl ?_
      have h' : ¬ (s == x) = true := by rw [h]; simp
      exact rWeak 0 rfl (ih () (by rw [hinv]; simp only [indexS]; rw [if_neg h']; rfl)) rfl rfl rfl

end Go.GB.C11


/-
  D11B: contracts of chapter 11's functions: Possible.
-/
namespace Go.GB.C11
open Go.GB
set_option linter.unusedSimpArgs false
set_option linter.unusedVariables false
set_option maxRecDepth 100000
set_option maxHeartbeats 2000000
variable {P : Program}

end Go.GB.C11


/-
  D11C: contracts of chapter 11's functions: Possible of the program.
-/
namespace Go.GB.C11
open Go.GB
set_option linter.unusedSimpArgs false
set_option linter.unusedVariables false
set_option maxRecDepth 100000
set_option maxHeartbeats 2000000
variable {P : Program}

def hasK (M : List (Str × Bool)) (k : Str) : Bool := (kget k M).isSome
/-- keys apart, all true -/
structure MOk (M : List (Str × Bool)) : Prop where
  nd : (M.map (·.1)).Nodup
  tr : ∀ e, e ∈ M → e.2 = true
theorem MOk.nil : MOk [] := ⟨by simp, by simp⟩
theorem hasK_mem {M : List (Str × Bool)} {k : Str} (h : hasK M k = true) : ∃ e, e ∈ M ∧ e.1 = k := by
  unfold hasK at h
  induction M with
  | nil => simp [kget] at h
  | cons a r ih =>
    simp only [kget] at h
    split at h
    · rename_i e; exact ⟨a, List.mem_cons_self .., e.symm⟩
    · obtain ⟨e, h1, h2⟩ := ih h; exact ⟨e, List.mem_cons_of_mem _ h1, h2⟩
theorem kdrop_at {κ ν : Type} [DecidableEq κ] {e : κ × ν} : ∀ {l : List (κ × ν)} {i : Nat}, l[i]? = some e → (l.map (·.1)).Nodup → kdrop e.1 l = l.eraseIdx i
  | [], i, h, _ => by simp at h
  | w :: r, 0, h, hn => by simp at h; subst h; simp [kdrop]
  | w :: r, i + 1, h, hn => by
    simp only [List.map_cons, List.nodup_cons] at hn
    have h' : r[i]? = some e := by simpa using h
    have hne : ¬ e.1 = w.1 := fun heq => hn.1 (List.mem_map.2 ⟨e, List.mem_of_getElem? h', heq⟩)
    simp [kdrop, hne, kdrop_at h' hn.2]
theorem hasK_erase {M : List (Str × Bool)} (hM : MOk M) {e : Str × Bool} {i : Nat} (h : M[i]? = some e) (k : Str) : hasK (M.eraseIdx i) k = (hasK M k && !(k == e.1)) := by
  unfold hasK
  rw [← kdrop_at h hM.nd, kget_kdrop hM.nd]
  by_cases hk : k = e.1
  · simp [hk]
  · simp [hk]
theorem MOk.sub {M M' : List (Str × Bool)} (h : MOk M) (hs : M'.Sublist M) : MOk M' :=
  ⟨h.nd.sublist (hs.map _), fun e he => h.tr e (hs.subset he)⟩
theorem nodup_at : ∀ {bs : List Nat} {i j s : Nat}, bs.Nodup → bs[i]? = some s → bs[j]? = some s → i = j
  | [], i, j, s, _, h, _ => by simp at h
  | b :: r, 0, 0, s, _, _, _ => rfl
  | b :: r, 0, j + 1, s, hn, h1, h2 => by
    simp at h1; subst h1
    exact absurd (List.mem_of_getElem? (by simpa using h2)) (List.nodup_cons.1 hn).1
  | b :: r, i + 1, 0, s, hn, h1, h2 => by
    simp at h2; subst h2
    exact absurd (List.mem_of_getElem? (by simpa using h1)) (List.nodup_cons.1 hn).1
  | b :: r, i + 1, j + 1, s, hn, h1, h2 => by
    exact congrArg (· + 1) (nodup_at (List.nodup_cons.1 hn).2 (by simpa using h1) (by simpa using h2))
theorem zip_erase {α β : Type} : ∀ (l : List α) (r : List β) (i : Nat), (l.eraseIdx i).zip (r.eraseIdx i) = (l.zip r).eraseIdx i
  | [], r, i => by simp
  | a :: l, [], i => by cases i <;> simp
  | a :: l, b :: r, 0 => by simp
  | a :: l, b :: r, i + 1 => by simp [zip_erase l r i]

/-- what the loop along the map keeps -/
structure Lp (M : List (Str × Bool)) (bad : Str → Bool) (b : List (Str × Bool) × List Nat × List Nat) : Prop where
  ok : MOk b.1
  len : b.2.1.length = b.1.length
  nd : b.2.1.Nodup
  i1 : ∀ k, hasK b.1 k = true → hasK M k = true
  i2 : ∀ k, hasK M k = true → bad k = false → hasK b.1 k = true
  i3 : ∀ p, p ∈ b.1.zip b.2.1 → p.2 ∈ b.2.2 → bad p.1.1 = false
theorem Lp.keep {M : List (Str × Bool)} {bad : Str → Bool} {L : List (Str × Bool)} {bs seen : List Nat} (h : Lp M bad (L, bs, seen)) {i s : Nat} {e : Str × Bool} (he : L[i]? = some e) (hs : bs[i]? = some s) (hb : bad e.1 = false) : Lp M bad (L, bs, seen ++ [s]) := by
  refine ⟨h.ok, h.len, h.nd, h.i1, h.i2, fun p hp hps => ?_⟩
  rcases List.mem_append.1 hps with hps | hps
  · exact h.i3 p hp hps
  · simp at hps
    obtain ⟨j, hj⟩ := List.mem_iff_getElem?.1 hp
    obtain ⟨h1, h2⟩ := List.getElem?_zip_eq_some.1 hj
    rw [hps] at h2
    have := nodup_at h.nd hs h2
    subst this
    simp only at h1
    rw [he] at h1; simp at h1; rw [← h1]; exact hb
theorem Lp.drop {M : List (Str × Bool)} {bad : Str → Bool} {L : List (Str × Bool)} {bs seen : List Nat} (h : Lp M bad (L, bs, seen)) {i s : Nat} {e : Str × Bool} (he : L[i]? = some e) (hs : bs[i]? = some s) (hb : bad e.1 = true) : Lp M bad (L.eraseIdx i, bs.eraseIdx i, seen ++ [s]) := by
  have hlen : bs.length = L.length := h.len
  have hok : MOk L := h.ok
  refine ⟨hok.sub (List.eraseIdx_sublist ..), by show (bs.eraseIdx i).length = (L.eraseIdx i).length; rw [List.length_eraseIdx, List.length_eraseIdx, hlen], List.Nodup.sublist (List.eraseIdx_sublist ..) h.nd, fun k hk => ?_, fun k hk hkb => ?_, fun p hp hps => ?_⟩
  · have hk' : hasK (L.eraseIdx i) k = true := hk
    rw [hasK_erase hok he] at hk'
    simp at hk'
    exact h.i1 k hk'.1
  · show hasK (L.eraseIdx i) k = true
    rw [hasK_erase hok he]
    have h1 := h.i2 k hk hkb
    have hne : ¬ k = e.1 := by rintro rfl; rw [hb] at hkb; cases hkb
    simp [hne]; exact h1
  · have hp' : p ∈ (L.zip bs).eraseIdx i := by rw [← zip_erase]; exact hp
    have hpm : p ∈ L.zip bs := (List.eraseIdx_sublist ..).subset hp'
    rcases List.mem_append.1 hps with hps | hps
    · exact h.i3 p hpm hps
    · exfalso
      simp at hps
      have hz : (bs.eraseIdx i) = ((L.zip bs).eraseIdx i).map (·.2) := by
        rw [← zip_erase]
        rw [List.map_snd_zip (by rw [List.length_eraseIdx, List.length_eraseIdx, hlen]; exact Nat.le_refl _)]
      have hmem : s ∈ bs.eraseIdx i := by rw [hz, ← hps]; exact List.mem_map.2 ⟨p, hp', rfl⟩
      obtain ⟨j, hj⟩ := List.mem_iff_getElem?.1 hmem
      rw [List.getElem?_eraseIdx] at hj
      split at hj
      · have := nodup_at h.nd hs hj; omega
      · have := nodup_at h.nd hs hj; omega
theorem Lp.last {M : List (Str × Bool)} {bad : Str → Bool} {L : List (Str × Bool)} {bs seen : List Nat} (h : Lp M bad (L, bs, seen)) (hall : ∀ s, s ∈ bs → s ∈ seen) (k : Str) : hasK L k = (hasK M k && !(bad k)) := by
  have hlen : bs.length = L.length := h.len
  by_cases hk : hasK L k = true
  · obtain ⟨e, he, rfl⟩ := hasK_mem hk
    obtain ⟨i, hi⟩ := List.mem_iff_getElem?.1 he
    have hil : i < bs.length := by rw [hlen]; exact (List.getElem?_eq_some_iff.1 hi).1
    have hz : (L.zip bs)[i]? = some (e, bs[i]) := List.getElem?_zip_eq_some.2 ⟨hi, by simp [hil]⟩
    have := h.i3 (e, bs[i]) (List.mem_of_getElem? hz) (hall _ (by simp))
    have h1 := h.i1 e.1 hk
    simp only at this
    rw [hk, h1, this]; rfl
  · have hk' : hasK L k = false := by simpa using hk
    rw [hk']
    by_cases h1 : hasK M k = true
    · by_cases h2 : bad k = false
      · exact absurd (h.i2 k h1 h2) hk
      · have : bad k = true := by simpa using h2
        simp [this]
    · have : hasK M k = false := by simpa using h1
      simp [this]
end Go.GB.C11


/-
  D11D: contracts of chapter 11's functions: Possible of the program.
-/
namespace Go.GB.C11
open Go.GB
set_option linter.unusedSimpArgs false
set_option linter.unusedVariables false
set_option maxRecDepth 100000
set_option maxHeartbeats 2000000
variable {P : Program}

end Go.GB.C11


/-
  D11E: contracts of chapter 11's functions: types of fields (typeref), Is, Sub.
-/
namespace Go.GB.C11
open Go.GB
set_option linter.unusedSimpArgs false
set_option linter.unusedVariables false
set_option maxRecDepth 100000
set_option maxHeartbeats 2000000
variable {P : Program}

/- wrappers -/
end Go.GB.C11


/-
  D11F: contracts of chapter 11's functions: lists among types, Is, Sub.
-/
namespace Go.GB.C11
open Go.GB
set_option linter.unusedSimpArgs false
set_option linter.unusedVariables false
set_option maxRecDepth 100000
set_option maxHeartbeats 2000000
variable {P : Program}

end Go.GB.C11


/-
  D11G: contracts of chapter 11's functions: Sub of the reference, Overlap, Strings.
-/
namespace Go.GB.C11
open Go.GB
set_option linter.unusedSimpArgs false
set_option linter.unusedVariables false
set_option maxRecDepth 100000
set_option maxHeartbeats 2000000
variable {P : Program}

end Go.GB.C11


/-
  D11H: contracts of chapter 11's functions: Overlap, lists that are compared, names.
-/
namespace Go.GB.C11
open Go.GB
set_option linter.unusedSimpArgs false
set_option linter.unusedVariables false
set_option maxRecDepth 100000
set_option maxHeartbeats 2000000
variable {P : Program}

/- lists that are compared -/
theorem drop_at {α : Type} {l : List α} {i : Nat} {y : α} (h : l[i]? = some y) : l.drop i = y :: l.drop (i + 1) := by
  obtain ⟨hi, hy⟩ := List.getElem?_eq_some_iff.1 h
  rw [List.drop_eq_getElem_cons hi, hy]
theorem at_of_len {α β : Type} {a : List α} {b : List β} (h : a.length = b.length) {i : Nat} (hi : i < a.length) : ∃ y, b[i]? = some y := ⟨b[i]'(by omega), by simp [show i < b.length by omega]⟩
structure Fault where
  err : Int
  at_ : Str
instance : DecidableEq Fault := fun a b => decidable_of_iff (a.err = b.err ∧ a.at_ = b.at_) (by cases a; cases b; simp)
def Fault.enc (f : Fault) : List T := [.int .i64 f.err, .str f.at_]
theorem faults_ok (H : Pr P) (a b : List Fault) (ha : a.length ≤ 140737488355328) (hb : b.length ≤ 140737488355328) : FnOk P 16 [.t (.lst (a.map Fault.enc)), .t (.lst (b.map Fault.enc))] ⟨[], 0⟩ { v := .t (.bool (decide (a = b))) } := by
  refine FnOk.run H.i16 H.mixed rfl rfl ?_
  refine fR rfl ?_
  refine lM rfl rfl rfl ?_
  refine fM rfl ?_
  refine lM rfl rfl rfl ?_
  refine fM rfl ?_
  refine Run.cond rfl rfl (fun h => ?_) (fun h => ?_)
  · have h' : ¬ a.length = b.length := by simp at h; omega
    refine fR rfl ?_
    refine Run.fin rfl (EndOk.go ?_); exact .t (by simp; intro e; exact h' (by rw [e]))
  · have h' : a.length = b.length := by simp at h; omega
    refine fR rfl ?_
    refine rList a (fun i (_ : Unit) => { env := [(0, .t (.lst (a.map Fault.enc))), (1, .t (.lst (b.map Fault.enc))), (5, .t (.int .i64 i))], s := ⟨[], 0⟩ }) (fun r i _ => decide (a = b) = decide (r = b.drop i)) 0 () rfl (by simp) rfl rfl rfl ?_ ?_
    · intro _ hinv
      refine fR rfl ?_
      refine lM rfl rfl rfl ?_
      refine fM rfl ?_
      refine Run.condF rfl rfl (by simp) ?_
      refine fR rfl ?_
      refine Run.fin rfl (EndOk.go ?_); exact .t (by rw [hinv, h']; simp)
    · intro i x r _ h1 hi hd hinv ih
      obtain ⟨y, hy⟩ := at_of_len h' hi
      have hinv' : decide (a = b) = decide (x :: r = b.drop i) := hinv
      rw [drop_at hy] at hinv'
      refine fR rfl ?_
      refine lM rfl rfl rfl ?_
      refine fM rfl ?_
      refine Run.condT rfl rfl (by simp; omega) ?_
      refine fR rfl ?_
      refine Mid.elemMap rfl rfl rfl h1 rfl rfl ?_
      refine fM rfl ?_
      refine Mid.elemMap rfl rfl rfl hy rfl rfl ?_
      refine fM rfl ?_
      refine p0 rfl ?_
      refine fM rfl ?_
      refine Run.cond rfl rfl (fun hc => ?_) (fun hc => ?_)
      · have hc' : ¬ x = y := by
          rintro rfl
          simp [keyEq, T.eqb] at hc
        refine fR rfl ?_
        refine Run.fin rfl (EndOk.go ?_); exact .t (by rw [hinv']; simp [hc'])
      · have hc' : x = y := by
          simp [keyEq, T.eqb] at hc
          cases x; cases y; simp at hc ⊢; exact hc
        refine fR rfl ?_
        refine aL rfl rfl rfl rfl rfl ?_
        refine fM rfl ?_
        exact rWeak 0 rfl (ih () (by rw [hinv']; simp [hc'])) rfl rfl rfl
end Go.GB.C11


/-
  D11I: contracts of chapter 11's functions: Large, right types, Fits.
-/
namespace Go.GB.C11
open Go.GB
set_option linter.unusedSimpArgs false
set_option linter.unusedVariables false
set_option maxRecDepth 100000
set_option maxHeartbeats 2000000
variable {P : Program}

def lgFld (n : Int) (f : Field) : Int := IntKind.i64.wrap (n + IntKind.i64.wrap ((f.args.length : Nat) + (f.dirs.length : Nat)))
def lgDef (n : Int) (d : Def) : Int := d.fields.foldl lgFld (IntKind.i64.wrap (n + IntKind.i64.wrap (IntKind.i64.wrap (IntKind.i64.wrap (IntKind.i64.wrap (IntKind.i64.wrap (1 + (d.fields.length : Nat)) + (d.members.length : Nat)) + (d.inputs.length : Nat)) + (d.dirs.length : Nat)) + (d.implements.length : Nat))))
def largeF (ds : List Def) : Bool := decide ((ds.length : Int) > 70) || decide (ds.foldl lgDef 0 > 1000)
theorem large_ok (H : Pr P) (ds : List Def) (hD : DocOk ds) : FnOk P 15 [docV ds] ⟨[], 0⟩ { v := .t (.bool (largeF ds)) } := by
  have hl := hD.l
  refine FnOk.run H.i15 H.mixed rfl rfl ?_
  refine fR rfl ?_
  refine lM rfl rfl rfl ?_
  refine fM rfl ?_
  refine Run.cond rfl rfl (fun h => ?_) (fun h => ?_)
  · refine fR rfl ?_
    refine Run.fin rfl (EndOk.go ?_); exact .t (by unfold largeF; rw [show decide ((ds.length : Int) > 70) = true from h]; rfl)
  · have h' : decide ((ds.length : Int) > 70) = false := h
    refine fR rfl ?_
    refine rList ds (fun i (n : Int) => { env := [(1, .ptr 0 0), (3, .t (.int .i64 n)), (4, .t (.int .i64 i))], s := ⟨[(0, .cells [.t (.lst (ds.map Def.enc))])], 1⟩ }) (fun r i n => ds.foldl lgDef 0 = r.foldl lgDef n) 1 0 rfl rfl rfl rfl rfl ?_ ?_
    · rintro n hinv
      refine fR rfl ?_
      refine lM rfl rfl rfl ?_
      refine fM rfl ?_
      refine Run.condF rfl rfl (by simp) ?_
      refine fR rfl ?_
      refine Run.fin rfl (EndOk.go ?_); exact .t (by unfold largeF; rw [h', hinv]; rfl)
    · rintro i x r n h1 hi hd hinv ih
      have hinv' : ds.foldl lgDef 0 = r.foldl lgDef (lgDef n x) := hinv
      refine fR rfl ?_
      refine lM rfl rfl rfl ?_
      refine fM rfl ?_
      refine Run.condT rfl rfl (by simp; omega) ?_
      refine fR rfl ?_
      refine Mid.elemMap rfl rfl rfl h1 rfl rfl ?_
      refine fM rfl ?_
      refine lM rfl rfl rfl ?_
      refine p0 rfl ?_
      refine fM rfl ?_
      refine lM rfl rfl rfl ?_
      refine p0 rfl ?_
      refine fM rfl ?_
      refine lM rfl rfl rfl ?_
      refine p0 rfl ?_
      refine fM rfl ?_
      refine lM rfl rfl rfl ?_
      refine p0 rfl ?_
      refine fM rfl ?_
      refine lM rfl rfl rfl ?_
      refine p0 rfl ?_
      refine p0 rfl ?_
      refine fM rfl ?_
      have hfl := (hD.d x (List.mem_of_getElem? h1)).fl
      generalize hn1 : IntKind.i64.wrap (n + IntKind.i64.wrap (IntKind.i64.wrap (IntKind.i64.wrap (IntKind.i64.wrap (IntKind.i64.wrap (1 + (x.fields.length : Nat)) + (x.members.length : Nat)) + (x.inputs.length : Nat)) + (x.dirs.length : Nat)) + (x.implements.length : Nat))) = n1
      have en : lgDef n x = x.fields.foldl lgFld n1 := by rw [← hn1]; rfl
      rw [en] at hinv'
      refine rList x.fields (fun j (n : Int) => { env := [(1, .ptr 0 0), (3, .t (.int .i64 n)), (4, .t (.int .i64 i)), (5, .ptr 1 0), (6, .t (.int .i64 j))], s := ⟨[(0, .cells [.t (.lst (ds.map Def.enc))]), (1, .cells [.t (.int .i64 x.kind), .t (.str x.name), .t (.lst (x.implements.map sE)), .t (.lst (x.dirs.map Dir.enc)), .t (.lst (x.fields.map Field.enc)), .t (.lst (x.members.map Member.enc)), .t (.lst (x.inputs.map Input.enc))])], 2⟩ }) (fun r2 j n => ds.foldl lgDef 0 = r.foldl lgDef (r2.foldl lgFld n)) 2 n1 rfl (by rw [hinv']) rfl rfl rfl ?_ ?_
      · rintro n2 hinv2
        refine fR rfl ?_
        refine lM rfl rfl rfl ?_
        refine fM rfl ?_
        refine Run.condF rfl rfl (by simp) ?_
        refine fR rfl ?_
        refine aL rfl rfl rfl rfl rfl ?_
        refine fM rfl ?_
        exact rWeak 1 rfl (ih n2 (by rw [hinv2]; rfl)) rfl rfl rfl
      · rintro j f r2 n2 h2 hj hjd hinv2 ih2
        refine fR rfl ?_
        refine lM rfl rfl rfl ?_
        refine fM rfl ?_
        refine Run.condT rfl rfl (by simp; omega) ?_
        refine fR rfl ?_
        refine Mid.elemMap rfl rfl rfl h2 rfl rfl ?_
        refine fM rfl ?_
        refine lM rfl rfl rfl ?_
        refine fM rfl ?_
        refine Mid.elemMap rfl rfl rfl h2 rfl rfl ?_
        refine fM rfl ?_
        refine lM rfl rfl rfl ?_
        refine p0 rfl ?_
        refine p0 rfl ?_
        refine fM rfl ?_
        refine aL rfl rfl rfl rfl rfl ?_
        refine fM rfl ?_
        exact rWeak 2 rfl (ih2 (lgFld n2 f) (by rw [hinv2]; rfl)) rfl rfl rfl

def scalF (n : Str) : Bool := n == [73, 110, 116] || n == [83, 116, 114, 105, 110, 103] || n == [66, 111, 111, 108, 101, 97, 110] || n == [73, 68]
/- names -/
def letF (c : Int) : Bool := (decide (c ≥ 65) && decide (c ≤ 90)) || (decide (c ≥ 97) && decide (c ≤ 122)) || c == 95
def digF (c : Int) : Bool := decide (c ≥ 48) && decide (c ≤ 57)
def nmOk (first : Bool) : List UInt8 → Bool
  | [] => true
  | c :: r => (letF c.toNat || (!first && digF c.toNat)) && nmOk false r
def nameF (s : Str) : Bool := decide (1 ≤ s.length ∧ s.length ≤ 64) && nmOk true s
/- right types -/
/- lists of lists, Fits -/
end Go.GB.C11


/-
  D11J: contracts of chapter 11's functions: Fits.
-/
namespace Go.GB.C11
open Go.GB
set_option linter.unusedSimpArgs false
set_option linter.unusedVariables false
set_option maxRecDepth 100000
set_option maxHeartbeats 2000000
variable {P : Program}

/- plain law: right types are lists of signs, one for each level -/
inductive RW : List Int → Prop
  | base : RW []
  | nn : RW [1]
  | lst {r : List Int} (h : RW r) : RW (2 :: r)
  | nnl {r : List Int} (h : RW r) : RW (1 :: 2 :: r)
end Go.GB.C11


/-
  D11K: plain law of chapter 11: Sub of right types.
-/
namespace Go.GB.C11
open Go.GB
set_option linter.unusedSimpArgs false
set_option linter.unusedVariables false

end Go.GB.C11


/-
  D11L: contracts of chapter 11's functions: the parts of Faces.
-/
namespace Go.GB.C11
open Go.GB
set_option linter.unusedSimpArgs false
set_option linter.unusedVariables false
set_option maxRecDepth 100000
set_option maxHeartbeats 2000000
variable {P : Program}

def Input.v (x : Input) : V := .agg [.t (.str x.name), .t (.str x.ty.name), .t (.lst (x.ty.wraps.map nE)), .t (.bool x.has), .t (.int .i64 x.dflt.kind), .t (.int .i64 x.dflt.int), .t (.str x.dflt.text), .t (.lst (x.dflt.items.map Val.enc)), .t (.lst (x.dflt.keys.map sE)), .t (.lst (x.dirs.map Dir.enc))]
def Input.zero : Input := ⟨[], ⟨[], []⟩, false, Val.zero, []⟩
def findInput (n : Str) : List Input → Option Input
  | [] => none
  | d :: r => if (d.name == n) = true then some d else findInput n r
def sameR (a b : Ref) : Bool := a.name == b.name && decide (a.wraps = b.wraps)
end Go.GB.C11


/-
  D11M: contracts of chapter 11's functions: a type and an interface.
-/
namespace Go.GB.C11
open Go.GB
set_option linter.unusedSimpArgs false
set_option linter.unusedVariables false
set_option maxRecDepth 100000
set_option maxHeartbeats 2000000
variable {P : Program}

def badA (y : Field) (a : Input) : Bool := !(findInput a.name y.args).isSome || !(sameR a.ty ((findInput a.name y.args).getD Input.zero).ty)
end Go.GB.C11


/-
  D11N: contracts of chapter 11's functions: Faces.
-/
namespace Go.GB.C11
open Go.GB
set_option linter.unusedSimpArgs false
set_option linter.unusedVariables false
set_option maxRecDepth 100000
set_option maxHeartbeats 2000000
variable {P : Program}

end Go.GB.C11


/-
  D11O: contracts of chapter 11's functions: Faces.
-/
namespace Go.GB.C11
open Go.GB
set_option linter.unusedSimpArgs false
set_option linter.unusedVariables false
set_option maxRecDepth 100000
set_option maxHeartbeats 2000000
variable {P : Program}

end Go.GB.C11


/-
  D11P: contracts of chapter 11's functions: the examples.
-/
namespace Go.GB.C11
open Go.GB
set_option linter.unusedSimpArgs false
set_option linter.unusedVariables false
set_option maxRecDepth 100000
set_option maxHeartbeats 2000000
variable {P : Program}

def tT : Str := [84]
end Go.GB.C11


/-
  D11Q: chapter 11's laws: Possible, Sub, Order.
-/
namespace Go.GB.C11
open Go.GB
set_option linter.unusedSimpArgs false
set_option linter.unusedVariables false
set_option maxRecDepth 100000
set_option maxHeartbeats 2000000
variable {P : Program}

end Go.GB.C11


/-
  D11S: contracts of chapter 11's functions: parts of the schema's check.
-/
namespace Go.GB.C11
open Go.GB
set_option linter.unusedSimpArgs false
set_option linter.unusedVariables false
set_option maxRecDepth 100000
set_option maxHeartbeats 2000000
variable {P : Program}

def resF : Str → Bool
  | a :: b :: _ => (a.toNat : Int) == 95 && (b.toNat : Int) == 95
  | _ => false
end Go.GB.C11


/-
  F23A: directives: rules as data; what the two checks compute is the same.
-/
namespace Go.GB.C23
open Go.GB Go.GB.C11
set_option linter.unusedSimpArgs false
set_option linter.unusedVariables false
set_option maxRecDepth 100000
set_option maxHeartbeats 2000000

/- sets of fields: parts between spaces -/
def splS : Str → List Str
  | [] => [[]]
  | c :: r => if c = 32 then [] :: splS r else match splS r with
    | h :: t => (c :: h) :: t
    | [] => [[c]]
theorem splS_ne : ∀ s : Str, splS s ≠ []
  | [] => by simp [splS]
  | c :: r => by
    unfold splS
    split
    · simp
    · split <;> simp
theorem splS_none : ∀ {s : Str}, ¬ (32 : UInt8) ∈ s → splS s = [s]
  | [], _ => rfl
  | c :: r, h => by
    have h1 : ¬ c = 32 := fun e => h (by rw [e]; exact List.mem_cons_self ..)
    have h2 := splS_none (s := r) fun e => h (List.mem_cons_of_mem _ e)
    unfold splS
    rw [if_neg h1, h2]
theorem splS_app : ∀ {a b : Str}, ¬ (32 : UInt8) ∈ a → splS (a ++ 32 :: b) = a :: splS b
  | [], b, _ => by simp [splS]
  | c :: r, b, h => by
    have h1 : ¬ c = 32 := fun e => h (by rw [e]; exact List.mem_cons_self ..)
    have h2 := splS_app (a := r) (b := b) fun e => h (List.mem_cons_of_mem _ e)
    rw [List.cons_append, splS, if_neg h1, h2]
theorem splS_len : ∀ s : Str, (splS s).length = s.count 32 + 1
  | [] => rfl
  | c :: r => by
    have ih := splS_len r
    unfold splS
    split
    · rename_i h; subst h; simp [ih]
    · rename_i h
      have : ¬ (32 : UInt8) = c := fun e => h e.symm
      have hne := splS_ne r
      cases hs : splS r with
      | nil => exact absurd hs hne
      | cons x t => rw [hs] at ih; simp at ih ⊢; rw [List.count_cons_of_ne h]; omega
theorem splS_mem : ∀ {s p : Str}, p ∈ splS s → p.length ≤ s.length
  | [], p, h => by simp [splS] at h; subst h; simp
  | c :: r, p, h => by
    unfold splS at h
    split at h
    · rcases List.mem_cons.1 h with rfl | h
      · simp
      · have := splS_mem h; simp; omega
    · cases hs : splS r with
      | nil => exact absurd hs (splS_ne r)
      | cons x t =>
        rw [hs] at h
        have hx := splS_mem (s := r) (p := x) (by rw [hs]; exact List.mem_cons_self ..)
        rcases List.mem_cons.1 h with rfl | h
        · simp; omega
        · have := splS_mem (s := r) (p := p) (by rw [hs]; exact List.mem_cons_of_mem _ h); simp; omega

/- rules -/
structure PRule where
  name : Str
  may : Bool
  k : Nat
structure Rule where
  places : Int
  again : Bool
  params : List PRule
def ruleF (n : Str) : Option Rule :=
  if n = ([107, 101, 121] : Str) then some ⟨1, true, [⟨([102, 105, 101, 108, 100, 115] : Str), false, 0⟩]⟩
  else if n = ([101, 120, 116, 101, 114, 110, 97, 108] : Str) then some ⟨4, false, []⟩
  else if n = ([115, 104, 97, 114, 101, 97, 98, 108, 101] : Str) then some ⟨4, false, []⟩
  else if n = ([105, 110, 97, 99, 99, 101, 115, 115, 105, 98, 108, 101] : Str) then some ⟨4, false, []⟩
  else if n = ([114, 101, 113, 117, 105, 114, 101, 115] : Str) then some ⟨4, false, [⟨([102, 105, 101, 108, 100, 115] : Str), false, 0⟩]⟩
  else if n = ([112, 114, 111, 118, 105, 100, 101, 115] : Str) then some ⟨4, false, [⟨([102, 105, 101, 108, 100, 115] : Str), false, 0⟩]⟩
  else if n = ([116, 97, 103] : Str) then some ⟨31, true, [⟨([110, 97, 109, 101] : Str), false, 1⟩]⟩
  else if n = ([97, 117, 116, 104, 101, 110, 116, 105, 99, 97, 116, 101, 100] : Str) then some ⟨13, false, []⟩
  else if n = ([115, 99, 111, 112, 101, 115] : Str) then some ⟨13, false, [⟨([97, 108, 108] : Str), false, 2⟩]⟩
  else if n = ([99, 111, 115, 116] : Str) then some ⟨12, false, [⟨([119, 101, 105, 103, 104, 116] : Str), false, 3⟩]⟩
  else if n = ([108, 105, 115, 116, 83, 105, 122, 101] : Str) then some ⟨12, false, [⟨([97, 115, 115, 117, 109, 101, 100] : Str), false, 3⟩]⟩
  else if n = ([99, 97, 99, 104, 101, 67, 111, 110, 116, 114, 111, 108] : Str) then some ⟨13, false, [⟨([109, 97, 120, 65, 103, 101] : Str), false, 3⟩, ⟨([112, 114, 105, 118, 97, 116, 101] : Str), true, 4⟩]⟩
  else if n = ([100, 101, 112, 114, 101, 99, 97, 116, 101, 100] : Str) then some ⟨28, false, [⟨([114, 101, 97, 115, 111, 110] : Str), true, 1⟩]⟩
  else none
def hasD (n : Str) (l : List Dir) : Bool := l.any fun d => d.name == n
def argF (a : Str) : List Arg → Option Val
  | [] => none
  | x :: r => if x.name = a then some x.val else argF a r
def findP (a : Str) : List PRule → Option PRule
  | [] => none
  | x :: r => if x.name = a then some x else findP a r
theorem ruleF_some {n : Str} {r : Rule} (h : ruleF n = some r) : (n = ([107, 101, 121] : Str) ∧ r = ⟨1, true, [⟨([102, 105, 101, 108, 100, 115] : Str), false, 0⟩]⟩) ∨ (n = ([101, 120, 116, 101, 114, 110, 97, 108] : Str) ∧ r = ⟨4, false, []⟩) ∨ (n = ([115, 104, 97, 114, 101, 97, 98, 108, 101] : Str) ∧ r = ⟨4, false, []⟩) ∨ (n = ([105, 110, 97, 99, 99, 101, 115, 115, 105, 98, 108, 101] : Str) ∧ r = ⟨4, false, []⟩) ∨ (n = ([114, 101, 113, 117, 105, 114, 101, 115] : Str) ∧ r = ⟨4, false, [⟨([102, 105, 101, 108, 100, 115] : Str), false, 0⟩]⟩) ∨ (n = ([112, 114, 111, 118, 105, 100, 101, 115] : Str) ∧ r = ⟨4, false, [⟨([102, 105, 101, 108, 100, 115] : Str), false, 0⟩]⟩) ∨ (n = ([116, 97, 103] : Str) ∧ r = ⟨31, true, [⟨([110, 97, 109, 101] : Str), false, 1⟩]⟩) ∨ (n = ([97, 117, 116, 104, 101, 110, 116, 105, 99, 97, 116, 101, 100] : Str) ∧ r = ⟨13, false, []⟩) ∨ (n = ([115, 99, 111, 112, 101, 115] : Str) ∧ r = ⟨13, false, [⟨([97, 108, 108] : Str), false, 2⟩]⟩) ∨ (n = ([99, 111, 115, 116] : Str) ∧ r = ⟨12, false, [⟨([119, 101, 105, 103, 104, 116] : Str), false, 3⟩]⟩) ∨ (n = ([108, 105, 115, 116, 83, 105, 122, 101] : Str) ∧ r = ⟨12, false, [⟨([97, 115, 115, 117, 109, 101, 100] : Str), false, 3⟩]⟩) ∨ (n = ([99, 97, 99, 104, 101, 67, 111, 110, 116, 114, 111, 108] : Str) ∧ r = ⟨13, false, [⟨([109, 97, 120, 65, 103, 101] : Str), false, 3⟩, ⟨([112, 114, 105, 118, 97, 116, 101] : Str), true, 4⟩]⟩) ∨ (n = ([100, 101, 112, 114, 101, 99, 97, 116, 101, 100] : Str) ∧ r = ⟨28, false, [⟨([114, 101, 97, 115, 111, 110] : Str), true, 1⟩]⟩) := by
  unfold ruleF at h
  by_cases e0 : n = ([107, 101, 121] : Str)
  · rw [if_pos e0] at h; exact .inl ⟨e0, (Option.some.inj h).symm⟩
  rw [if_neg e0] at h
  by_cases e1 : n = ([101, 120, 116, 101, 114, 110, 97, 108] : Str)
  · rw [if_pos e1] at h; exact .inr (.inl ⟨e1, (Option.some.inj h).symm⟩)
  rw [if_neg e1] at h
  by_cases e2 : n = ([115, 104, 97, 114, 101, 97, 98, 108, 101] : Str)
  · rw [if_pos e2] at h; exact .inr (.inr (.inl ⟨e2, (Option.some.inj h).symm⟩))
  rw [if_neg e2] at h
  by_cases e3 : n = ([105, 110, 97, 99, 99, 101, 115, 115, 105, 98, 108, 101] : Str)
  · rw [if_pos e3] at h; exact .inr (.inr (.inr (.inl ⟨e3, (Option.some.inj h).symm⟩)))
  rw [if_neg e3] at h
  by_cases e4 : n = ([114, 101, 113, 117, 105, 114, 101, 115] : Str)
  · rw [if_pos e4] at h; exact .inr (.inr (.inr (.inr (.inl ⟨e4, (Option.some.inj h).symm⟩))))
  rw [if_neg e4] at h
  by_cases e5 : n = ([112, 114, 111, 118, 105, 100, 101, 115] : Str)
  · rw [if_pos e5] at h; exact .inr (.inr (.inr (.inr (.inr (.inl ⟨e5, (Option.some.inj h).symm⟩)))))
  rw [if_neg e5] at h
  by_cases e6 : n = ([116, 97, 103] : Str)
  · rw [if_pos e6] at h; exact .inr (.inr (.inr (.inr (.inr (.inr (.inl ⟨e6, (Option.some.inj h).symm⟩))))))
  rw [if_neg e6] at h
  by_cases e7 : n = ([97, 117, 116, 104, 101, 110, 116, 105, 99, 97, 116, 101, 100] : Str)
  · rw [if_pos e7] at h; exact .inr (.inr (.inr (.inr (.inr (.inr (.inr (.inl ⟨e7, (Option.some.inj h).symm⟩)))))))
  rw [if_neg e7] at h
  by_cases e8 : n = ([115, 99, 111, 112, 101, 115] : Str)
  · rw [if_pos e8] at h; exact .inr (.inr (.inr (.inr (.inr (.inr (.inr (.inr (.inl ⟨e8, (Option.some.inj h).symm⟩))))))))
  rw [if_neg e8] at h
  by_cases e9 : n = ([99, 111, 115, 116] : Str)
  · rw [if_pos e9] at h; exact .inr (.inr (.inr (.inr (.inr (.inr (.inr (.inr (.inr (.inl ⟨e9, (Option.some.inj h).symm⟩)))))))))
  rw [if_neg e9] at h
  by_cases e10 : n = ([108, 105, 115, 116, 83, 105, 122, 101] : Str)
  · rw [if_pos e10] at h; exact .inr (.inr (.inr (.inr (.inr (.inr (.inr (.inr (.inr (.inr (.inl ⟨e10, (Option.some.inj h).symm⟩))))))))))
  rw [if_neg e10] at h
  by_cases e11 : n = ([99, 97, 99, 104, 101, 67, 111, 110, 116, 114, 111, 108] : Str)
  · rw [if_pos e11] at h; exact .inr (.inr (.inr (.inr (.inr (.inr (.inr (.inr (.inr (.inr (.inr (.inl ⟨e11, (Option.some.inj h).symm⟩)))))))))))
  rw [if_neg e11] at h
  by_cases e12 : n = ([100, 101, 112, 114, 101, 99, 97, 116, 101, 100] : Str)
  · rw [if_pos e12] at h; exact .inr (.inr (.inr (.inr (.inr (.inr (.inr (.inr (.inr (.inr (.inr (.inr (⟨e12, (Option.some.inj h).symm⟩))))))))))))
  rw [if_neg e12] at h
  cases h
def badA (ps : List PRule) : List Arg → List Arg → Bool
  | _, [] => false
  | pre, x :: r => ((findP x.name ps).isNone || (argF x.name pre).isSome) || badA ps (pre ++ [x]) r
def missA (ps : List PRule) (l : List Arg) : Bool := ps.any fun p => !(argF p.name l).isSome && !p.may
def dupS : List Str → List Str → Bool
  | _, [] => false
  | pre, x :: r => decide (x ∈ pre) || dupS (pre ++ [x]) r
def setL (l : List Str) : List Str × Int :=
  if l.any (fun x => !nameF x || resF x) = true then ([], 3)
  else if l.length > 4 then ([], 4)
  else if dupS [] l = true then ([], 7)
  else (l, 0)
def setF (s : Str) : List Str × Int := setL (splS s)
def fitsK : Nat → Val → Bool
  | 0, v => v.kind == 3 && (setF v.text).2 == 0
  | 1, v => v.kind == 3
  | 2, v => v.kind == 5 && v.items.all fun x => x.kind == 3
  | 3, v => (v.kind == 2 && decide (0 ≤ v.int)) && decide (v.int < 2147483648)
  | _, v => v.kind == 1
def unfitA (ps : List PRule) (l : List Arg) : Bool := l.any fun x => match findP x.name ps with | some p => !fitsK p.k x.val | none => false
def argsE (ps : List PRule) (l : List Arg) : Int := if badA ps [] l = true then 22 else if missA ps l = true then 22 else if unfitA ps l = true then 23 else 0
/-- is this one of the places? -/
def atP (ps pl : Int) : Bool := andI .i64 ps pl != 0
def judgeF (pre : List Dir) (x : Dir) (place : Int) : Int := match ruleF x.name with
  | none => 29
  | some r => if atP r.places place = false then 29 else if (!r.again && hasD x.name pre) = true then 7 else argsE r.params x.args
def usesF (place : Int) (at_ : Str) : List Dir → List Dir → List Fault
  | _, [] => []
  | pre, x :: r => (if judgeF pre x place = 0 then [] else [⟨judgeF pre x place, at_⟩]) ++ usesF place at_ (pre ++ [x]) r

/- the reference's side -/
theorem bad_found {ps : List PRule} : ∀ {l pre : List Arg}, badA ps pre l = false → ∀ x, x ∈ l → (findP x.name ps).isSome = true
  | [], _, _, x, h => by cases h
  | y :: l, pre, h, x, hx => by
    simp only [badA, Bool.or_eq_false_iff] at h
    rcases List.mem_cons.1 hx with rfl | hx
    · have := h.1.1
      cases hf : findP x.name ps with
      | none => rw [hf] at this; simp at this
      | some p => rfl
    · exact bad_found h.2 x hx
end Go.GB.C23


/-
  F23B: directives: violations of documents, and their laws.
-/
namespace Go.GB.C23
open Go.GB Go.GB.C11
set_option linter.unusedSimpArgs false
set_option linter.unusedVariables false
set_option maxRecDepth 100000
set_option maxHeartbeats 2000000

def argL (at_ : Str) : List Input → List Fault
  | [] => []
  | a :: r => usesF 0 (at_ ++ [40] ++ a.name ++ [41]) [] a.dirs ++ argL at_ r
def fldL (n : Str) (pl : Int) : List Field → List Fault
  | [] => []
  | f :: r => (usesF pl (n ++ [46] ++ f.name) [] f.dirs ++ argL (n ++ [46] ++ f.name) f.args) ++ fldL n pl r
def memL (n : Str) (pl : Int) : List Member → List Fault
  | [] => []
  | m :: r => usesF pl (n ++ [46] ++ m.name) [] m.dirs ++ memL n pl r
def inpL (n : Str) : List Input → List Fault
  | [] => []
  | a :: r => usesF 0 (n ++ [46] ++ a.name) [] a.dirs ++ inpL n r
def ownP (k : Int) : Int := if k = 1 then 1 else 2
def partL (t : Def) : List Fault :=
  if t.kind = 1 then fldL t.name 4 t.fields
  else if t.kind = 2 then fldL t.name 8 t.fields
  else if t.kind = 3 then memL t.name 0 t.members
  else if t.kind = 4 then memL t.name 16 t.members
  else if t.kind = 5 then inpL t.name t.inputs
  else []
def defL (t : Def) : List Fault := usesF (ownP t.kind) t.name [] t.dirs ++ partL t
def chkD : List Def → List Fault
  | [] => []
  | t :: r => defL t ++ chkD r
theorem usesF_len (pl : Int) (at_ : Str) : ∀ (l pre : List Dir), (usesF pl at_ pre l).length ≤ l.length
  | [], _ => by simp [usesF]
  | x :: r, pre => by
    have := usesF_len pl at_ r (pre ++ [x])
    simp only [usesF, List.length_append, List.length_cons]
    split <;> simp <;> omega

/- without the directives of subgraphs -/
def subD (n : Str) : Bool := n == ([107, 101, 121] : Str) || n == ([101, 120, 116, 101, 114, 110, 97, 108] : Str) || n == ([115, 104, 97, 114, 101, 97, 98, 108, 101] : Str) || n == ([114, 101, 113, 117, 105, 114, 101, 115] : Str) || n == ([112, 114, 111, 118, 105, 100, 101, 115] : Str)
def pubF (l : List Dir) : List Dir := l.filter fun d => !subD d.name
theorem judge_less {pre pre' : List Dir} (h : ∀ n, hasD n pre' = true → hasD n pre = true) {x : Dir} {pl : Int} (hj : judgeF pre x pl = 0) : judgeF pre' x pl = 0 := by
  unfold judgeF at hj ⊢
  cases hr : ruleF x.name with
  | none => rw [hr] at hj; simp at hj
  | some r =>
    rw [hr] at hj
    simp only [] at hj ⊢
    by_cases hp : atP r.places pl = false
    · rw [if_pos hp] at hj; simp at hj
    · rw [if_neg hp] at hj ⊢
      by_cases ha : (!r.again && hasD x.name pre) = true
      · rw [if_pos ha] at hj; simp at hj
      · rw [if_neg ha] at hj
        have : ¬ (!r.again && hasD x.name pre') = true := by
          intro h2
          simp only [Bool.and_eq_true] at h2 ha
          exact ha ⟨h2.1, h _ h2.2⟩
        rw [if_neg this]; exact hj
theorem hasD_append (n : Str) (a b : List Dir) : hasD n (a ++ b) = (hasD n a || hasD n b) := by simp [hasD]
theorem uses_pub {pl : Int} {at_ : Str} : ∀ {l pre pre' : List Dir}, (∀ n, hasD n pre' = true → hasD n pre = true) → usesF pl at_ pre l = [] → usesF pl at_ pre' (pubF l) = []
  | [], _, _, _, _ => rfl
  | x :: r, pre, pre', h, hu => by
    simp only [usesF, List.append_eq_nil_iff] at hu
    obtain ⟨h1, h2⟩ := hu
    have hj : judgeF pre x pl = 0 := by
      by_cases hj : judgeF pre x pl = 0
      · exact hj
      · rw [if_neg hj] at h1; cases h1
    unfold pubF
    rw [List.filter_cons]
    split
    · simp only [usesF]
      rw [if_pos (judge_less h hj), List.nil_append]
      refine uses_pub (pre := pre ++ [x]) (pre' := pre' ++ [x]) (fun n => ?_) h2
      rw [hasD_append, hasD_append]
      intro hn
      simp only [Bool.or_eq_true] at hn ⊢
      exact hn.imp (h n) id
    · refine uses_pub (pre := pre ++ [x]) (pre' := pre') (fun n hn => ?_) h2
      rw [hasD_append, h n hn]; rfl
def bareF (f : Field) : Field := { f with dirs := pubF f.dirs }
def bareM (m : Member) : Member := { m with dirs := pubF m.dirs }
def bareD (t : Def) : Def := { t with dirs := pubF t.dirs, fields := t.fields.map bareF, members := t.members.map bareM }
theorem fldL_pub {n : Str} {pl : Int} : ∀ {l : List Field}, fldL n pl l = [] → fldL n pl (l.map bareF) = []
  | [], _ => rfl
  | f :: r, h => by
    simp only [fldL, List.append_eq_nil_iff, List.map_cons] at h ⊢
    exact ⟨⟨uses_pub (fun _ h => h) h.1.1, h.1.2⟩, fldL_pub h.2⟩
theorem memL_pub {n : Str} {pl : Int} : ∀ {l : List Member}, memL n pl l = [] → memL n pl (l.map bareM) = []
  | [], _ => rfl
  | f :: r, h => by
    simp only [memL, List.append_eq_nil_iff, List.map_cons] at h ⊢
    exact ⟨uses_pub (fun _ h => h) h.1, memL_pub h.2⟩
theorem part_pub {t : Def} (h : partL t = []) : partL (bareD t) = [] := by
  unfold partL at h ⊢
  show (if t.kind = 1 then fldL t.name 4 (t.fields.map bareF) else if t.kind = 2 then fldL t.name 8 (t.fields.map bareF) else if t.kind = 3 then memL t.name 0 (t.members.map bareM) else if t.kind = 4 then memL t.name 16 (t.members.map bareM) else if t.kind = 5 then inpL t.name t.inputs else []) = []
  split
  · rename_i e; rw [if_pos e] at h; exact fldL_pub h
  · rename_i e; rw [if_neg e] at h
    split
    · rename_i e; rw [if_pos e] at h; exact fldL_pub h
    · rename_i e; rw [if_neg e] at h
      split
      · rename_i e; rw [if_pos e] at h; exact memL_pub h
      · rename_i e; rw [if_neg e] at h
        split
        · rename_i e; rw [if_pos e] at h; exact memL_pub h
        · rename_i e; rw [if_neg e] at h; exact h
theorem chk_pub : ∀ {l : List Def}, chkD l = [] → chkD (l.map bareD) = []
  | [], _ => rfl
  | t :: r, h => by
    simp only [chkD, List.append_eq_nil_iff, List.map_cons, defL] at h ⊢
    exact ⟨⟨uses_pub (fun _ h => h) h.1.1, part_pub h.1.2⟩, chk_pub h.2⟩
end Go.GB.C23


/-
  D11T: contracts of chapter 11's functions: inputs that contain themselves.
-/
namespace Go.GB.C11
open Go.GB
set_option linter.unusedSimpArgs false
set_option linter.unusedVariables false
set_option maxRecDepth 100000
set_option maxHeartbeats 2000000
variable {P : Program}

/- the closure -/
structure LOk (ds : List Def) (nm : Str) (l : List Str) : Prop where
  nd : l.Nodup
  mem : ∀ x, x ∈ l → x ∈ nm :: ds.map (fun o => o.name)
theorem nodup_len {α : Type} [BEq α] [LawfulBEq α] : ∀ {l m : List α}, l.Nodup → (∀ x, x ∈ l → x ∈ m) → l.length ≤ m.length
  | [], _, _, _ => by simp
  | a :: r, m, hn, hs => by
    have ha : a ∈ m := hs a (by simp)
    obtain ⟨hn1, hn2⟩ := List.nodup_cons.1 hn
    have h1 := nodup_len (l := r) (m := m.erase a) hn2 (fun x hx => by
      have hne : x ≠ a := by rintro rfl; exact hn1 hx
      exact (List.mem_erase_of_ne hne).2 (hs x (List.mem_cons_of_mem _ hx)))
    have h2 := List.length_erase_of_mem ha
    have h3 : 0 < m.length := List.length_pos_of_mem ha
    simp only [List.length_cons]; omega
theorem LOk.len {ds : List Def} {nm : Str} {l : List Str} (h : LOk ds nm l) : l.length ≤ ds.length + 1 := by
  have := nodup_len h.nd h.mem
  simpa using this
end Go.GB.C11


/-
  F23C: chapter 23's functions: parts of texts, sets of fields.
-/
namespace Go.GB.C23
open Go.GB Go.GB.C11
set_option linter.unusedSimpArgs false
set_option linter.unusedVariables false
set_option maxRecDepth 100000
set_option maxHeartbeats 2000000
variable {P : Program}

structure Pr23 (P : Program) : Prop extends Pr P where
  i3 : fnInfo P 3 = some (n3, c3.bare, r3)
  i4 : fnInfo P 4 = some (n4, c4.bare, r4)
  i6 : fnInfo P 6 = some (n6, c6.bare, r6)
  i12 : fnInfo P 12 = some (n12, c12.bare, r12)
  i13 : fnInfo P 13 = some (n13, c13.bare, r13)
  i17 : fnInfo P 17 = some (n17, c17.bare, r17)
  i19 : fnInfo P 19 = some (n19, c19.bare, r19)
  i20 : fnInfo P 20 = some (n20, c20.bare, r20)
  i21 : fnInfo P 21 = some (n21, c21.bare, r21)
  i22 : fnInfo P 22 = some (n22, c22.bare, r22)
  i25 : fnInfo P 25 = some (n25, c25.bare, r25)
  i46 : fnInfo P 46 = some (n46, c46.bare, r46)
  i47 : fnInfo P 47 = some (n47, c47.bare, r47)
  i48 : fnInfo P 48 = some (n48, c48.bare, r48)
  i52 : fnInfo P 52 = some (n52, c52.bare, r52)
  i56 : fnInfo P 56 = some (n56, c56.bare, r56)
  i57 : fnInfo P 57 = some (n57, c57.bare, r57)
  i69 : fnInfo P 69 = some (n69, c69.bare, r69)
  i70 : fnInfo P 70 = some (n70, c70.bare, r70)
  i73 : fnInfo P 73 = some (n73, c73.bare, r73)
  i89 : fnInfo P 89 = some (n89, c89.bare, r89)
  i90 : fnInfo P 90 = some (n90, c90.bare, r90)
  i91 : fnInfo P 91 = some (n91, c91.bare, r91)
  i92 : fnInfo P 92 = some (n92, c92.bare, r92)
  i93 : fnInfo P 93 = some (n93, c93.bare, r93)
  i116 : fnInfo P 116 = some (n116, c116.bare, r116)
  i117 : fnInfo P 117 = some (n117, c117.bare, r117)
  i118 : fnInfo P 118 = some (n118, c118.bare, r118)
  i119 : fnInfo P 119 = some (n119, c119.bare, r119)
  i120 : fnInfo P 120 = some (n120, c120.bare, r120)
  i121 : fnInfo P 121 = some (n121, c121.bare, r121)
  i130 : fnInfo P 130 = some (n130, c130.bare, r130)

/- names -/
def okB (b : UInt8) : Bool := letF b.toNat || digF b.toNat
theorem nmOk_all : ∀ (s : Str), nmOk false s = s.all okB
  | [] => rfl
  | c :: r => by simp [nmOk, okB, nmOk_all r]
theorem let_dig (c : Int) (h : digF c = true) : letF c = false := by
  unfold digF at h; unfold letF
  simp only [Bool.and_eq_true, decide_eq_true_eq] at h
  have h1 : ¬ c ≥ 65 := by omega
  have h2 : ¬ c ≥ 97 := by omega
  have h3 : ¬ c = 95 := by omega
  simp [h1, h2, h3]
theorem nameF_eq (s : Str) : nameF s = (decide (1 ≤ s.length ∧ s.length ≤ 64) && (!(match s with | [] => false | c :: _ => digF c.toNat) && s.all okB)) := by
  unfold nameF
  cases s with
  | nil => rfl
  | cons c r =>
    simp only [nmOk, nmOk_all, List.all_cons, okB]
    cases hd : digF c.toNat with
    | false => simp
    | true => rw [let_dig _ hd]; simp
theorem tname_ok (H : Pr23 P) (s : Str) (hs : s.length ≤ 140737488355328) : FnOk P 47 [.t (.str s)] ⟨[], 0⟩ { v := .t (.bool (nameF s)) } := by
  cases s with
  | nil =>
    refine FnOk.run H.i47 H.mixed rfl rfl ?_
    refine fR rfl ?_
    refine Mid.grdF rfl rfl rfl rfl rfl ?_
    refine Mid.grdF rfl rfl rfl rfl rfl ?_
    refine fM rfl ?_
    refine Mid.grdF rfl rfl rfl rfl rfl ?_
    refine Mid.grdF rfl rfl rfl rfl rfl ?_
    refine Mid.grdF rfl rfl rfl rfl rfl ?_
    refine fM rfl ?_
    refine Run.condT rfl rfl rfl ?_
    refine fR rfl ?_
    refine Run.fin rfl (EndOk.go ?_); exact .t rfl
  | cons c r =>
    have e := nameF_eq (c :: r)
    simp only at e
    refine FnOk.run H.i47 H.mixed rfl rfl ?_
    refine fR rfl ?_
    refine gr rfl ?_
    refine fM rfl ?_
    refine gr rfl ?_
    refine fM rfl ?_
    refine Run.cond rfl rfl (fun h => ?_) (fun h => ?_)
    · refine fR rfl ?_
      have h' : decide (((c :: r).length : Int) > 64) = true ∨ digF c.toNat = true := by
        unfold digF
        simpa using h
      refine Run.fin rfl (EndOk.go ?_); exact .t (by
        rw [e]
        rcases h' with h' | h'
        · have : ¬ (1 ≤ (c :: r).length ∧ (c :: r).length ≤ 64) := by
            have := of_decide_eq_true h'
            omega
          rw [decide_eq_false this]; rfl
        · rw [h']; simp)
    · have hl : (c :: r).length ≤ 64 ∧ digF c.toNat = false := by
        unfold digF
        simp only [Bool.or_eq_false_iff] at h
        refine ⟨?_, h.2⟩
        have := of_decide_eq_false h.1.2
        omega
      have e2 : nameF (c :: r) = (c :: r).all okB := by
        rw [e, hl.2, decide_eq_true ⟨by simp, hl.1⟩]; rfl
      refine fR rfl ?_
      refine rList (c :: r) (fun i (_ : Unit) => { env := [(0, .t (.str (c :: r))), (23, .t (.int .i64 (c :: r).length)), (24, .t (.int .i64 i))], s := ⟨[], 0⟩ }) (fun r' i _ => (c :: r).all okB = r'.all okB) 0 () rfl rfl rfl rfl rfl ?_ ?_
      · intro _ hinv
        refine fR rfl ?_
        refine Run.condF rfl rfl (by simp) ?_
        refine fR rfl ?_
        refine Run.fin rfl (EndOk.go ?_); exact .t (by rw [e2, hinv]; rfl)
      · intro i b r' _ h1 hi hd hinv ih
        refine fR rfl ?_
        refine Run.condT rfl rfl (by simp at hi ⊢; omega) ?_
        refine fR rfl ?_
        refine Mid.byte rfl rfl h1 rfl ?_
        refine fM rfl ?_
        have ho : ((((decide ((b.toNat : Int) ≥ 97) && decide ((b.toNat : Int) ≤ 122)) || (decide ((b.toNat : Int) ≥ 65) && decide ((b.toNat : Int) ≤ 90))) || (decide ((b.toNat : Int) ≥ 48) && decide ((b.toNat : Int) ≤ 57))) || (b.toNat : Int) == 95) = okB b := by
          unfold okB letF digF
          generalize (decide ((b.toNat : Int) ≥ 97) && decide ((b.toNat : Int) ≤ 122)) = x1
          generalize (decide ((b.toNat : Int) ≥ 65) && decide ((b.toNat : Int) ≤ 90)) = x2
          generalize (decide ((b.toNat : Int) ≥ 48) && decide ((b.toNat : Int) ≤ 57)) = x3
          generalize ((b.toNat : Int) == 95) = x4
          cases x1 <;> cases x2 <;> cases x3 <;> cases x4 <;> rfl
        refine Run.cond rfl rfl (fun hc => ?_) (fun hc => ?_)
        · have hc' : okB b = false := by rw [ho] at hc; simpa using hc
          refine fR rfl ?_
          refine Run.fin rfl (EndOk.go ?_); exact .t (by rw [e2, hinv, List.all_cons, hc']; rfl)
        · have hc' : okB b = true := by rw [ho] at hc; simpa using hc
          refine fR rfl ?_
          refine aL rfl rfl rfl rfl rfl ?_
          refine fM rfl ?_
          exact rWeak 0 rfl (ih () (by rw [hinv, List.all_cons, hc']; rfl)) rfl rfl rfl
theorem hasPre_ok (H : Pr23 P) (s : Str) (hs : s.length ≤ 140737488355328) : FnOk P 91 [.t (.str s), .t (.str [95, 95])] ⟨[], 0⟩ { v := .t (.bool (resF s)) } := by
  match s, hs with
  | [], _ =>
    refine FnOk.run H.i91 H.mixed rfl rfl ?_
    refine fR rfl ?_
    refine gr rfl ?_
    refine fM rfl ?_
    skip
    refine Run.fin rfl (EndOk.go ?_); exact .t rfl
  | [a], _ =>
    refine FnOk.run H.i91 H.mixed rfl rfl ?_
    refine fR rfl ?_
    refine gr rfl ?_
    refine fM rfl ?_
    skip
    refine Run.fin rfl (EndOk.go ?_); exact .t rfl
  | a :: b :: r, hs =>
    refine FnOk.run H.i91 H.mixed rfl rfl ?_
    refine fR rfl ?_
    refine gr rfl ?_
    refine fM rfl ?_
    have e : (a :: b :: r : Str).take 2 = [a, b] := rfl
    refine Run.fin rfl (EndOk.go ?_); exact .t (by
      have h2 : ((a.toNat : Int) == 95) = (a == 95) := by
        rw [Bool.eq_iff_iff, beq_iff_eq, beq_iff_eq]
        exact ⟨fun h => UInt8.toNat_inj.1 (by have : a.toNat = 95 := by omega
                                              exact this), fun h => by rw [h]; rfl⟩
      have h3 : ((b.toNat : Int) == 95) = (b == 95) := by
        rw [Bool.eq_iff_iff, beq_iff_eq, beq_iff_eq]
        exact ⟨fun h => UInt8.toNat_inj.1 (by have : b.toNat = 95 := by omega
                                              exact this), fun h => by rw [h]; rfl⟩
      refine congrArg T.bool ?_
      show (_ && ([a, b] == ([95, 95] : Str))) = ((a.toNat : Int) == 95 && (b.toNat : Int) == 95)
      rw [h2, h3]
      have h4 : decide (((a :: b :: r : Str).length : Int) ≥ (([95, 95] : Str).length : Int)) = true := by simp; omega
      rw [h4]
      simp)
theorem strPre_ok (H : Pr23 P) (s : Str) (hs : s.length ≤ 140737488355328) : FnOk P 70 [.t (.str s), .t (.str [95, 95])] ⟨[], 0⟩ { v := .t (.bool (resF s)) } := by
  refine FnOk.run H.i70 H.mixed rfl rfl ?_
  refine fR rfl ?_
  refine Mid.call (hasPre_ok H s hs) rfl rfl rfl rfl ?_
  refine fM rfl ?_
  refine Run.fin rfl (EndOk.go ?_); exact .t rfl
theorem treserved_ok (H : Pr23 P) (s : Str) (hs : s.length ≤ 140737488355328) : FnOk P 48 [.t (.str s)] ⟨[], 0⟩ { v := .t (.bool (resF s)) } := by
  refine FnOk.run H.i48 H.mixed rfl rfl ?_
  refine fR rfl ?_
  refine Mid.call (strPre_ok H s hs) rfl rfl rfl rfl ?_
  refine fM rfl ?_
  refine Run.fin rfl (EndOk.go ?_); exact .t rfl

/- parts -/
theorem idxByte_ok (H : Pr23 P) (s : Str) (hs : s.length ≤ 140737488355328) : FnOk P 130 [.t (.str s), .t (.int .u8 32)] ⟨[], 0⟩ { v := .t (.int .i64 (Go.Lib.indexByte s 32)) } := by
  refine FnOk.run H.i130 H.mixed rfl rfl ?_
  refine fR rfl ?_
  refine p0 rfl ?_
  refine fM rfl ?_
  refine Run.fin rfl (EndOk.go ?_); exact .t rfl
theorem sIndex_ok (H : Pr23 P) (s : Str) (hs : s.length ≤ 140737488355328) : FnOk P 116 [.t (.str s), .t (.str [32])] ⟨[], 0⟩ { v := .t (.int .i64 (Go.Lib.indexByte s 32)) } := by
  refine FnOk.run H.i116 H.mixed rfl rfl ?_
  refine fR rfl ?_
  refine Run.cond rfl rfl (fun h => ?_) (fun h => ?_)
  · have h' : s = [32] := by
      have h2 : [32] = s := by simpa using h
      exact h2.symm
    subst h'
    refine fR rfl ?_
    refine Run.fin rfl (EndOk.go ?_); exact .t rfl
  · refine fR rfl ?_
    refine Run.condT rfl rfl rfl ?_
    refine fR rfl ?_
    refine pu rfl ?_
    refine Mid.call (idxByte_ok H s hs) rfl rfl rfl rfl ?_
    refine fM rfl ?_
    refine Run.fin rfl (EndOk.go ?_); exact .t rfl
theorem index_ok (H : Pr23 P) (s : Str) (hs : s.length ≤ 140737488355328) : FnOk P 90 [.t (.str s), .t (.str [32])] ⟨[], 0⟩ { v := .t (.int .i64 (Go.Lib.indexByte s 32)) } := by
  refine FnOk.run H.i90 H.mixed rfl rfl ?_
  refine fR rfl ?_
  refine Mid.call (sIndex_ok H s hs) rfl rfl rfl rfl ?_
  refine fM rfl ?_
  refine Run.fin rfl (EndOk.go ?_); exact .t rfl
theorem count_ok (H : Pr23 P) (s : Str) (hs : s.length ≤ 140737488355328) : FnOk P 89 [.t (.str s), .t (.str [32])] ⟨[], 0⟩ { v := .t (.int .i64 (s.count 32)) } := by
  refine FnOk.run H.i89 H.mixed rfl rfl ?_
  refine fR rfl ?_
  refine Run.condF rfl rfl rfl ?_
  refine fR rfl ?_
  refine Run.condT rfl rfl rfl ?_
  refine fR rfl ?_
  refine pu rfl ?_
  refine p0 rfl ?_
  refine fM rfl ?_
  refine Run.fin rfl (EndOk.go ?_); exact .t rfl
end Go.GB.C23


/-
  F23D: chapter 23's functions: sets of fields.
-/
namespace Go.GB.C23
open Go.GB Go.GB.C11
set_option linter.unusedSimpArgs false
set_option linter.unusedVariables false
set_option maxRecDepth 100000
set_option maxHeartbeats 2000000
variable {P : Program}

theorem idx_split : ∀ {s : Str}, 0 < s.count 32 → ∃ m : Nat, Go.Lib.indexByte s 32 = m ∧ m < s.length ∧ ¬ (32 : UInt8) ∈ s.take m ∧ s = s.take m ++ 32 :: s.drop (m + 1)
  | [], h => by simp at h
  | c :: r, h => by
    by_cases hc : c = 32
    · subst hc
      exact ⟨0, by simp [Go.Lib.indexByte], by simp, by simp, by simp⟩
    · have h1 : 0 < r.count 32 := by
        rw [List.count_cons_of_ne (fun e => hc e)] at h; exact h
      obtain ⟨m, h2, h3, h4, h5⟩ := idx_split h1
      refine ⟨m + 1, ?_, by simp; omega, ?_, ?_⟩
      · unfold Go.Lib.indexByte
        have hb : (c == 32) = false := by simpa using hc
        rw [hb, h2]
        simp
      · simp only [List.take_succ_cons, List.mem_cons, not_or]
        exact ⟨fun e => hc e.symm, h4⟩
      · simp only [List.take_succ_cons, List.drop_succ_cons, List.cons_append]
        rw [← h5]
theorem count_app (a b : Str) (h : ¬ (32 : UInt8) ∈ a) : (a ++ 32 :: b).count 32 = b.count 32 + 1 := by
  rw [List.count_append, List.count_eq_zero_of_not_mem h]; simp
/-- the state of the splitting -/
structure SpOk (s : Str) (n i : Nat) (r : Str) (A : List Str) : Prop where
  len : A.length = n + 1
  cnt : i + r.count 32 = n
  eq : splS s = A.take i ++ splS r
  le : r.length ≤ s.length
theorem set_take' {α : Type} (A : List α) (i : Nat) (x : α) (h : i < A.length) : (A.set i x).take (i + 1) = A.take i ++ [x] := by
  rw [List.take_add_one, List.getElem?_set_self h, List.take_set_of_le (Nat.le_refl i)]; rfl
theorem genSplit_ok (H : Pr23 P) (s : Str) (hs : s.length ≤ 140737488355328) (hc : s.count 32 < 8796093022208) : FnOk P 69 [.t (.str s), .t (.str [32]), .t (.int .i64 0), .t (.int .i64 (-1))] ⟨[], 0⟩ { v := .t (.lst ((splS s).map sE)) } := by
  have hcl : s.count 32 ≤ s.length := List.count_le_length
  refine FnOk.run H.i69 H.mixed rfl rfl ?_
  refine fR rfl ?_
  refine Run.condF rfl rfl rfl ?_
  refine fR rfl ?_
  refine Run.condF rfl rfl rfl ?_
  refine fR rfl ?_
  refine Run.condT rfl rfl rfl ?_
  refine fR rfl ?_
  refine Mid.call (count_ok H s hs) rfl rfl rfl rfl ?_
  refine aL rfl rfl rfl rfl rfl ?_
  refine fM rfl ?_
  refine aL rfl rfl rfl rfl rfl ?_
  refine fM rfl ?_
  have e : (if ((s.length + 1 : Nat) : Int) < ((s.count 32 + 1 : Nat) : Int) then ((s.length + 1 : Nat) : Int) else ((s.count 32 + 1 : Nat) : Int)) = ((s.count 32 + 1 : Nat) : Int) := by rw [if_neg (by omega)]
  rw [e]
  refine Mid.makeE [([] : Str)] (ev := T.str) rfl (by omega) (by omega) rfl rfl rfl ?_
  refine fM rfl ?_
  refine s64 rfl rfl rfl ?_
  refine fM rfl ?_
  generalize hn : s.count 32 = n at hc hcl
  refine rLoopM (β := Nat × Str × List Str) (fun b => { env := [(0, .t (.str b.2.1)), (1, .t (.str [32])), (2, .t (.int .i64 0)), (3, .t (.int .i64 n)), (9, .slc 0 0 (n + 1) 1), (10, .t (.int .i64 b.1))], s := ⟨[(0, .cells (cE T.str b.2.2))], 1⟩ })
    (fun b => SpOk s n b.1 b.2.1 b.2.2) (fun b => n - b.1) 1 (0, s, (List.replicate (n + 1) [([] : Str)]).flatten) rfl ⟨by simp, by simp [hn], by simp, Nat.le_refl _⟩ rfl rfl rfl ?_
  rintro ⟨i, r, A⟩ hinv ih
  have hA := hinv.len
  have hcn := hinv.cnt
  have heq := hinv.eq
  have hle := hinv.le
  simp only at hA hcn heq hle
  by_cases hi : i < n
  · obtain ⟨m, h1, h2, h3, h4⟩ := idx_split (s := r) (by omega)
    have hix := index_ok H r (by omega)
    rw [h1] at hix
    refine fR rfl ?_
    refine Run.condT rfl rfl (by simp; omega) ?_
    refine fR rfl ?_
    refine Mid.call (hix) rfl rfl rfl rfl ?_
    refine fM rfl ?_
    refine Run.condF rfl rfl (by simp) ?_
    refine fR rfl ?_
    refine aL rfl rfl rfl rfl rfl ?_
    refine pu rfl ?_
    refine Mid.iaS rfl rfl (by omega) rfl ?_
    refine Mid.stE rfl rfl ((by simp only; omega)) rfl rfl ?_
    refine fM rfl ?_
    refine aL rfl rfl rfl rfl rfl ?_
    refine pu rfl ?_
    refine fM rfl ?_
    refine aL rfl rfl rfl rfl rfl ?_
    refine fM rfl ?_
    have hc2 : r.count 32 = (r.drop (m + 1)).count 32 + 1 := by
      have := count_app (r.take m) (r.drop (m + 1)) h3
      rw [← h4] at this; exact this
    have hs2 : splS r = r.take m :: splS (r.drop (m + 1)) := by
      have := splS_app (a := r.take m) (b := r.drop (m + 1)) h3
      rw [← h4] at this; exact this
    exact rWeak 1 rfl (ih (i + 1, r.drop (m + 1), A.set i (r.take m)) (by simp only; omega) ⟨by simp only [List.length_set]; exact hA, by simp only; omega, by
      simp only
      rw [set_take' _ _ _ (by omega), heq, hs2, List.append_assoc]; rfl, by simp only [List.length_drop]; omega⟩) rfl rfl rfl
  · have hin : i = n := by omega
    subst hin
    have hc0 : r.count 32 = 0 := by omega
    have hs2 : splS r = [r] := splS_none (List.count_eq_zero.1 hc0)
    refine fR rfl ?_
    refine Run.condF rfl rfl (by simp) ?_
    refine fR rfl ?_
    refine Mid.iaS rfl rfl (by omega) rfl ?_
    refine Mid.stE rfl rfl ((by simp only; omega)) rfl rfl ?_
    refine fM rfl ?_
    refine aL rfl rfl rfl rfl rfl ?_
    refine pu rfl ?_
    refine fM rfl ?_
    refine Run.fin rfl (EndOk.chg rfl rfl ?_ ?_)
    · have hl : splS s = A.set i r := by
        rw [heq, hs2, ← set_take' _ _ _ (by omega), List.take_of_length_le (by rw [List.length_set]; omega)]
      rw [hl, show A.set i r = A.set (0 + i * 1) r by rw [Nat.zero_add, Nat.mul_one]]
      exact LeR.slcE (Nat.zero_le _) rfl (by rw [List.length_set]; simp only; omega)
    · exact (by repeat' (first | exact trivial | exact LeX.t | exact LeX.top | exact LeX.nilOwn (Nat.le_of_ble_eq_true rfl) (Nat.le_of_ble_eq_true rfl) | exact LeX.ownT | exact LeX.nilT | exact LeX.same rfl | exact LeX.tEq (by simp) | exact LeX.ownEq (by simp) (Nat.le_of_ble_eq_true rfl) | exact LeX.tEq (by congr 1 <;> omega) | exact Or.inr ⟨Nat.le_of_ble_eq_true rfl, Nat.le_of_ble_eq_true rfl, rfl⟩ | refine Or.inl ⟨Nat.le_of_ble_eq_true rfl, _, rfl, ?_⟩ | refine LeO.cells ?_ | exact LeO.arr rfl | exact LeO.arr (by simp) | exact LeO.mE (by first | rfl | simp) (by first | exact Or.inl rfl | exact Or.inr rfl) | exact LeO.cE (by first | rfl | simp) | exact LeXs.cE (by first | rfl | simp) | refine LeO.map (by first | rfl | simp) ?_ (by first | exact Or.inl rfl | exact Or.inr rfl) | exact LeO.iter (by first | rfl | simp) (Nat.le_of_ble_eq_true rfl) | refine LeXs.cons ?_ ?_ | exact LeXs.nil | refine And.intro ?_ ?_))
theorem split_ok (H : Pr23 P) (s : Str) (hs : s.length ≤ 140737488355328) (hc : s.count 32 < 8796093022208) : FnOk P 46 [.t (.str s), .t (.str [32])] ⟨[], 0⟩ { v := .t (.lst ((splS s).map sE)) } := by
  refine FnOk.run H.i46 H.mixed rfl rfl ?_
  refine fR rfl ?_
  refine Mid.call (genSplit_ok H s hs hc) rfl rfl rfl rfl ?_
  refine fM rfl ?_
  refine Run.fin rfl (EndOk.go ?_); exact .t rfl
theorem dSet_ok (H : Pr23 P) (s : Str) (hs : s.length ≤ 140737488355328) (hc : s.count 32 < 8796093022208) : FnOk P 13 [.t (.str s)] ⟨[], 0⟩ { v := .tup [.t (.lst ((setF s).1.map sE)), .t (.int .i64 (setF s).2)] } := by
  have hsp := split_ok H s hs hc
  have hll := splS_len s
  have hel : ∀ x, x ∈ splS s → x.length ≤ 140737488355328 := fun x hx => Nat.le_trans (splS_mem hx) hs
  have hR : ∀ R, setF s = R → FnOk P 13 [.t (.str s)] ⟨[], 0⟩ { v := .tup [.t (.lst (R.1.map sE)), .t (.int .i64 R.2)] } := by
    intro R hR
    unfold setF at hR
    generalize splS s = l at hsp hll hel hR
    refine FnOk.run H.i13 H.mixed rfl rfl ?_
    refine fR rfl ?_
    refine Mid.call (hsp) rfl rfl rfl rfl ?_
    refine fM rfl ?_
    refine lM rfl rfl rfl ?_
    refine fM rfl ?_
    refine rList l (fun i (_ : Unit) => { env := [(4, .t (.lst (l.map sE))), (11, .t (.lst (l.map sE))), (12, .t (.int .i64 l.length)), (13, .t (.int .i64 i))], s := ⟨[], 0⟩ }) (fun r i _ => (l.any fun x => !nameF x || resF x) = r.any fun x => !nameF x || resF x) 0 () rfl rfl rfl rfl rfl ?_ ?_
    · intro _ hinv
      have hb : (l.any fun x => !nameF x || resF x) = false := by rw [hinv]; rfl
      unfold setL at hR
      rw [if_neg (by rw [hb]; simp)] at hR
      refine fR rfl ?_
      refine Run.condF rfl rfl (by simp) ?_
      refine fR rfl ?_
      refine lM rfl rfl rfl ?_
      refine fM rfl ?_
      refine Run.cond rfl rfl (fun h4 => ?_) (fun h4 => ?_)
      · have h4' : l.length > 4 := by simp at h4; omega
        rw [if_pos h4'] at hR
        subst hR
        refine fR rfl ?_
        refine Run.fin rfl (EndOk.go ?_); exact .tup2 (.nil rfl) (.t rfl)
      · have h4' : ¬ l.length > 4 := by simp at h4; omega
        rw [if_neg h4'] at hR
        refine fR rfl ?_
        refine lM rfl rfl rfl ?_
        refine fM rfl ?_
        refine rList l (fun i (_ : Unit) => { env := [(4, .t (.lst (l.map sE))), (29, .t (.int .i64 l.length)), (30, .t (.int .i64 i))], s := ⟨[], 0⟩ }) (fun r i _ => dupS [] l = dupS (l.take i) r) 0 () rfl rfl rfl rfl rfl ?_ ?_
        · intro _ hd
          rw [if_neg (by rw [hd]; simp [dupS])] at hR
          subst hR
          refine fR rfl ?_
          refine Run.condF rfl rfl (by simp) ?_
          refine fR rfl ?_
          refine Run.fin rfl (EndOk.go ?_); exact .tup2 (.t rfl) (.t rfl)
        · intro i x r _ h1 hi hdr hd ih
          have htk : l.take i ++ [x] = l.take (i + 1) := by rw [List.take_add_one, h1]; rfl
          refine fR rfl ?_
          refine Run.condT rfl rfl (by simp; omega) ?_
          refine fR rfl ?_
          refine rList (l.take i) (fun k (_ : Unit) => { env := [(4, .t (.lst (l.map sE))), (7, .t (.int .i64 i)), (29, .t (.int .i64 l.length)), (30, .t (.int .i64 i)), (33, .t (.int .i64 i)), (34, .t (.int .i64 k))], s := ⟨[], 0⟩ }) (fun r' k _ => decide (x ∈ l.take i) = decide (x ∈ r')) 0 () rfl rfl rfl rfl rfl ?_ ?_
          · intro _ hm
            have hm' : ¬ x ∈ l.take i := by simpa using hm
            refine fR rfl ?_
            refine Run.condF rfl rfl (by simp; omega) ?_
            refine fR rfl ?_
            refine aL rfl rfl rfl rfl rfl ?_
            refine fM rfl ?_
            exact rWeak 0 rfl (ih () (by rw [hd, dupS, ← htk]; simp [hm'])) rfl rfl rfl
          · intro k y r' _ g1 gi gd hm ih2
            have gi' : k < i := by rw [List.length_take] at gi; omega
            have g2 : l[k]? = some y := by rw [List.getElem?_take, if_pos gi'] at g1; exact g1
            refine fR rfl ?_
            refine Run.condT rfl rfl (by simp; omega) ?_
            refine fR rfl ?_
            refine Mid.elemMap rfl rfl rfl h1 rfl rfl ?_
            refine fM rfl ?_
            refine Mid.elemMap rfl rfl rfl g2 rfl rfl ?_
            refine fM rfl ?_
            refine Run.cond rfl rfl (fun he => ?_) (fun he => ?_)
            · have he' : x = y := by simpa using he
              have hmem : x ∈ l.take i := by
                have := hm.trans (decide_eq_true (by rw [he']; exact List.mem_cons_self ..))
                exact of_decide_eq_true this
              rw [if_pos (by rw [hd, dupS, decide_eq_true hmem]; rfl)] at hR
              subst hR
              refine fR rfl ?_
              refine Run.fin rfl (EndOk.go ?_); exact .tup2 (.nil rfl) (.t rfl)
            · have he' : ¬ x = y := by simpa using he
              refine fR rfl ?_
              refine aL rfl rfl rfl rfl rfl ?_
              refine fM rfl ?_
              exact rWeak 0 rfl (ih2 () (by rw [hm]; simp [he'])) rfl rfl rfl
    · intro i x r _ h1 hi hdr hinv ih
      have hx := hel x (List.mem_of_getElem? h1)
      refine fR rfl ?_
      refine Run.condT rfl rfl (by simp; omega) ?_
      refine fR rfl ?_
      refine Mid.elemMap rfl rfl rfl h1 rfl rfl ?_
      refine fM rfl ?_
      refine Mid.call (tname_ok H x hx) rfl rfl rfl rfl ?_
      refine fM rfl ?_
      refine caG rfl rfl (fun hg => ⟨_, rfl, treserved_ok H x hx, rfl⟩) rfl rfl ?_
      refine fM rfl ?_
      refine Run.cond rfl rfl (fun hb => ?_) (fun hb => ?_)
      · unfold setL at hR
        rw [if_pos (by rw [hinv, List.any_cons, show (!nameF x || resF x) = true from hb]; rfl)] at hR
        subst hR
        refine fR rfl ?_
        refine Run.fin rfl (EndOk.go ?_); exact .tup2 (.nil rfl) (.t rfl)
      · refine fR rfl ?_
        refine aL rfl rfl rfl rfl rfl ?_
        refine fM rfl ?_
        exact rWeak 0 rfl (ih () (by rw [hinv, List.any_cons, show (!nameF x || resF x) = false from hb]; rfl)) rfl rfl rfl
  exact hR _ rfl
end Go.GB.C23

