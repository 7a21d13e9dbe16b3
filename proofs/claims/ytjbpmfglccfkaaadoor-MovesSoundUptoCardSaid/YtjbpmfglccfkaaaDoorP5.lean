/-
  YtjbpmfglccfkaaaDoorP5: lemmas of this proof (part 5). No conditions.
-/
import Derived.Test.YtjbpmfglccfkaaaDoorP2
import Derived.Test.YtjbpmfglccfkaaaDoorP4

/-
  F23Code: the code of some functions as abstract code (printed by program).
-/
namespace Go.GB.C11
open Go.GB
/- 3 supergraph supergraphlaw23.DirectivesSets -/
def c3_0 : ACode :=
  (.seq (.region false [⟨some 58, none, .mv (.s 4)⟩,
    ⟨some 59, none, .bin .neq (.s 58) (.c (.t (.int .i64 0)))⟩,
    ⟨some 60, none, .mv (.s 59)⟩,
    ⟨some 61, some (60, false), .mv (.s 7)⟩,
    ⟨some 62, some (60, false), .mv (.s 0)⟩,
    ⟨some 63, some (60, false), .bin .eql (.s 61) (.s 62)⟩,
    ⟨some 64, none, .pick (.s 60) (.c (.t (.bool true))) (.s 63)⟩,
    ⟨some 65, none, .mv (.s 64)⟩,
    ⟨some 66, some (65, true), .call 12 []⟩,
    ⟨some 67, none, .pick (.s 65) (.s 66) (.c (.t (.bool false)))⟩,
    ⟨some 2, none, .mv (.s 67)⟩] [] [2]) .ret)
def c3_1 : ACode :=
  (.region false [⟨some 37, none, .mv (.s 8)⟩,
    ⟨some 38, none, .bin .add (.s 37) (.c (.t (.int .i64 1)))⟩,
    ⟨some 8, none, .mv (.s 38)⟩] [] [0, 3, 4, 5, 7, 8])
def c3_2 : ACode :=
  (.region false [⟨some 52, none, .mv (.s 7)⟩,
    ⟨some 53, none, .mv (.s 3)⟩,
    ⟨some 54, none, .mv (.s 8)⟩,
    ⟨some 55, none, .ia 1 (.s 53) (.s 54)⟩,
    ⟨some 56, none, .ld false 1 (.s 55)⟩,
    ⟨some 57, none, .bin .add (.s 52) (.s 56)⟩,
    ⟨some 7, none, .mv (.s 57)⟩] [] [0, 3, 4, 5, 7, 8])
def c3_3 : ACode :=
  (.region false [⟨some 50, none, .mv (.s 7)⟩,
    ⟨some 51, none, .bin .add (.s 50) (.c (.t (.str [32])))⟩,
    ⟨some 7, none, .mv (.s 51)⟩] [] [0, 3, 4, 5, 7, 8])
def c3_4 : ACode :=
  (.cond (.s 49) c3_3 .skip)
def c3_5 : ACode :=
  (.seq (.seq (.region false [⟨some 48, none, .mv (.s 8)⟩,
    ⟨some 49, none, .bin .gtr (.s 48) (.c (.t (.int .i64 0)))⟩] [] [0, 3, 4, 5, 7, 8, 49]) c3_4) c3_2)
def c3_6 : ACode :=
  (.seq (.region false [⟨some 2, none, .cst (.t (.bool false))⟩] [] [2]) .ret)
def c3_7 : ACode :=
  (.cond (.s 47) c3_6 .skip)
def c3_8 : ACode :=
  (.seq (.seq (.region true [⟨some 39, none, .mv (.s 3)⟩,
    ⟨some 40, none, .mv (.s 8)⟩,
    ⟨some 41, none, .ia 1 (.s 39) (.s 40)⟩,
    ⟨some 42, none, .ld false 1 (.s 41)⟩,
    ⟨some 43, none, .mv (.s 5)⟩,
    ⟨some 44, none, .mv (.s 8)⟩,
    ⟨some 45, none, .ia 1 (.s 43) (.s 44)⟩,
    ⟨some 46, none, .ld false 1 (.s 45)⟩,
    ⟨some 47, none, .bin .neq (.s 42) (.s 46)⟩] [[], [], [0, 1], [2], [], [], [4, 5], [6], [3, 7]] [0, 3, 4, 5, 7, 8, 47]) c3_7) c3_5)
def c3_9 : ACode :=
  (.seq (.block 1 c3_8) c3_1)
def c3_10 : ACode :=
  (.cond (.s 36) .skip (.exit 0))
def c3_11 : ACode :=
  (.seq (.seq (.region false [⟨some 33, none, .mv (.s 8)⟩,
    ⟨some 34, none, .mv (.s 3)⟩,
    ⟨some 35, none, .len (.s 34)⟩,
    ⟨some 36, none, .bin .lss (.s 33) (.s 35)⟩] [] [0, 3, 4, 5, 7, 8, 36]) c3_10) c3_9)
def c3_12 : ACode :=
  (.loop c3_11)
def c3_13 : ACode :=
  (.block 0 c3_12)
def c3_14 : ACode :=
  (.seq (.seq (.region false [⟨some 8, none, .cst (.t (.int .i64 0))⟩] [] [0, 3, 4, 5, 7, 8]) c3_13) c3_0)
def c3_15 : ACode :=
  (.seq (.region false [⟨some 7, none, .cst (.t (.str []))⟩] [] [0, 3, 4, 5, 7]) c3_14)
def c3_16 : ACode :=
  (.seq (.region false [⟨some 2, none, .cst (.t (.bool false))⟩] [] [2]) .ret)
def c3_17 : ACode :=
  (.cond (.s 32) c3_16 .skip)
def c3_18 : ACode :=
  (.seq (.seq (.region false [⟨some 23, none, .mv (.s 3)⟩,
    ⟨some 24, none, .len (.s 23)⟩,
    ⟨some 25, none, .mv (.s 5)⟩,
    ⟨some 26, none, .len (.s 25)⟩,
    ⟨some 27, none, .bin .neq (.s 24) (.s 26)⟩,
    ⟨some 28, none, .mv (.s 27)⟩,
    ⟨some 29, some (28, false), .mv (.s 4)⟩,
    ⟨some 30, some (28, false), .mv (.s 6)⟩,
    ⟨some 31, some (28, false), .bin .neq (.s 29) (.s 30)⟩,
    ⟨some 32, none, .pick (.s 28) (.c (.t (.bool true))) (.s 31)⟩] [] [0, 3, 4, 5, 32]) c3_17) c3_15)
def c3_19 : ACode :=
  (.seq (.region false [⟨some 19, none, .mv (.s 0)⟩,
    ⟨some 20, none, .call 14 [(.s 19)]⟩,
    ⟨some 18, none, .mv (.s 20)⟩,
    ⟨some 21, none, .ext (.s 18) 0⟩,
    ⟨some 22, none, .ext (.s 18) 1⟩,
    ⟨some 5, none, .mv (.s 21)⟩,
    ⟨some 6, none, .mv (.s 22)⟩] [] [0, 3, 4, 5, 6]) c3_18)
def c3_20 : ACode :=
  (.seq (.region false [⟨some 14, none, .mv (.s 0)⟩,
    ⟨some 15, none, .call 13 [(.s 14)]⟩,
    ⟨some 13, none, .mv (.s 15)⟩,
    ⟨some 16, none, .ext (.s 13) 0⟩,
    ⟨some 17, none, .ext (.s 13) 1⟩,
    ⟨some 3, none, .mv (.s 16)⟩,
    ⟨some 4, none, .mv (.s 17)⟩] [] [0, 3, 4]) c3_19)
def c3_21 : ACode :=
  (.seq (.region false [⟨some 12, none, .call 12 []⟩,
    ⟨some 2, none, .mv (.s 12)⟩] [] [2]) .ret)
def c3_22 : ACode :=
  (.cond (.s 11) c3_21 .skip)
def c3_23 : ACode :=
  (.seq (.seq (.region false [⟨some 9, none, .mv (.s 0)⟩,
    ⟨some 10, none, .lens (.s 9)⟩,
    ⟨some 11, none, .bin .gtr (.s 10) (.c (.t (.int .i64 1000)))⟩] [] [0, 11]) c3_22) c3_20)
def c3 : ACode :=
  (.seq (.region false [⟨some 2, none, .cst (.t (.bool false))⟩] [] [0]) c3_23)
def r3 : List ARes := [.tmp 2]
def n3 : Nat := 68
/- 4 supergraph supergraphlaw23.DirectivesCheck -/
def c4_0 : ACode :=
  (.seq (.region true [⟨some 6, none, .ld true 1 (.s 1)⟩,
    ⟨some 7, none, .call 17 [(.s 6)]⟩,
    ⟨some 8, none, .ld true 1 (.s 1)⟩,
    ⟨some 9, none, .call 18 [(.s 8)]⟩,
    ⟨some 10, none, .call 16 [(.s 7), (.s 9)]⟩,
    ⟨some 11, none, .mv (.s 10)⟩,
    ⟨some 12, some (11, true), .call 12 []⟩,
    ⟨some 13, none, .pick (.s 11) (.s 12) (.c (.t (.bool false)))⟩,
    ⟨some 2, none, .mv (.s 13)⟩] [[], [0], [], [2, 1], [1, 3, 3], [4, 4], [5, 5], [5, 6], [7, 6, 0, 1, 2, 3, 4, 5, 6, 7]] [2]) .ret)
def c4_1 : ACode :=
  (.seq (.region false [⟨some 5, none, .call 12 []⟩,
    ⟨some 2, none, .mv (.s 5)⟩] [] [2]) .ret)
def c4_2 : ACode :=
  (.cond (.s 4) c4_1 .skip)
def c4_3 : ACode :=
  (.seq (.seq (.region false [⟨some 3, none, .ld true 1 (.s 1)⟩,
    ⟨some 4, none, .call 15 [(.s 3)]⟩] [] [1, 4]) c4_2) c4_0)
def c4 : ACode :=
  (.seq (.region false [⟨some 1, none, .box 1 (.s 0)⟩,
    ⟨some 2, none, .cst (.t (.bool false))⟩] [] [1]) c4_3)
def r4 : List ARes := [.tmp 2]
def n4 : Nat := 14
/- 5 supergraph supergraphlaw23.DirectivesUnknown -/
def n5 : Nat := 111
/- 6 supergraph supergraphlaw23.DirectivesPublic -/
def n6 : Nat := 89
/- 7 supergraph supergraphlaw23.DirectivesFind -/
def n7 : Nat := 60
/- 8 supergraph supergraphlaw25.MovesSound -/
def c8_0 : ACode :=
  (.seq (.region false [⟨some 94, none, .call 32 []⟩,
    ⟨some 2, none, .mv (.s 94)⟩] [] [2]) .ret)
def c8_1 : ACode :=
  (.region false [⟨some 53, none, .mv (.s 7)⟩,
    ⟨some 54, none, .bin .add (.s 53) (.c (.t (.int .i64 1)))⟩,
    ⟨some 7, none, .mv (.s 54)⟩] [] [4, 7])
def c8_2 : ACode :=
  (.seq (.region false [⟨some 2, none, .cst (.t (.bool false))⟩] [] [2]) .ret)
def c8_3 : ACode :=
  (.cond (.s 93) c8_2 .skip)
def c8_4 : ACode :=
  (.seq (.region false [⟨some 55, none, .mv (.s 4)⟩,
    ⟨some 56, none, .mv (.s 7)⟩,
    ⟨some 57, none, .ia 6 (.s 55) (.s 56)⟩,
    ⟨some 58, none, .fa 3 (.s 57)⟩,
    ⟨some 59, none, .ld false 1 (.s 58)⟩,
    ⟨some 60, none, .mv (.s 59)⟩,
    ⟨some 61, some (60, true), .mv (.s 4)⟩,
    ⟨some 62, some (60, true), .mv (.s 4)⟩,
    ⟨some 63, some (60, true), .mv (.s 7)⟩,
    ⟨some 64, some (60, true), .ia 6 (.s 62) (.s 63)⟩,
    ⟨some 65, some (60, true), .ld true 6 (.s 64)⟩,
    ⟨some 66, some (60, true), .call 35 [(.s 61), (.s 65)]⟩,
    ⟨some 67, some (60, true), .bin .eql (.s 66) (.c (.t (.int .i64 0)))⟩,
    ⟨some 68, none, .pick (.s 60) (.s 67) (.c (.t (.bool false)))⟩,
    ⟨some 69, none, .mv (.s 68)⟩,
    ⟨some 70, some (69, false), .mv (.s 4)⟩,
    ⟨some 71, some (69, false), .mv (.s 7)⟩,
    ⟨some 72, some (69, false), .ia 6 (.s 70) (.s 71)⟩,
    ⟨some 73, some (69, false), .fa 4 (.s 72)⟩,
    ⟨some 74, some (69, false), .ld false 1 (.s 73)⟩,
    ⟨some 75, some (69, false), .len (.s 74)⟩,
    ⟨some 76, some (69, false), .bin .gtr (.s 75) (.c (.t (.int .i64 0)))⟩,
    ⟨some 77, some (69, false), .mv (.s 76)⟩,
    ⟨some 78, some (77, true), .mv (.s 4)⟩,
    ⟨some 79, some (77, true), .mv (.s 7)⟩,
    ⟨some 80, some (77, true), .ia 6 (.s 78) (.s 79)⟩,
    ⟨some 81, some (77, true), .fa 3 (.s 80)⟩,
    ⟨some 82, some (77, true), .ld false 1 (.s 81)⟩,
    ⟨some 83, some (77, true), .mv (.s 82)⟩,
    ⟨some 84, some (83, false), .mv (.s 4)⟩,
    ⟨some 85, some (83, false), .mv (.s 4)⟩,
    ⟨some 86, some (83, false), .mv (.s 7)⟩,
    ⟨some 87, some (83, false), .ia 6 (.s 85) (.s 86)⟩,
    ⟨some 88, some (83, false), .ld true 6 (.s 87)⟩,
    ⟨some 89, some (83, false), .call 35 [(.s 84), (.s 88)]⟩,
    ⟨some 90, some (83, false), .bin .gtr (.s 89) (.c (.t (.int .i64 0)))⟩,
    ⟨some 91, some (77, true), .pick (.s 83) (.c (.t (.bool true))) (.s 90)⟩,
    ⟨some 92, some (69, false), .pick (.s 77) (.s 91) (.c (.t (.bool false)))⟩,
    ⟨some 93, none, .pick (.s 69) (.c (.t (.bool true))) (.s 92)⟩] [] [4, 7, 93]) c8_3)
def c8_5 : ACode :=
  (.seq (.block 3 c8_4) c8_1)
def c8_6 : ACode :=
  (.cond (.s 52) .skip (.exit 2))
def c8_7 : ACode :=
  (.seq (.seq (.region false [⟨some 49, none, .mv (.s 7)⟩,
    ⟨some 50, none, .mv (.s 4)⟩,
    ⟨some 51, none, .len (.s 50)⟩,
    ⟨some 52, none, .bin .lss (.s 49) (.s 51)⟩] [] [4, 7, 52]) c8_6) c8_5)
def c8_8 : ACode :=
  (.loop c8_7)
def c8_9 : ACode :=
  (.block 2 c8_8)
def c8_10 : ACode :=
  (.seq (.seq (.region false [⟨some 7, none, .cst (.t (.int .i64 0))⟩] [] [4, 7]) c8_9) c8_0)
def c8_11 : ACode :=
  (.region false [⟨some 40, none, .mv (.s 6)⟩,
    ⟨some 41, none, .bin .add (.s 40) (.c (.t (.int .i64 1)))⟩,
    ⟨some 6, none, .mv (.s 41)⟩] [] [0, 3, 4, 6])
def c8_12 : ACode :=
  (.seq (.region false [⟨some 2, none, .cst (.t (.bool false))⟩] [] [2]) .ret)
def c8_13 : ACode :=
  (.cond (.s 48) c8_12 .skip)
def c8_14 : ACode :=
  (.seq (.region false [⟨some 42, none, .mv (.s 0)⟩,
    ⟨some 43, none, .mv (.s 3)⟩,
    ⟨some 44, none, .mv (.s 6)⟩,
    ⟨some 45, none, .ia 3 (.s 43) (.s 44)⟩,
    ⟨some 46, none, .ld true 3 (.s 45)⟩,
    ⟨some 47, none, .call 34 [(.s 42), (.s 46)]⟩,
    ⟨some 48, none, .un .not (.s 47)⟩] [] [0, 3, 4, 6, 48]) c8_13)
def c8_15 : ACode :=
  (.seq (.block 1 c8_14) c8_11)
def c8_16 : ACode :=
  (.cond (.s 39) .skip (.exit 0))
def c8_17 : ACode :=
  (.seq (.seq (.region false [⟨some 36, none, .mv (.s 6)⟩,
    ⟨some 37, none, .mv (.s 3)⟩,
    ⟨some 38, none, .len (.s 37)⟩,
    ⟨some 39, none, .bin .lss (.s 36) (.s 38)⟩] [] [0, 3, 4, 6, 39]) c8_16) c8_15)
def c8_18 : ACode :=
  (.loop c8_17)
def c8_19 : ACode :=
  (.block 0 c8_18)
def c8_20 : ACode :=
  (.seq (.seq (.region false [⟨some 6, none, .cst (.t (.int .i64 0))⟩] [] [0, 3, 4, 6]) c8_19) c8_10)
def c8_21 : ACode :=
  (.seq (.region false [⟨some 25, none, .mv (.s 3)⟩,
    ⟨some 26, none, .len (.s 25)⟩,
    ⟨some 27, none, .bin .eql (.s 26) (.c (.t (.int .i64 0)))⟩,
    ⟨some 28, none, .mv (.s 27)⟩,
    ⟨some 29, some (28, true), .mv (.s 4)⟩,
    ⟨some 30, some (28, true), .len (.s 29)⟩,
    ⟨some 31, some (28, true), .bin .eql (.s 30) (.c (.t (.int .i64 0)))⟩,
    ⟨some 32, none, .pick (.s 28) (.s 31) (.c (.t (.bool false)))⟩,
    ⟨some 33, none, .mv (.s 32)⟩,
    ⟨some 34, some (33, true), .call 32 []⟩,
    ⟨some 35, none, .pick (.s 33) (.s 34) (.c (.t (.bool false)))⟩,
    ⟨some 2, none, .mv (.s 35)⟩] [] [2]) .ret)
def c8_22 : ACode :=
  (.cond (.s 24) c8_21 .skip)
def c8_23 : ACode :=
  (.seq (.seq (.region false [⟨some 22, none, .mv (.s 5)⟩,
    ⟨some 23, none, .len (.s 22)⟩,
    ⟨some 24, none, .bin .gtr (.s 23) (.c (.t (.int .i64 0)))⟩] [] [0, 3, 4, 24]) c8_22) c8_20)
def c8_24 : ACode :=
  (.seq (.region false [⟨some 17, none, .mv (.s 0)⟩,
    ⟨some 18, none, .call 33 [(.s 17)]⟩,
    ⟨some 16, none, .mv (.s 18)⟩,
    ⟨some 19, none, .ext (.s 16) 0⟩,
    ⟨some 20, none, .ext (.s 16) 1⟩,
    ⟨some 21, none, .ext (.s 16) 2⟩,
    ⟨some 3, none, .mv (.s 19)⟩,
    ⟨some 4, none, .mv (.s 20)⟩,
    ⟨some 5, none, .mv (.s 21)⟩] [] [0, 3, 4, 5]) c8_23)
def c8_25 : ACode :=
  (.seq (.region false [⟨some 15, none, .call 32 []⟩,
    ⟨some 2, none, .mv (.s 15)⟩] [] [2]) .ret)
def c8_26 : ACode :=
  (.cond (.s 14) c8_25 .skip)
def c8_27 : ACode :=
  (.seq (.seq (.region false [⟨some 8, none, .mv (.s 0)⟩,
    ⟨some 9, none, .call 30 [(.s 8)]⟩,
    ⟨some 10, none, .mv (.s 9)⟩,
    ⟨some 11, some (10, false), .mv (.s 0)⟩,
    ⟨some 12, some (10, false), .call 31 [(.s 11)]⟩,
    ⟨some 13, some (10, false), .un .not (.s 12)⟩,
    ⟨some 14, none, .pick (.s 10) (.c (.t (.bool true))) (.s 13)⟩] [] [0, 14]) c8_26) c8_24)
def c8 : ACode :=
  (.seq (.region false [⟨some 2, none, .cst (.t (.bool false))⟩] [] [0]) c8_27)
def r8 : List ARes := [.tmp 2]
def n8 : Nat := 95
/- 9 supergraph supergraphlaw25.MovesOrder -/
def n9 : Nat := 67
/- 10 supergraph supergraphlaw25.MovesAlone -/
def n10 : Nat := 136
/- 11 supergraph supergraphlaw25.MovesFinds -/
def n11 : Nat := 96
/- 12 supergraph supergraphlaw23.exampleHolds -/
def n12 : Nat := 38
/- 13 supergraph directives.Set -/
def c13_0 : ACode :=
  (.seq (.region false [⟨some 48, none, .mv (.s 4)⟩,
    ⟨some 2, none, .mv (.s 48)⟩,
    ⟨some 3, none, .cst (.t (.int .i64 0))⟩] [] [2, 3]) .ret)
def c13_1 : ACode :=
  (.region false [⟨some 47, none, .bin .add (.s 30) (.c (.t (.int .i64 1)))⟩,
    ⟨some 30, none, .mv (.s 47)⟩] [] [4, 29, 30])
def c13_2 : ACode :=
  (.region false [⟨some 46, none, .bin .add (.s 34) (.c (.t (.int .i64 1)))⟩,
    ⟨some 34, none, .mv (.s 46)⟩] [] [4, 7, 29, 30, 33, 34])
def c13_3 : ACode :=
  (.seq (.region false [⟨some 2, none, .cst (.nils)⟩,
    ⟨some 3, none, .cst (.t (.int .i64 7))⟩] [] [2, 3]) .ret)
def c13_4 : ACode :=
  (.cond (.s 45) c13_3 .skip)
def c13_5 : ACode :=
  (.seq (.region true [⟨some 37, none, .mv (.s 4)⟩,
    ⟨some 38, none, .mv (.s 7)⟩,
    ⟨some 39, none, .ia 1 (.s 37) (.s 38)⟩,
    ⟨some 40, none, .ld false 1 (.s 39)⟩,
    ⟨some 41, none, .mv (.s 4)⟩,
    ⟨some 42, none, .mv (.s 8)⟩,
    ⟨some 43, none, .ia 1 (.s 41) (.s 42)⟩,
    ⟨some 44, none, .ld false 1 (.s 43)⟩,
    ⟨some 45, none, .bin .eql (.s 40) (.s 44)⟩] [[], [], [0, 1], [2], [], [], [4, 5], [6], [3, 7]] [4, 7, 29, 30, 33, 34, 45]) c13_4)
def c13_6 : ACode :=
  (.seq (.region false [⟨some 36, none, .mv (.s 34)⟩,
    ⟨some 8, none, .mv (.s 36)⟩] [] [4, 7, 8, 29, 30, 33, 34]) c13_5)
def c13_7 : ACode :=
  (.seq (.block 5 c13_6) c13_2)
def c13_8 : ACode :=
  (.seq (.cond (.s 35) .skip (.exit 4)) c13_7)
def c13_9 : ACode :=
  (.seq (.region false [⟨some 35, none, .bin .lss (.s 34) (.s 33)⟩] [] [4, 7, 29, 30, 33, 34, 35]) c13_8)
def c13_10 : ACode :=
  (.loop c13_9)
def c13_11 : ACode :=
  (.block 4 c13_10)
def c13_12 : ACode :=
  (.seq (.region false [⟨some 33, none, .mv (.s 7)⟩,
    ⟨some 34, none, .cst (.t (.int .i64 0))⟩] [] [4, 7, 29, 30, 33, 34]) c13_11)
def c13_13 : ACode :=
  (.seq (.region false [⟨some 32, none, .mv (.s 30)⟩,
    ⟨some 7, none, .mv (.s 32)⟩] [] [4, 7, 29, 30]) c13_12)
def c13_14 : ACode :=
  (.seq (.block 3 c13_13) c13_1)
def c13_15 : ACode :=
  (.seq (.cond (.s 31) .skip (.exit 2)) c13_14)
def c13_16 : ACode :=
  (.seq (.region false [⟨some 31, none, .bin .lss (.s 30) (.s 29)⟩] [] [4, 29, 30, 31]) c13_15)
def c13_17 : ACode :=
  (.loop c13_16)
def c13_18 : ACode :=
  (.block 2 c13_17)
def c13_19 : ACode :=
  (.seq (.seq (.region false [⟨some 28, none, .mv (.s 4)⟩,
    ⟨some 29, none, .len (.s 28)⟩,
    ⟨some 30, none, .cst (.t (.int .i64 0))⟩] [] [4, 29, 30]) c13_18) c13_0)
def c13_20 : ACode :=
  (.seq (.region false [⟨some 2, none, .cst (.nils)⟩,
    ⟨some 3, none, .cst (.t (.int .i64 4))⟩] [] [2, 3]) .ret)
def c13_21 : ACode :=
  (.cond (.s 27) c13_20 .skip)
def c13_22 : ACode :=
  (.seq (.seq (.region false [⟨some 25, none, .mv (.s 4)⟩,
    ⟨some 26, none, .len (.s 25)⟩,
    ⟨some 27, none, .bin .gtr (.s 26) (.c (.t (.int .i64 4)))⟩] [] [4, 27]) c13_21) c13_19)
def c13_23 : ACode :=
  (.region false [⟨some 24, none, .bin .add (.s 13) (.c (.t (.int .i64 1)))⟩,
    ⟨some 13, none, .mv (.s 24)⟩] [] [4, 11, 12, 13])
def c13_24 : ACode :=
  (.seq (.region false [⟨some 2, none, .cst (.nils)⟩,
    ⟨some 3, none, .cst (.t (.int .i64 3))⟩] [] [2, 3]) .ret)
def c13_25 : ACode :=
  (.cond (.s 23) c13_24 .skip)
def c13_26 : ACode :=
  (.seq (.region false [⟨some 17, none, .mv (.s 6)⟩,
    ⟨some 18, none, .call 47 [(.s 17)]⟩,
    ⟨some 19, none, .un .not (.s 18)⟩,
    ⟨some 20, none, .mv (.s 19)⟩,
    ⟨some 21, some (20, false), .mv (.s 6)⟩,
    ⟨some 22, some (20, false), .call 48 [(.s 21)]⟩,
    ⟨some 23, none, .pick (.s 20) (.c (.t (.bool true))) (.s 22)⟩] [] [4, 11, 12, 13, 23]) c13_25)
def c13_27 : ACode :=
  (.seq (.region false [⟨some 15, none, .ia 1 (.s 11) (.s 13)⟩,
    ⟨some 16, none, .ld false 1 (.s 15)⟩,
    ⟨some 6, none, .mv (.s 16)⟩] [] [4, 6, 11, 12, 13]) c13_26)
def c13_28 : ACode :=
  (.seq (.block 1 c13_27) c13_23)
def c13_29 : ACode :=
  (.seq (.cond (.s 14) .skip (.exit 0)) c13_28)
def c13_30 : ACode :=
  (.seq (.region false [⟨some 14, none, .bin .lss (.s 13) (.s 12)⟩] [] [4, 11, 12, 13, 14]) c13_29)
def c13_31 : ACode :=
  (.loop c13_30)
def c13_32 : ACode :=
  (.block 0 c13_31)
def c13_33 : ACode :=
  (.seq (.seq (.region false [⟨some 11, none, .mv (.s 4)⟩,
    ⟨some 12, none, .len (.s 11)⟩,
    ⟨some 13, none, .cst (.t (.int .i64 0))⟩] [] [4, 11, 12, 13]) c13_32) c13_22)
def c13_34 : ACode :=
  (.seq (.region false [⟨some 9, none, .mv (.s 0)⟩,
    ⟨some 10, none, .call 46 [(.s 9), (.c (.t (.str [32])))]⟩,
    ⟨some 4, none, .mv (.s 10)⟩] [] [4]) c13_33)
def c13 : ACode :=
  (.seq (.region false [⟨some 2, none, .cst (.nils)⟩,
    ⟨some 3, none, .cst (.t (.int .i64 0))⟩] [] [0]) c13_34)
def r13 : List ARes := [.tmp 2, .tmp 3]
def n13 : Nat := 49
/- 14 supergraph supergraphref23.Set -/
def c14_0 : ACode :=
  (.seq (.region false [⟨some 52, none, .mv (.s 4)⟩,
    ⟨some 2, none, .mv (.s 52)⟩,
    ⟨some 3, none, .cst (.t (.int .i64 0))⟩] [] [2, 3]) .ret)
def c14_1 : ACode :=
  (.region false [⟨some 36, none, .mv (.s 6)⟩,
    ⟨some 37, none, .bin .add (.s 36) (.c (.t (.int .i64 1)))⟩,
    ⟨some 6, none, .mv (.s 37)⟩] [] [4, 6])
def c14_2 : ACode :=
  (.region false [⟨some 41, none, .mv (.s 7)⟩,
    ⟨some 42, none, .bin .add (.s 41) (.c (.t (.int .i64 1)))⟩,
    ⟨some 7, none, .mv (.s 42)⟩] [] [4, 6, 7])
def c14_3 : ACode :=
  (.seq (.region false [⟨some 2, none, .cst (.nils)⟩,
    ⟨some 3, none, .cst (.t (.int .i64 7))⟩] [] [2, 3]) .ret)
def c14_4 : ACode :=
  (.cond (.s 51) c14_3 .skip)
def c14_5 : ACode :=
  (.seq (.region true [⟨some 43, none, .mv (.s 4)⟩,
    ⟨some 44, none, .mv (.s 6)⟩,
    ⟨some 45, none, .ia 1 (.s 43) (.s 44)⟩,
    ⟨some 46, none, .ld false 1 (.s 45)⟩,
    ⟨some 47, none, .mv (.s 4)⟩,
    ⟨some 48, none, .mv (.s 7)⟩,
    ⟨some 49, none, .ia 1 (.s 47) (.s 48)⟩,
    ⟨some 50, none, .ld false 1 (.s 49)⟩,
    ⟨some 51, none, .bin .eql (.s 46) (.s 50)⟩] [[], [], [0, 1], [2], [], [], [4, 5], [6], [3, 7]] [4, 6, 7, 51]) c14_4)
def c14_6 : ACode :=
  (.seq (.block 5 c14_5) c14_2)
def c14_7 : ACode :=
  (.cond (.s 40) .skip (.exit 4))
def c14_8 : ACode :=
  (.seq (.seq (.region false [⟨some 38, none, .mv (.s 7)⟩,
    ⟨some 39, none, .mv (.s 6)⟩,
    ⟨some 40, none, .bin .lss (.s 38) (.s 39)⟩] [] [4, 6, 7, 40]) c14_7) c14_6)
def c14_9 : ACode :=
  (.loop c14_8)
def c14_10 : ACode :=
  (.block 4 c14_9)
def c14_11 : ACode :=
  (.seq (.region false [⟨some 7, none, .cst (.t (.int .i64 0))⟩] [] [4, 6, 7]) c14_10)
def c14_12 : ACode :=
  (.seq (.block 3 c14_11) c14_1)
def c14_13 : ACode :=
  (.cond (.s 35) .skip (.exit 2))
def c14_14 : ACode :=
  (.seq (.seq (.region false [⟨some 32, none, .mv (.s 6)⟩,
    ⟨some 33, none, .mv (.s 4)⟩,
    ⟨some 34, none, .len (.s 33)⟩,
    ⟨some 35, none, .bin .lss (.s 32) (.s 34)⟩] [] [4, 6, 35]) c14_13) c14_12)
def c14_15 : ACode :=
  (.loop c14_14)
def c14_16 : ACode :=
  (.block 2 c14_15)
def c14_17 : ACode :=
  (.seq (.seq (.region false [⟨some 6, none, .cst (.t (.int .i64 0))⟩] [] [4, 6]) c14_16) c14_0)
def c14_18 : ACode :=
  (.seq (.region false [⟨some 2, none, .cst (.nils)⟩,
    ⟨some 3, none, .cst (.t (.int .i64 4))⟩] [] [2, 3]) .ret)
def c14_19 : ACode :=
  (.cond (.s 31) c14_18 .skip)
def c14_20 : ACode :=
  (.seq (.seq (.region false [⟨some 29, none, .mv (.s 4)⟩,
    ⟨some 30, none, .len (.s 29)⟩,
    ⟨some 31, none, .bin .gtr (.s 30) (.c (.t (.int .i64 4)))⟩] [] [4, 31]) c14_19) c14_17)
def c14_21 : ACode :=
  (.region false [⟨some 14, none, .mv (.s 5)⟩,
    ⟨some 15, none, .bin .add (.s 14) (.c (.t (.int .i64 1)))⟩,
    ⟨some 5, none, .mv (.s 15)⟩] [] [4, 5])
def c14_22 : ACode :=
  (.seq (.region false [⟨some 2, none, .cst (.nils)⟩,
    ⟨some 3, none, .cst (.t (.int .i64 3))⟩] [] [2, 3]) .ret)
def c14_23 : ACode :=
  (.cond (.s 28) c14_22 .skip)
def c14_24 : ACode :=
  (.seq (.region false [⟨some 16, none, .mv (.s 4)⟩,
    ⟨some 17, none, .mv (.s 5)⟩,
    ⟨some 18, none, .ia 1 (.s 16) (.s 17)⟩,
    ⟨some 19, none, .ld false 1 (.s 18)⟩,
    ⟨some 20, none, .call 50 [(.s 19)]⟩,
    ⟨some 21, none, .un .not (.s 20)⟩,
    ⟨some 22, none, .mv (.s 21)⟩,
    ⟨some 23, some (22, false), .mv (.s 4)⟩,
    ⟨some 24, some (22, false), .mv (.s 5)⟩,
    ⟨some 25, some (22, false), .ia 1 (.s 23) (.s 24)⟩,
    ⟨some 26, some (22, false), .ld false 1 (.s 25)⟩,
    ⟨some 27, some (22, false), .call 51 [(.s 26)]⟩,
    ⟨some 28, none, .pick (.s 22) (.c (.t (.bool true))) (.s 27)⟩] [] [4, 5, 28]) c14_23)
def c14_25 : ACode :=
  (.seq (.block 1 c14_24) c14_21)
def c14_26 : ACode :=
  (.cond (.s 13) .skip (.exit 0))
def c14_27 : ACode :=
  (.seq (.seq (.region false [⟨some 10, none, .mv (.s 5)⟩,
    ⟨some 11, none, .mv (.s 4)⟩,
    ⟨some 12, none, .len (.s 11)⟩,
    ⟨some 13, none, .bin .lss (.s 10) (.s 12)⟩] [] [4, 5, 13]) c14_26) c14_25)
def c14_28 : ACode :=
  (.loop c14_27)
def c14_29 : ACode :=
  (.block 0 c14_28)
def c14_30 : ACode :=
  (.seq (.seq (.region false [⟨some 5, none, .cst (.t (.int .i64 0))⟩] [] [4, 5]) c14_29) c14_20)
def c14_31 : ACode :=
  (.seq (.region false [⟨some 8, none, .mv (.s 0)⟩,
    ⟨some 9, none, .call 49 [(.s 8)]⟩,
    ⟨some 4, none, .mv (.s 9)⟩] [] [4]) c14_30)
def c14 : ACode :=
  (.seq (.region false [⟨some 2, none, .cst (.nils)⟩,
    ⟨some 3, none, .cst (.t (.int .i64 0))⟩] [] [0]) c14_31)
def r14 : List ARes := [.tmp 2, .tmp 3]
def n14 : Nat := 53
/- 15 supergraph supergraphref10.Large -/
/- 16 supergraph supergraphref10.Faults -/
/- 17 supergraph directives.Check -/
/- 18 supergraph supergraphref23.Check -/
def c18_0 : ACode :=
  (.seq (.region false [⟨some 80, none, .mv (.s 3)⟩,
    ⟨some 2, none, .mv (.s 80)⟩] [] [2]) .ret)
def c18_1 : ACode :=
  (.region false [⟨some 13, none, .mv (.s 4)⟩,
    ⟨some 14, none, .bin .add (.s 13) (.c (.t (.int .i64 1)))⟩,
    ⟨some 4, none, .mv (.s 14)⟩] [] [1, 3, 4])
def c18_2 : ACode :=
  (.region false [⟨some 36, none, .mv (.s 3)⟩,
    ⟨some 37, none, .ld true 7 (.s 5)⟩,
    ⟨some 38, none, .call 54 [(.s 37)]⟩,
    ⟨some 39, none, .app 2 24 (.s 36) (.s 38)⟩,
    ⟨some 3, none, .mv (.s 39)⟩] [] [1, 3, 4])
def c18_3 : ACode :=
  (.region false [⟨some 42, none, .mv (.s 3)⟩,
    ⟨some 43, none, .ld true 7 (.s 5)⟩,
    ⟨some 44, none, .call 55 [(.s 43), (.c (.t (.int .i64 6)))]⟩,
    ⟨some 45, none, .app 2 24 (.s 42) (.s 44)⟩,
    ⟨some 3, none, .mv (.s 45)⟩] [] [1, 3, 4])
def c18_4 : ACode :=
  (.region false [⟨some 48, none, .mv (.s 3)⟩,
    ⟨some 49, none, .ld true 7 (.s 5)⟩,
    ⟨some 50, none, .call 55 [(.s 49), (.c (.t (.int .i64 5)))]⟩,
    ⟨some 51, none, .app 2 24 (.s 48) (.s 50)⟩,
    ⟨some 3, none, .mv (.s 51)⟩] [] [1, 3, 4])
def c18_5 : ACode :=
  (.region false [⟨some 59, none, .mv (.s 7)⟩,
    ⟨some 60, none, .bin .add (.s 59) (.c (.t (.int .i64 1)))⟩,
    ⟨some 7, none, .mv (.s 60)⟩] [] [1, 3, 4, 5, 7])
def c18_6 : ACode :=
  (.region true [⟨some 61, none, .mv (.s 3)⟩,
    ⟨some 62, none, .fa 6 (.s 5)⟩,
    ⟨some 63, none, .ld false 1 (.s 62)⟩,
    ⟨some 64, none, .mv (.s 7)⟩,
    ⟨some 65, none, .ia 10 (.s 63) (.s 64)⟩,
    ⟨some 66, none, .fa 9 (.s 65)⟩,
    ⟨some 67, none, .ld false 1 (.s 66)⟩,
    ⟨some 68, none, .fa 1 (.s 5)⟩,
    ⟨some 69, none, .ld false 1 (.s 68)⟩,
    ⟨some 70, none, .bin .add (.s 69) (.c (.t (.str [46])))⟩,
    ⟨some 71, none, .fa 6 (.s 5)⟩,
    ⟨some 72, none, .ld false 1 (.s 71)⟩,
    ⟨some 73, none, .mv (.s 7)⟩,
    ⟨some 74, none, .ia 10 (.s 72) (.s 73)⟩,
    ⟨some 75, none, .fa 0 (.s 74)⟩,
    ⟨some 76, none, .ld false 1 (.s 75)⟩,
    ⟨some 77, none, .bin .add (.s 70) (.s 76)⟩,
    ⟨some 78, none, .call 53 [(.s 67), (.c (.t (.int .i64 6))), (.s 77)]⟩,
    ⟨some 79, none, .app 2 24 (.s 61) (.s 78)⟩,
    ⟨some 3, none, .mv (.s 79)⟩] [[], [], [1], [], [2, 3], [4], [5], [], [7], [8], [], [10], [], [11, 12], [13], [14], [9, 15], [6, 16], [0, 17, 17], [18, 18, 0, 1, 2, 3, 4, 5, 6, 7, 8, 9, 10, 11, 12, 13, 14, 15, 16, 17, 18]] [1, 3, 4, 5, 7])
def c18_7 : ACode :=
  (.seq (.block 4 c18_6) c18_5)
def c18_8 : ACode :=
  (.cond (.s 58) .skip (.exit 3))
def c18_9 : ACode :=
  (.seq (.seq (.region false [⟨some 54, none, .mv (.s 7)⟩,
    ⟨some 55, none, .fa 6 (.s 5)⟩,
    ⟨some 56, none, .ld false 1 (.s 55)⟩,
    ⟨some 57, none, .len (.s 56)⟩,
    ⟨some 58, none, .bin .lss (.s 54) (.s 57)⟩] [] [1, 3, 4, 5, 7, 58]) c18_8) c18_7)
def c18_10 : ACode :=
  (.loop c18_9)
def c18_11 : ACode :=
  (.block 3 c18_10)
def c18_12 : ACode :=
  (.seq (.region false [⟨some 7, none, .cst (.t (.int .i64 0))⟩] [] [1, 3, 4, 5, 7]) c18_11)
def c18_13 : ACode :=
  (.cond (.s 52) c18_12 .skip)
def c18_14 : ACode :=
  (.seq (.region false [⟨some 53, none, .bin .eql (.s 32) (.c (.t (.int .i64 5)))⟩,
    ⟨some 52, none, .mv (.s 53)⟩] [] [1, 3, 4, 5, 52]) c18_13)
def c18_15 : ACode :=
  (.cond (.s 46) c18_4 c18_14)
def c18_16 : ACode :=
  (.seq (.region false [⟨some 47, none, .bin .eql (.s 32) (.c (.t (.int .i64 4)))⟩,
    ⟨some 46, none, .mv (.s 47)⟩] [] [1, 3, 4, 5, 32, 46]) c18_15)
def c18_17 : ACode :=
  (.cond (.s 40) c18_3 c18_16)
def c18_18 : ACode :=
  (.seq (.region false [⟨some 41, none, .bin .eql (.s 32) (.c (.t (.int .i64 3)))⟩,
    ⟨some 40, none, .mv (.s 41)⟩] [] [1, 3, 4, 5, 32, 40]) c18_17)
def c18_19 : ACode :=
  (.cond (.s 33) c18_2 c18_18)
def c18_20 : ACode :=
  (.region false [⟨some 35, none, .bin .eql (.s 32) (.c (.t (.int .i64 2)))⟩,
    ⟨some 33, none, .mv (.s 35)⟩] [] [1, 3, 4, 5, 32, 33])
def c18_21 : ACode :=
  (.cond (.s 33) .skip c18_20)
def c18_22 : ACode :=
  (.seq (.seq (.region false [⟨some 34, none, .bin .eql (.s 32) (.c (.t (.int .i64 1)))⟩,
    ⟨some 33, none, .mv (.s 34)⟩] [] [1, 3, 4, 5, 32, 33]) c18_21) c18_19)
def c18_23 : ACode :=
  (.block 2 c18_22)
def c18_24 : ACode :=
  (.seq (.region false [⟨some 31, none, .fa 0 (.s 5)⟩,
    ⟨some 32, none, .ld false 1 (.s 31)⟩] [] [1, 3, 4, 5, 32]) c18_23)
def c18_25 : ACode :=
  (.seq (.region false [⟨some 23, none, .mv (.s 3)⟩,
    ⟨some 24, none, .fa 3 (.s 5)⟩,
    ⟨some 25, none, .ld false 1 (.s 24)⟩,
    ⟨some 26, none, .mv (.s 6)⟩,
    ⟨some 27, none, .fa 1 (.s 5)⟩,
    ⟨some 28, none, .ld false 1 (.s 27)⟩,
    ⟨some 29, none, .call 53 [(.s 25), (.s 26), (.s 28)]⟩,
    ⟨some 30, none, .app 2 24 (.s 23) (.s 29)⟩,
    ⟨some 3, none, .mv (.s 30)⟩] [] [1, 3, 4, 5]) c18_24)
def c18_26 : ACode :=
  (.region false [⟨some 6, none, .cst (.t (.int .i64 1))⟩] [] [1, 3, 4, 5, 6])
def c18_27 : ACode :=
  (.cond (.s 22) c18_26 .skip)
def c18_28 : ACode :=
  (.seq (.seq (.region false [⟨some 20, none, .fa 0 (.s 5)⟩,
    ⟨some 21, none, .ld false 1 (.s 20)⟩,
    ⟨some 22, none, .bin .eql (.s 21) (.c (.t (.int .i64 1)))⟩] [] [1, 3, 4, 5, 6, 22]) c18_27) c18_25)
def c18_29 : ACode :=
  (.seq (.region false [⟨some 6, none, .cst (.t (.int .i64 2))⟩] [] [1, 3, 4, 5, 6]) c18_28)
def c18_30 : ACode :=
  (.seq (.region false [⟨some 15, none, .fa 0 (.s 1)⟩,
    ⟨some 16, none, .ld false 1 (.s 15)⟩,
    ⟨some 17, none, .mv (.s 4)⟩,
    ⟨some 18, none, .ia 7 (.s 16) (.s 17)⟩,
    ⟨some 19, none, .ld true 7 (.s 18)⟩,
    ⟨some 5, none, .alloc [.t (.int .i64 0), .t (.str []), .nils, .nils, .nils, .nils, .nils]⟩,
    ⟨none, none, .st 7 (.s 5) (.s 19)⟩] [] [1, 3, 4, 5]) c18_29)
def c18_31 : ACode :=
  (.seq (.block 1 c18_30) c18_1)
def c18_32 : ACode :=
  (.cond (.s 12) .skip (.exit 0))
def c18_33 : ACode :=
  (.seq (.seq (.region false [⟨some 8, none, .mv (.s 4)⟩,
    ⟨some 9, none, .fa 0 (.s 1)⟩,
    ⟨some 10, none, .ld false 1 (.s 9)⟩,
    ⟨some 11, none, .len (.s 10)⟩,
    ⟨some 12, none, .bin .lss (.s 8) (.s 11)⟩] [] [1, 3, 4, 12]) c18_32) c18_31)
def c18_34 : ACode :=
  (.loop c18_33)
def c18_35 : ACode :=
  (.block 0 c18_34)
def c18_36 : ACode :=
  (.seq (.seq (.region false [⟨some 4, none, .cst (.t (.int .i64 0))⟩] [] [1, 3, 4]) c18_35) c18_0)
def c18_37 : ACode :=
  (.seq (.region false [⟨some 3, none, .cst (.nils)⟩] [] [1, 3]) c18_36)
def c18 : ACode :=
  (.seq (.region false [⟨some 1, none, .box 1 (.s 0)⟩,
    ⟨some 2, none, .cst (.nils)⟩] [] [1]) c18_37)
def r18 : List ARes := [.tmp 2]
def n18 : Nat := 81
/- 19 supergraph supergraphref23.Has -/
def c19_0 : ACode :=
  (.seq (.region false [⟨some 4, none, .cst (.t (.bool false))⟩] [] [4]) .ret)
def c19_1 : ACode :=
  (.region false [⟨some 10, none, .mv (.s 5)⟩,
    ⟨some 11, none, .bin .add (.s 10) (.c (.t (.int .i64 1)))⟩,
    ⟨some 5, none, .mv (.s 11)⟩] [] [0, 1, 5])
def c19_2 : ACode :=
  (.seq (.region false [⟨some 4, none, .cst (.t (.bool true))⟩] [] [4]) .ret)
def c19_3 : ACode :=
  (.cond (.s 18) c19_2 .skip)
def c19_4 : ACode :=
  (.seq (.region false [⟨some 12, none, .mv (.s 0)⟩,
    ⟨some 13, none, .mv (.s 5)⟩,
    ⟨some 14, none, .ia 2 (.s 12) (.s 13)⟩,
    ⟨some 15, none, .fa 0 (.s 14)⟩,
    ⟨some 16, none, .ld false 1 (.s 15)⟩,
    ⟨some 17, none, .mv (.s 1)⟩,
    ⟨some 18, none, .bin .eql (.s 16) (.s 17)⟩] [] [0, 1, 5, 18]) c19_3)
def c19_5 : ACode :=
  (.seq (.block 1 c19_4) c19_1)
def c19_6 : ACode :=
  (.cond (.s 9) .skip (.exit 0))
def c19_7 : ACode :=
  (.seq (.seq (.region false [⟨some 6, none, .mv (.s 5)⟩,
    ⟨some 7, none, .mv (.s 0)⟩,
    ⟨some 8, none, .len (.s 7)⟩,
    ⟨some 9, none, .bin .lss (.s 6) (.s 8)⟩] [] [0, 1, 5, 9]) c19_6) c19_5)
def c19_8 : ACode :=
  (.loop c19_7)
def c19_9 : ACode :=
  (.block 0 c19_8)
def c19_10 : ACode :=
  (.seq (.seq (.region false [⟨some 5, none, .cst (.t (.int .i64 0))⟩] [] [0, 1, 5]) c19_9) c19_0)
def c19 : ACode :=
  (.seq (.region false [⟨some 4, none, .cst (.t (.bool false))⟩] [] [0, 1]) c19_10)
def r19 : List ARes := [.tmp 4]
def n19 : Nat := 19
/- 20 supergraph directives.Public -/
/- 21 supergraph supergraphref23.Public -/
/- 22 supergraph supergraphlaw23.bare -/
/- 23 supergraph directives.Arg -/
def c23_0 : ACode :=
  (.seq (.region false [⟨some 26, none, .build [.t (.int .i64 0), .t (.int .i64 0), .t (.str []), .nils, .nils] []⟩,
    ⟨none, none, .st 5 (.s 6) (.s 26)⟩,
    ⟨some 7, none, .cst (.t (.bool false))⟩] [] [6, 7]) .ret)
def c23_1 : ACode :=
  (.region false [⟨some 25, none, .bin .add (.s 12) (.c (.t (.int .i64 1)))⟩,
    ⟨some 12, none, .mv (.s 25)⟩] [] [1, 2, 6, 10, 11, 12])
def c23_2 : ACode :=
  (.seq (.region false [⟨some 20, none, .ld true 2 (.s 9)⟩,
    ⟨some 21, none, .mv (.s 2)⟩,
    ⟨some 22, none, .call 56 [(.s 20), (.s 21)]⟩,
    ⟨some 23, none, .ext (.s 22) 0⟩,
    ⟨some 24, none, .ext (.s 22) 1⟩,
    ⟨none, none, .st 5 (.s 6) (.s 23)⟩,
    ⟨some 7, none, .mv (.s 24)⟩] [] [6, 7]) .ret)
def c23_3 : ACode :=
  (.cond (.s 19) c23_2 .skip)
def c23_4 : ACode :=
  (.seq (.region false [⟨some 16, none, .fa 0 (.s 9)⟩,
    ⟨some 17, none, .ld false 1 (.s 16)⟩,
    ⟨some 18, none, .mv (.s 1)⟩,
    ⟨some 19, none, .bin .eql (.s 17) (.s 18)⟩] [] [1, 2, 6, 9, 10, 11, 12, 19]) c23_3)
def c23_5 : ACode :=
  (.seq (.region false [⟨some 14, none, .ia 2 (.s 10) (.s 12)⟩,
    ⟨some 15, none, .ld true 2 (.s 14)⟩,
    ⟨some 9, none, .alloc [.t (.str []), .nils]⟩,
    ⟨none, none, .st 2 (.s 9) (.s 15)⟩] [] [1, 2, 6, 9, 10, 11, 12]) c23_4)
def c23_6 : ACode :=
  (.seq (.block 1 c23_5) c23_1)
def c23_7 : ACode :=
  (.seq (.cond (.s 13) .skip (.exit 0)) c23_6)
def c23_8 : ACode :=
  (.seq (.region false [⟨some 13, none, .bin .lss (.s 12) (.s 11)⟩] [] [1, 2, 6, 10, 11, 12, 13]) c23_7)
def c23_9 : ACode :=
  (.loop c23_8)
def c23_10 : ACode :=
  (.block 0 c23_9)
def c23_11 : ACode :=
  (.seq (.seq (.region false [⟨some 10, none, .mv (.s 0)⟩,
    ⟨some 11, none, .len (.s 10)⟩,
    ⟨some 12, none, .cst (.t (.int .i64 0))⟩] [] [1, 2, 6, 10, 11, 12]) c23_10) c23_0)
def c23 : ACode :=
  (.seq (.region false [⟨some 6, none, .alloc [.t (.int .i64 0), .t (.int .i64 0), .t (.str []), .nils, .nils]⟩,
    ⟨some 7, none, .cst (.t (.bool false))⟩] [] [0, 1, 2, 6]) c23_11)
def r23 : List ARes := [.cell 6 true 5, .tmp 7]
def n23 : Nat := 27
/- 24 supergraph supergraphref23.Arg -/
/- 25 supergraph directives.Has -/
def c25_0 : ACode :=
  (.seq (.region false [⟨some 4, none, .cst (.t (.bool false))⟩] [] [4]) .ret)
def c25_1 : ACode :=
  (.region false [⟨some 17, none, .bin .add (.s 9) (.c (.t (.int .i64 1)))⟩,
    ⟨some 9, none, .mv (.s 17)⟩] [] [1, 7, 8, 9])
def c25_2 : ACode :=
  (.seq (.region false [⟨some 4, none, .cst (.t (.bool true))⟩] [] [4]) .ret)
def c25_3 : ACode :=
  (.cond (.s 16) c25_2 .skip)
def c25_4 : ACode :=
  (.seq (.region false [⟨some 13, none, .fa 0 (.s 6)⟩,
    ⟨some 14, none, .ld false 1 (.s 13)⟩,
    ⟨some 15, none, .mv (.s 1)⟩,
    ⟨some 16, none, .bin .eql (.s 14) (.s 15)⟩] [] [1, 7, 8, 9, 16]) c25_3)
def c25_5 : ACode :=
  (.seq (.region false [⟨some 11, none, .ia 2 (.s 7) (.s 9)⟩,
    ⟨some 12, none, .ld true 2 (.s 11)⟩,
    ⟨some 6, none, .alloc [.t (.str []), .nils]⟩,
    ⟨none, none, .st 2 (.s 6) (.s 12)⟩] [] [1, 6, 7, 8, 9]) c25_4)
def c25_6 : ACode :=
  (.seq (.block 1 c25_5) c25_1)
def c25_7 : ACode :=
  (.seq (.cond (.s 10) .skip (.exit 0)) c25_6)
def c25_8 : ACode :=
  (.seq (.region false [⟨some 10, none, .bin .lss (.s 9) (.s 8)⟩] [] [1, 7, 8, 9, 10]) c25_7)
def c25_9 : ACode :=
  (.loop c25_8)
def c25_10 : ACode :=
  (.block 0 c25_9)
def c25_11 : ACode :=
  (.seq (.seq (.region false [⟨some 7, none, .mv (.s 0)⟩,
    ⟨some 8, none, .len (.s 7)⟩,
    ⟨some 9, none, .cst (.t (.int .i64 0))⟩] [] [1, 7, 8, 9]) c25_10) c25_0)
def c25 : ACode :=
  (.seq (.region false [⟨some 4, none, .cst (.t (.bool false))⟩] [] [0, 1]) c25_11)
def r25 : List ARes := [.tmp 4]
def n25 : Nat := 18
/- 26 supergraph supergraphlaw23.same -/
/- 27 supergraph supergraphlaw23.values -/
/- 28 supergraph directives.All -/
/- 29 supergraph supergraphref23.All -/
/- 30 supergraph supergraphlaw25.large -/
def c30_0 : ACode :=
  (.seq (.region false [⟨some 2, none, .cst (.t (.bool false))⟩] [] [2]) .ret)
def c30_1 : ACode :=
  (.region false [⟨some 11, none, .mv (.s 3)⟩,
    ⟨some 12, none, .bin .add (.s 11) (.c (.t (.int .i64 1)))⟩,
    ⟨some 3, none, .mv (.s 12)⟩] [] [0, 3])
def c30_2 : ACode :=
  (.seq (.region false [⟨some 2, none, .cst (.t (.bool true))⟩] [] [2]) .ret)
def c30_3 : ACode :=
  (.cond (.s 19) c30_2 .skip)
def c30_4 : ACode :=
  (.seq (.region false [⟨some 13, none, .mv (.s 0)⟩,
    ⟨some 14, none, .mv (.s 3)⟩,
    ⟨some 15, none, .ia 2 (.s 13) (.s 14)⟩,
    ⟨some 16, none, .fa 1 (.s 15)⟩,
    ⟨some 17, none, .ld true 1 (.s 16)⟩,
    ⟨some 18, none, .call 58 [(.s 17), (.c (.t (.int .i64 400)))]⟩,
    ⟨some 19, none, .bin .gtr (.s 18) (.c (.t (.int .i64 400)))⟩] [] [0, 3, 19]) c30_3)
def c30_5 : ACode :=
  (.seq (.block 1 c30_4) c30_1)
def c30_6 : ACode :=
  (.cond (.s 10) .skip (.exit 0))
def c30_7 : ACode :=
  (.seq (.seq (.region false [⟨some 7, none, .mv (.s 3)⟩,
    ⟨some 8, none, .mv (.s 0)⟩,
    ⟨some 9, none, .len (.s 8)⟩,
    ⟨some 10, none, .bin .lss (.s 7) (.s 9)⟩] [] [0, 3, 10]) c30_6) c30_5)
def c30_8 : ACode :=
  (.loop c30_7)
def c30_9 : ACode :=
  (.block 0 c30_8)
def c30_10 : ACode :=
  (.seq (.seq (.region false [⟨some 3, none, .cst (.t (.int .i64 0))⟩] [] [0, 3]) c30_9) c30_0)
def c30_11 : ACode :=
  (.seq (.region false [⟨some 2, none, .cst (.t (.bool true))⟩] [] [2]) .ret)
def c30_12 : ACode :=
  (.cond (.s 6) c30_11 .skip)
def c30_13 : ACode :=
  (.seq (.seq (.region false [⟨some 4, none, .mv (.s 0)⟩,
    ⟨some 5, none, .len (.s 4)⟩,
    ⟨some 6, none, .bin .gtr (.s 5) (.c (.t (.int .i64 8)))⟩] [] [0, 6]) c30_12) c30_10)
def c30 : ACode :=
  (.seq (.region false [⟨some 2, none, .cst (.t (.bool false))⟩] [] [0]) c30_13)
def r30 : List ARes := [.tmp 2]
def n30 : Nat := 20
/- 31 supergraph supergraphref25.Right -/
def c31_0 : ACode :=
  (.seq (.region false [⟨some 2, none, .cst (.t (.bool true))⟩] [] [2]) .ret)
def c31_1 : ACode :=
  (.region false [⟨some 16, none, .mv (.s 3)⟩,
    ⟨some 17, none, .bin .add (.s 16) (.c (.t (.int .i64 1)))⟩,
    ⟨some 3, none, .mv (.s 17)⟩] [] [0, 3])
def c31_2 : ACode :=
  (.seq (.region false [⟨some 2, none, .cst (.t (.bool false))⟩] [] [2]) .ret)
def c31_3 : ACode :=
  (.cond (.s 35) c31_2 .skip)
def c31_4 : ACode :=
  (.seq (.region false [⟨some 18, none, .mv (.s 0)⟩,
    ⟨some 19, none, .mv (.s 3)⟩,
    ⟨some 20, none, .ia 2 (.s 18) (.s 19)⟩,
    ⟨some 21, none, .fa 1 (.s 20)⟩,
    ⟨some 22, none, .ld true 1 (.s 21)⟩,
    ⟨some 23, none, .call 59 [(.s 22), (.c (.t (.bool false)))]⟩,
    ⟨some 24, none, .len (.s 23)⟩,
    ⟨some 25, none, .bin .gtr (.s 24) (.c (.t (.int .i64 0)))⟩,
    ⟨some 26, none, .mv (.s 25)⟩,
    ⟨some 27, some (26, false), .mv (.s 0)⟩,
    ⟨some 28, some (26, false), .mv (.s 3)⟩,
    ⟨some 29, some (26, false), .ia 2 (.s 27) (.s 28)⟩,
    ⟨some 30, some (26, false), .fa 1 (.s 29)⟩,
    ⟨some 31, some (26, false), .ld true 1 (.s 30)⟩,
    ⟨some 32, some (26, false), .call 18 [(.s 31)]⟩,
    ⟨some 33, some (26, false), .len (.s 32)⟩,
    ⟨some 34, some (26, false), .bin .gtr (.s 33) (.c (.t (.int .i64 0)))⟩,
    ⟨some 35, none, .pick (.s 26) (.c (.t (.bool true))) (.s 34)⟩] [] [0, 3, 35]) c31_3)
def c31_5 : ACode :=
  (.seq (.block 1 c31_4) c31_1)
def c31_6 : ACode :=
  (.cond (.s 15) .skip (.exit 0))
def c31_7 : ACode :=
  (.seq (.seq (.region false [⟨some 12, none, .mv (.s 3)⟩,
    ⟨some 13, none, .mv (.s 0)⟩,
    ⟨some 14, none, .len (.s 13)⟩,
    ⟨some 15, none, .bin .lss (.s 12) (.s 14)⟩] [] [0, 3, 15]) c31_6) c31_5)
def c31_8 : ACode :=
  (.loop c31_7)
def c31_9 : ACode :=
  (.block 0 c31_8)
def c31_10 : ACode :=
  (.seq (.seq (.region false [⟨some 3, none, .cst (.t (.int .i64 0))⟩] [] [0, 3]) c31_9) c31_0)
def c31_11 : ACode :=
  (.seq (.region false [⟨some 2, none, .cst (.t (.bool false))⟩] [] [2]) .ret)
def c31_12 : ACode :=
  (.cond (.s 11) c31_11 .skip)
def c31_13 : ACode :=
  (.seq (.seq (.region false [⟨some 4, none, .mv (.s 0)⟩,
    ⟨some 5, none, .len (.s 4)⟩,
    ⟨some 6, none, .bin .eql (.s 5) (.c (.t (.int .i64 0)))⟩,
    ⟨some 7, none, .mv (.s 6)⟩,
    ⟨some 8, some (7, false), .mv (.s 0)⟩,
    ⟨some 9, some (7, false), .len (.s 8)⟩,
    ⟨some 10, some (7, false), .bin .gtr (.s 9) (.c (.t (.int .i64 8)))⟩,
    ⟨some 11, none, .pick (.s 7) (.c (.t (.bool true))) (.s 10)⟩] [] [0, 11]) c31_12) c31_10)
def c31 : ACode :=
  (.seq (.region false [⟨some 2, none, .cst (.t (.bool false))⟩] [] [0]) c31_13)
def r31 : List ARes := [.tmp 2]
def n31 : Nat := 36
/- 32 supergraph supergraphlaw25.exampleHolds -/
def c32_0 : ACode :=
  (.seq (.region false [⟨some 59, none, .mv (.s 9)⟩,
    ⟨some 60, none, .mv (.s 59)⟩,
    ⟨some 61, some (60, true), .mv (.s 11)⟩,
    ⟨some 62, some (60, true), .un .not (.s 61)⟩,
    ⟨some 63, none, .pick (.s 60) (.s 62) (.c (.t (.bool false)))⟩,
    ⟨some 64, none, .mv (.s 63)⟩,
    ⟨some 65, some (64, true), .ld true 4 (.s 7)⟩,
    ⟨some 66, some (64, true), .call 40 [(.s 65), (.c (.t (.str [85, 115, 101, 114]))), (.c (.t (.int .i64 1)))]⟩,
    ⟨some 67, some (64, true), .len (.s 66)⟩,
    ⟨some 68, some (64, true), .bin .eql (.s 67) (.c (.t (.int .i64 1)))⟩,
    ⟨some 69, none, .pick (.s 64) (.s 68) (.c (.t (.bool false)))⟩,
    ⟨some 70, none, .mv (.s 69)⟩,
    ⟨some 71, some (70, true), .mv (.s 6)⟩,
    ⟨some 72, some (70, true), .ia 2 (.s 71) (.c (.t (.int .i64 0)))⟩,
    ⟨some 73, some (70, true), .ld true 2 (.s 72)⟩,
    ⟨some 74, some (70, true), .build [.t (.int .i64 0), .t (.str [])] [(0, 1, (.c (.t (.int .i64 40)))), (1, 1, (.c (.t (.str [97, 58, 85, 115, 101, 114, 46, 110, 97, 109, 101]))))]⟩,
    ⟨some 75, some (70, true), .nw (.eqst false [.int .i64, .str] (.s 73) (.s 74))⟩,
    ⟨some 76, none, .pick (.s 70) (.s 75) (.c (.t (.bool false)))⟩,
    ⟨some 77, none, .mv (.s 76)⟩,
    ⟨some 78, some (77, true), .mv (.s 6)⟩,
    ⟨some 79, some (77, true), .ia 2 (.s 78) (.c (.t (.int .i64 1)))⟩,
    ⟨some 80, some (77, true), .ld true 2 (.s 79)⟩,
    ⟨some 81, some (77, true), .build [.t (.int .i64 0), .t (.str [])] [(0, 1, (.c (.t (.int .i64 40)))), (1, 1, (.c (.t (.str [98, 58, 85, 115, 101, 114, 46, 110, 97, 109, 101]))))]⟩,
    ⟨some 82, some (77, true), .nw (.eqst false [.int .i64, .str] (.s 80) (.s 81))⟩,
    ⟨some 83, none, .pick (.s 77) (.s 82) (.c (.t (.bool false)))⟩,
    ⟨some 0, none, .mv (.s 83)⟩] [] [0]) .ret)
def c32_1 : ACode :=
  (.seq (.region false [⟨some 55, none, .ld true 4 (.s 7)⟩,
    ⟨some 56, none, .call 38 [(.s 55), (.c (.t (.str [85, 115, 101, 114]))), (.c (.t (.str [110, 97, 109, 101]))), (.c (.t (.int .i64 1)))]⟩,
    ⟨some 54, none, .mv (.s 56)⟩,
    ⟨some 57, none, .ext (.s 54) 0⟩,
    ⟨some 58, none, .ext (.s 54) 1⟩,
    ⟨some 10, none, .alloc [.t (.str []), .t (.str []), .t (.int .i64 0), .t (.bool false), .nils, .nils]⟩,
    ⟨none, none, .st 6 (.s 10) (.s 57)⟩,
    ⟨some 11, none, .mv (.s 58)⟩] [] [6, 7, 9, 11]) c32_0)
def c32_2 : ACode :=
  (.seq (.region false [⟨some 50, none, .ld true 4 (.s 7)⟩,
    ⟨some 51, none, .call 38 [(.s 50), (.c (.t (.str [85, 115, 101, 114]))), (.c (.t (.str [110, 97, 109, 101]))), (.c (.t (.int .i64 0)))]⟩,
    ⟨some 49, none, .mv (.s 51)⟩,
    ⟨some 52, none, .ext (.s 49) 0⟩,
    ⟨some 53, none, .ext (.s 49) 1⟩,
    ⟨some 8, none, .alloc [.t (.str []), .t (.str []), .t (.int .i64 0), .t (.bool false), .nils, .nils]⟩,
    ⟨none, none, .st 6 (.s 8) (.s 52)⟩,
    ⟨some 9, none, .mv (.s 53)⟩] [] [6, 7, 9]) c32_1)
def c32_3 : ACode :=
  (.seq (.region false [⟨some 46, none, .mv (.s 1)⟩,
    ⟨some 47, none, .mv (.s 2)⟩,
    ⟨some 48, none, .build [.nils, .nils, .nils, .nils] [(2, 1, (.s 46)), (3, 1, (.s 47))]⟩,
    ⟨some 7, none, .alloc [.nils, .nils, .nils, .nils]⟩,
    ⟨none, none, .st 4 (.s 7) (.s 48)⟩] [] [6, 7]) c32_2)
def c32_4 : ACode :=
  (.seq (.region false [⟨some 0, none, .cst (.t (.bool false))⟩] [] [0]) .ret)
def c32_5 : ACode :=
  (.cond (.s 45) c32_4 .skip)
def c32_6 : ACode :=
  (.seq (.seq (.region false [⟨some 28, none, .mv (.s 1)⟩,
    ⟨some 29, none, .len (.s 28)⟩,
    ⟨some 30, none, .bin .neq (.s 29) (.c (.t (.int .i64 2)))⟩,
    ⟨some 31, none, .mv (.s 30)⟩,
    ⟨some 32, some (31, false), .mv (.s 2)⟩,
    ⟨some 33, some (31, false), .len (.s 32)⟩,
    ⟨some 34, some (31, false), .bin .neq (.s 33) (.c (.t (.int .i64 4)))⟩,
    ⟨some 35, none, .pick (.s 31) (.c (.t (.bool true))) (.s 34)⟩,
    ⟨some 36, none, .mv (.s 35)⟩,
    ⟨some 37, some (36, false), .mv (.s 3)⟩,
    ⟨some 38, some (36, false), .len (.s 37)⟩,
    ⟨some 39, some (36, false), .bin .neq (.s 38) (.c (.t (.int .i64 0)))⟩,
    ⟨some 40, none, .pick (.s 36) (.c (.t (.bool true))) (.s 39)⟩,
    ⟨some 41, none, .mv (.s 40)⟩,
    ⟨some 42, some (41, false), .mv (.s 6)⟩,
    ⟨some 43, some (41, false), .len (.s 42)⟩,
    ⟨some 44, some (41, false), .bin .neq (.s 43) (.c (.t (.int .i64 2)))⟩,
    ⟨some 45, none, .pick (.s 41) (.c (.t (.bool true))) (.s 44)⟩] [] [1, 2, 6, 45]) c32_5) c32_3)
def c32_7 : ACode :=
  (.seq (.region false [⟨some 21, none, .call 60 [(.c (.t (.str [97]))), (.c (.t (.str [110, 97, 109, 101])))]⟩,
    ⟨some 22, none, .call 60 [(.c (.t (.str [98]))), (.c (.t (.str [110, 97, 109, 101])))]⟩,
    ⟨some 23, none, .bsl true 2 [[.str [], .lst []], [.str [], .lst []]] [(0, (.s 21)), (1, (.s 22))]⟩,
    ⟨some 24, none, .call 33 [(.s 23)]⟩,
    ⟨some 20, none, .mv (.s 24)⟩,
    ⟨some 25, none, .ext (.s 20) 0⟩,
    ⟨some 26, none, .ext (.s 20) 1⟩,
    ⟨some 27, none, .ext (.s 20) 2⟩,
    ⟨some 4, none, .mv (.s 25)⟩,
    ⟨some 5, none, .mv (.s 26)⟩,
    ⟨some 6, none, .mv (.s 27)⟩] [] [1, 2, 3, 6]) c32_6)
def c32_8 : ACode :=
  (.seq (.region false [⟨some 13, none, .call 60 [(.c (.t (.str [97]))), (.c (.t (.str [110, 97, 109, 101])))]⟩,
    ⟨some 14, none, .call 60 [(.c (.t (.str [98]))), (.c (.t (.str [112, 111, 115, 116, 115])))]⟩,
    ⟨some 15, none, .bsl true 2 [[.str [], .lst []], [.str [], .lst []]] [(0, (.s 13)), (1, (.s 14))]⟩,
    ⟨some 16, none, .call 33 [(.s 15)]⟩,
    ⟨some 12, none, .mv (.s 16)⟩,
    ⟨some 17, none, .ext (.s 12) 0⟩,
    ⟨some 18, none, .ext (.s 12) 1⟩,
    ⟨some 19, none, .ext (.s 12) 2⟩,
    ⟨some 1, none, .mv (.s 17)⟩,
    ⟨some 2, none, .mv (.s 18)⟩,
    ⟨some 3, none, .mv (.s 19)⟩] [] [1, 2, 3]) c32_7)
def c32 : ACode :=
  (.seq (.region false [⟨some 0, none, .cst (.t (.bool false))⟩] [] []) c32_8)
def r32 : List ARes := [.tmp 0]
def n32 : Nat := 84
/- 33 supergraph moves.Joins -/
def c33_0 : ACode :=
  (.seq (.region false [⟨some 100, none, .mv (.s 5)⟩,
    ⟨some 101, none, .mv (.s 6)⟩,
    ⟨some 2, none, .mv (.s 100)⟩,
    ⟨some 3, none, .mv (.s 101)⟩,
    ⟨some 4, none, .cst (.nils)⟩] [] [2, 3, 4]) .ret)
def c33_1 : ACode :=
  (.seq (.region true [⟨some 96, none, .mv (.s 7)⟩,
    ⟨some 97, none, .nilck (.s 96)⟩,
    ⟨some 98, none, .fa 1 (.s 97)⟩,
    ⟨some 99, none, .ld false 1 (.s 98)⟩,
    ⟨some 2, none, .cst (.nils)⟩,
    ⟨some 3, none, .cst (.nils)⟩,
    ⟨some 4, none, .mv (.s 99)⟩] [[], [0], [1], [2], [], [4, 4], [3, 5, 0, 1, 2, 3, 4, 5]] [2, 3, 4]) .ret)
def c33_2 : ACode :=
  (.cond (.s 95) c33_1 .skip)
def c33_3 : ACode :=
  (.seq (.seq (.region false [⟨some 90, none, .mv (.s 7)⟩,
    ⟨some 91, none, .nilck (.s 90)⟩,
    ⟨some 92, none, .fa 1 (.s 91)⟩,
    ⟨some 93, none, .ld false 1 (.s 92)⟩,
    ⟨some 94, none, .len (.s 93)⟩,
    ⟨some 95, none, .bin .gtr (.s 94) (.c (.t (.int .i64 0)))⟩] [] [5, 6, 7, 95]) c33_2) c33_0)
def c33_4 : ACode :=
  (.region false [⟨some 89, none, .bin .add (.s 21) (.c (.t (.int .i64 1)))⟩,
    ⟨some 21, none, .mv (.s 89)⟩] [] [5, 6, 7, 19, 20, 21])
def c33_5 : ACode :=
  (.region false [⟨some 88, none, .bin .add (.s 30) (.c (.t (.int .i64 1)))⟩,
    ⟨some 30, none, .mv (.s 88)⟩] [] [5, 6, 7, 8, 9, 19, 20, 21, 28, 29, 30])
def c33_6 : ACode :=
  (.region false [⟨some 87, none, .bin .add (.s 60) (.c (.t (.int .i64 1)))⟩,
    ⟨some 60, none, .mv (.s 87)⟩] [] [5, 6, 7, 8, 9, 11, 19, 20, 21, 28, 29, 30, 58, 59, 60])
def c33_7 : ACode :=
  (.region true [⟨some 69, none, .mv (.s 6)⟩,
    ⟨some 70, none, .fa 1 (.s 11)⟩,
    ⟨some 71, none, .ld false 1 (.s 70)⟩,
    ⟨some 72, none, .fa 0 (.s 15)⟩,
    ⟨some 73, none, .ld false 1 (.s 72)⟩,
    ⟨some 74, none, .mv (.s 8)⟩,
    ⟨some 75, none, .fa 4 (.s 15)⟩,
    ⟨some 76, none, .ld false 1 (.s 75)⟩,
    ⟨some 77, none, .call 25 [(.s 76), (.c (.t (.str [101, 120, 116, 101, 114, 110, 97, 108])))]⟩,
    ⟨some 78, none, .fa 4 (.s 15)⟩,
    ⟨some 79, none, .ld false 1 (.s 78)⟩,
    ⟨some 80, none, .call 64 [(.s 79), (.c (.t (.str [114, 101, 113, 117, 105, 114, 101, 115])))]⟩,
    ⟨some 81, none, .fa 4 (.s 15)⟩,
    ⟨some 82, none, .ld false 1 (.s 81)⟩,
    ⟨some 83, none, .call 64 [(.s 82), (.c (.t (.str [112, 114, 111, 118, 105, 100, 101, 115])))]⟩,
    ⟨some 84, none, .build [.t (.str []), .t (.str []), .t (.int .i64 0), .t (.bool false), .nils, .nils] [(0, 1, (.s 71)), (1, 1, (.s 73)), (2, 1, (.s 74)), (3, 1, (.s 77)), (4, 1, (.s 80)), (5, 1, (.s 83))]⟩,
    ⟨some 85, none, .bsl false 6 [[.str [], .str [], .int .i64 0, .bool false, .lst [], .lst []]] [(0, (.s 84))]⟩,
    ⟨some 86, none, .app 6 96 (.s 69) (.s 85)⟩,
    ⟨some 6, none, .mv (.s 86)⟩] [[], [], [1], [], [3], [], [], [6], [7], [], [9], [10, 8], [], [12], [13, 11], [2, 4, 5, 8, 11, 14], [15], [0, 16, 14], [17, 17, 0, 1, 2, 3, 4, 5, 6, 7, 8, 9, 10, 11, 12, 13, 14, 15, 16, 17]] [5, 6, 7, 8, 9, 11, 19, 20, 21, 28, 29, 30, 58, 59, 60])
def c33_8 : ACode :=
  (.seq (.region false [⟨some 64, none, .mv (.s 7)⟩,
    ⟨some 65, none, .mv (.s 8)⟩,
    ⟨some 66, none, .ld true 7 (.s 11)⟩,
    ⟨some 67, none, .ld true 5 (.s 15)⟩,
    ⟨some 68, none, .call 63 [(.s 64), (.s 65), (.s 66), (.s 67)]⟩] [] [5, 6, 7, 8, 9, 11, 15, 19, 20, 21, 28, 29, 30, 58, 59, 60]) c33_7)
def c33_9 : ACode :=
  (.seq (.region false [⟨some 62, none, .ia 5 (.s 58) (.s 60)⟩,
    ⟨some 63, none, .ld true 5 (.s 62)⟩,
    ⟨some 15, none, .alloc [.t (.str []), .nils, .t (.str []), .nils, .nils]⟩,
    ⟨none, none, .st 5 (.s 15) (.s 63)⟩] [] [5, 6, 7, 8, 9, 11, 15, 19, 20, 21, 28, 29, 30, 58, 59, 60]) c33_8)
def c33_10 : ACode :=
  (.seq (.block 7 c33_9) c33_6)
def c33_11 : ACode :=
  (.seq (.cond (.s 61) .skip (.exit 6)) c33_10)
def c33_12 : ACode :=
  (.seq (.region false [⟨some 61, none, .bin .lss (.s 60) (.s 59)⟩] [] [5, 6, 7, 8, 9, 11, 19, 20, 21, 28, 29, 30, 58, 59, 60, 61]) c33_11)
def c33_13 : ACode :=
  (.loop c33_12)
def c33_14 : ACode :=
  (.block 6 c33_13)
def c33_15 : ACode :=
  (.seq (.region false [⟨some 57, none, .fa 4 (.s 11)⟩,
    ⟨some 58, none, .ld false 1 (.s 57)⟩,
    ⟨some 59, none, .len (.s 58)⟩,
    ⟨some 60, none, .cst (.t (.int .i64 0))⟩] [] [5, 6, 7, 8, 9, 11, 19, 20, 21, 28, 29, 30, 58, 59, 60]) c33_14)
def c33_16 : ACode :=
  (.region false [⟨some 56, none, .bin .add (.s 44) (.c (.t (.int .i64 1)))⟩,
    ⟨some 44, none, .mv (.s 56)⟩] [] [5, 6, 7, 8, 9, 11, 19, 20, 21, 28, 29, 30, 42, 43, 44])
def c33_17 : ACode :=
  (.region false [⟨some 48, none, .mv (.s 5)⟩,
    ⟨some 49, none, .fa 1 (.s 11)⟩,
    ⟨some 50, none, .ld false 1 (.s 49)⟩,
    ⟨some 51, none, .mv (.s 8)⟩,
    ⟨some 52, none, .mv (.s 13)⟩,
    ⟨some 53, none, .build [.t (.str []), .t (.int .i64 0), .nils] [(0, 1, (.s 50)), (1, 1, (.s 51)), (2, 1, (.s 52))]⟩,
    ⟨some 54, none, .bsl false 3 [[.str [], .int .i64 0, .lst []]] [(0, (.s 53))]⟩,
    ⟨some 55, none, .app 3 48 (.s 48) (.s 54)⟩,
    ⟨some 5, none, .mv (.s 55)⟩] [] [5, 6, 7, 8, 9, 11, 19, 20, 21, 28, 29, 30, 42, 43, 44])
def c33_18 : ACode :=
  (.seq (.region false [⟨some 46, none, .ia 1 (.s 42) (.s 44)⟩,
    ⟨some 47, none, .ld false 1 (.s 46)⟩,
    ⟨some 13, none, .mv (.s 47)⟩] [] [5, 6, 7, 8, 9, 11, 13, 19, 20, 21, 28, 29, 30, 42, 43, 44]) c33_17)
def c33_19 : ACode :=
  (.seq (.block 5 c33_18) c33_16)
def c33_20 : ACode :=
  (.seq (.cond (.s 45) .skip (.exit 4)) c33_19)
def c33_21 : ACode :=
  (.seq (.region false [⟨some 45, none, .bin .lss (.s 44) (.s 43)⟩] [] [5, 6, 7, 8, 9, 11, 19, 20, 21, 28, 29, 30, 42, 43, 44, 45]) c33_20)
def c33_22 : ACode :=
  (.loop c33_21)
def c33_23 : ACode :=
  (.block 4 c33_22)
def c33_24 : ACode :=
  (.seq (.seq (.region false [⟨some 41, none, .ld true 7 (.s 11)⟩,
    ⟨some 42, none, .call 62 [(.s 41)]⟩,
    ⟨some 43, none, .len (.s 42)⟩,
    ⟨some 44, none, .cst (.t (.int .i64 0))⟩] [] [5, 6, 7, 8, 9, 11, 19, 20, 21, 28, 29, 30, 42, 43, 44]) c33_23) c33_15)
def c33_25 : ACode :=
  (.seq (.region false [⟨some 37, none, .mv (.s 7)⟩,
    ⟨some 38, none, .ld true 2 (.s 9)⟩,
    ⟨some 39, none, .ld true 7 (.s 11)⟩,
    ⟨some 40, none, .call 61 [(.s 37), (.s 38), (.s 39)]⟩] [] [5, 6, 7, 8, 9, 11, 19, 20, 21, 28, 29, 30]) c33_24)
def c33_26 : ACode :=
  (.cond (.s 36) (.exit 3) .skip)
def c33_27 : ACode :=
  (.seq (.seq (.region false [⟨some 34, none, .fa 0 (.s 11)⟩,
    ⟨some 35, none, .ld false 1 (.s 34)⟩,
    ⟨some 36, none, .bin .neq (.s 35) (.c (.t (.int .i64 1)))⟩] [] [5, 6, 7, 8, 9, 11, 19, 20, 21, 28, 29, 30, 36]) c33_26) c33_25)
def c33_28 : ACode :=
  (.seq (.region false [⟨some 32, none, .ia 7 (.s 28) (.s 30)⟩,
    ⟨some 33, none, .ld true 7 (.s 32)⟩,
    ⟨some 11, none, .alloc [.t (.int .i64 0), .t (.str []), .nils, .nils, .nils, .nils, .nils]⟩,
    ⟨none, none, .st 7 (.s 11) (.s 33)⟩] [] [5, 6, 7, 8, 9, 11, 19, 20, 21, 28, 29, 30]) c33_27)
def c33_29 : ACode :=
  (.seq (.block 3 c33_28) c33_5)
def c33_30 : ACode :=
  (.seq (.cond (.s 31) .skip (.exit 2)) c33_29)
def c33_31 : ACode :=
  (.seq (.region false [⟨some 31, none, .bin .lss (.s 30) (.s 29)⟩] [] [5, 6, 7, 8, 9, 19, 20, 21, 28, 29, 30, 31]) c33_30)
def c33_32 : ACode :=
  (.loop c33_31)
def c33_33 : ACode :=
  (.block 2 c33_32)
def c33_34 : ACode :=
  (.seq (.region false [⟨some 26, none, .fa 1 (.s 9)⟩,
    ⟨some 27, none, .fa 0 (.s 26)⟩,
    ⟨some 28, none, .ld false 1 (.s 27)⟩,
    ⟨some 29, none, .len (.s 28)⟩,
    ⟨some 30, none, .cst (.t (.int .i64 0))⟩] [] [5, 6, 7, 8, 9, 19, 20, 21, 28, 29, 30]) c33_33)
def c33_35 : ACode :=
  (.seq (.region false [⟨some 23, none, .mv (.s 21)⟩,
    ⟨some 24, none, .ia 2 (.s 19) (.s 21)⟩,
    ⟨some 25, none, .ld true 2 (.s 24)⟩,
    ⟨some 9, none, .alloc [.t (.str []), .nils]⟩,
    ⟨some 8, none, .mv (.s 23)⟩,
    ⟨none, none, .st 2 (.s 9) (.s 25)⟩] [] [5, 6, 7, 8, 9, 19, 20, 21]) c33_34)
def c33_36 : ACode :=
  (.seq (.block 1 c33_35) c33_4)
def c33_37 : ACode :=
  (.seq (.cond (.s 22) .skip (.exit 0)) c33_36)
def c33_38 : ACode :=
  (.seq (.region false [⟨some 22, none, .bin .lss (.s 21) (.s 20)⟩] [] [5, 6, 7, 19, 20, 21, 22]) c33_37)
def c33_39 : ACode :=
  (.loop c33_38)
def c33_40 : ACode :=
  (.block 0 c33_39)
def c33_41 : ACode :=
  (.seq (.seq (.region false [⟨some 19, none, .mv (.s 0)⟩,
    ⟨some 20, none, .len (.s 19)⟩,
    ⟨some 21, none, .cst (.t (.int .i64 0))⟩] [] [5, 6, 7, 19, 20, 21]) c33_40) c33_3)
def c33_42 : ACode :=
  (.seq (.region false [⟨some 16, none, .mv (.s 0)⟩,
    ⟨some 17, none, .build [.nils, .nils] [(0, 1, (.s 16))]⟩,
    ⟨some 18, none, .box 2 (.s 17)⟩,
    ⟨some 7, none, .mv (.s 18)⟩] [] [0, 5, 6, 7]) c33_41)
def c33_43 : ACode :=
  (.seq (.region false [⟨some 6, none, .cst (.nils)⟩] [] [0, 5, 6]) c33_42)
def c33_44 : ACode :=
  (.seq (.region false [⟨some 5, none, .cst (.nils)⟩] [] [0, 5]) c33_43)
def c33 : ACode :=
  (.seq (.region false [⟨some 2, none, .cst (.nils)⟩,
    ⟨some 3, none, .cst (.nils)⟩,
    ⟨some 4, none, .cst (.nils)⟩] [] [0]) c33_44)
def r33 : List ARes := [.tmp 2, .tmp 3, .tmp 4]
def n33 : Nat := 102
/- 34 supergraph supergraphlaw25.keyed -/
def c34_0 : ACode :=
  (.seq (.region false [⟨some 91, none, .mv (.s 6)⟩,
    ⟨some 4, none, .mv (.s 91)⟩] [] [4]) .ret)
def c34_1 : ACode :=
  (.region false [⟨some 50, none, .mv (.s 7)⟩,
    ⟨some 51, none, .bin .add (.s 50) (.c (.t (.int .i64 1)))⟩,
    ⟨some 7, none, .mv (.s 51)⟩] [] [3, 5, 6, 7])
def c34_2 : ACode :=
  (.region false [⟨some 75, none, .mv (.s 10)⟩,
    ⟨some 76, none, .bin .add (.s 75) (.c (.t (.int .i64 1)))⟩,
    ⟨some 10, none, .mv (.s 76)⟩] [] [3, 5, 6, 7, 10])
def c34_3 : ACode :=
  (.region true [⟨some 77, none, .mv (.s 6)⟩,
    ⟨some 78, none, .mv (.s 77)⟩,
    ⟨some 79, some (78, true), .fa 2 (.s 3)⟩,
    ⟨some 80, some (78, true), .ld false 1 (.s 79)⟩,
    ⟨some 81, some (78, true), .mv (.s 10)⟩,
    ⟨some 82, some (78, true), .ia 1 (.s 80) (.s 81)⟩,
    ⟨some 83, some (78, true), .ld false 1 (.s 82)⟩,
    ⟨some 84, some (78, true), .fa 2 (.s 3)⟩,
    ⟨some 85, some (78, true), .ld false 1 (.s 84)⟩,
    ⟨some 86, some (78, true), .mv (.s 7)⟩,
    ⟨some 87, some (78, true), .ia 1 (.s 85) (.s 86)⟩,
    ⟨some 88, some (78, true), .ld false 1 (.s 87)⟩,
    ⟨some 89, some (78, true), .bin .neq (.s 83) (.s 88)⟩,
    ⟨some 90, none, .pick (.s 78) (.s 89) (.c (.t (.bool false)))⟩,
    ⟨some 6, none, .mv (.s 90)⟩] [[], [0], [1], [2, 1], [1], [3, 4, 1], [5, 1], [1], [7, 1], [1], [8, 9, 1], [10, 1], [6, 11, 1], [1, 12], [13, 1, 0, 1, 2, 3, 4, 5, 6, 7, 8, 9, 10, 11, 12, 13]] [3, 5, 6, 7, 10])
def c34_4 : ACode :=
  (.seq (.block 3 c34_3) c34_2)
def c34_5 : ACode :=
  (.cond (.s 74) .skip (.exit 2))
def c34_6 : ACode :=
  (.seq (.seq (.region false [⟨some 72, none, .mv (.s 10)⟩,
    ⟨some 73, none, .mv (.s 7)⟩,
    ⟨some 74, none, .bin .lss (.s 72) (.s 73)⟩] [] [3, 5, 6, 7, 10, 74]) c34_5) c34_4)
def c34_7 : ACode :=
  (.loop c34_6)
def c34_8 : ACode :=
  (.block 2 c34_7)
def c34_9 : ACode :=
  (.seq (.region false [⟨some 10, none, .cst (.t (.int .i64 0))⟩] [] [3, 5, 6, 7, 10]) c34_8)
def c34_10 : ACode :=
  (.seq (.region false [⟨some 62, none, .mv (.s 6)⟩,
    ⟨some 63, none, .mv (.s 62)⟩,
    ⟨some 64, some (63, true), .mv (.s 9)⟩,
    ⟨some 65, none, .pick (.s 63) (.s 64) (.c (.t (.bool false)))⟩,
    ⟨some 66, none, .mv (.s 65)⟩,
    ⟨some 67, some (66, true), .fa 1 (.s 8)⟩,
    ⟨some 68, some (66, true), .ld false 1 (.s 67)⟩,
    ⟨some 69, some (66, true), .len (.s 68)⟩,
    ⟨some 70, some (66, true), .bin .eql (.s 69) (.c (.t (.int .i64 0)))⟩,
    ⟨some 71, none, .pick (.s 66) (.s 70) (.c (.t (.bool false)))⟩,
    ⟨some 6, none, .mv (.s 71)⟩] [] [3, 5, 6, 7]) c34_9)
def c34_11 : ACode :=
  (.seq (.region true [⟨some 53, none, .ld true 7 (.s 5)⟩,
    ⟨some 54, none, .fa 2 (.s 3)⟩,
    ⟨some 55, none, .ld false 1 (.s 54)⟩,
    ⟨some 56, none, .mv (.s 7)⟩,
    ⟨some 57, none, .ia 1 (.s 55) (.s 56)⟩,
    ⟨some 58, none, .ld false 1 (.s 57)⟩,
    ⟨some 59, none, .call 66 [(.s 53), (.s 58)]⟩,
    ⟨some 52, none, .mv (.s 59)⟩,
    ⟨some 60, none, .ext (.s 52) 0⟩,
    ⟨some 61, none, .ext (.s 52) 1⟩,
    ⟨some 8, none, .alloc [.t (.str []), .nils, .t (.str []), .nils, .nils]⟩,
    ⟨none, none, .st 5 (.s 8) (.s 60)⟩,
    ⟨some 9, none, .mv (.s 61)⟩] [[], [], [1], [], [2, 3], [4], [0, 5], [6], [7], [7], [], [10, 8, 6, 0, 1, 2, 3, 4, 5, 6, 7, 8, 10], [9, 11, 0, 1, 2, 3, 4, 5, 6, 7, 8, 9, 10, 11]] [3, 5, 6, 7, 8, 9]) c34_10)
def c34_12 : ACode :=
  (.seq (.block 1 c34_11) c34_1)
def c34_13 : ACode :=
  (.cond (.s 49) .skip (.exit 0))
def c34_14 : ACode :=
  (.seq (.seq (.region false [⟨some 45, none, .mv (.s 7)⟩,
    ⟨some 46, none, .fa 2 (.s 3)⟩,
    ⟨some 47, none, .ld false 1 (.s 46)⟩,
    ⟨some 48, none, .len (.s 47)⟩,
    ⟨some 49, none, .bin .lss (.s 45) (.s 48)⟩] [] [3, 5, 6, 7, 49]) c34_13) c34_12)
def c34_15 : ACode :=
  (.loop c34_14)
def c34_16 : ACode :=
  (.block 0 c34_15)
def c34_17 : ACode :=
  (.seq (.seq (.region false [⟨some 7, none, .cst (.t (.int .i64 0))⟩] [] [3, 5, 6, 7]) c34_16) c34_0)
def c34_18 : ACode :=
  (.seq (.region true [⟨some 34, none, .mv (.s 0)⟩,
    ⟨some 35, none, .fa 1 (.s 3)⟩,
    ⟨some 36, none, .ld false 1 (.s 35)⟩,
    ⟨some 37, none, .ia 2 (.s 34) (.s 36)⟩,
    ⟨some 38, none, .fa 1 (.s 37)⟩,
    ⟨some 39, none, .ld true 1 (.s 38)⟩,
    ⟨some 40, none, .fa 0 (.s 3)⟩,
    ⟨some 41, none, .ld false 1 (.s 40)⟩,
    ⟨some 42, none, .call 65 [(.s 39), (.s 41)]⟩,
    ⟨some 33, none, .mv (.s 42)⟩,
    ⟨some 43, none, .ext (.s 33) 0⟩,
    ⟨some 44, none, .ext (.s 33) 1⟩,
    ⟨some 5, none, .alloc [.t (.int .i64 0), .t (.str []), .nils, .nils, .nils, .nils, .nils]⟩,
    ⟨none, none, .st 7 (.s 5) (.s 43)⟩,
    ⟨some 6, none, .mv (.s 44)⟩] [[], [], [1], [0, 2], [3], [4], [], [6], [5, 7], [8], [9], [9], [], [12, 10, 8, 0, 1, 2, 3, 4, 5, 6, 7, 8, 9, 10, 12], [11, 13, 0, 1, 2, 3, 4, 5, 6, 7, 8, 9, 10, 11, 12, 13]] [3, 5, 6]) c34_17)
def c34_19 : ACode :=
  (.seq (.region false [⟨some 4, none, .cst (.t (.bool false))⟩] [] [4]) .ret)
def c34_20 : ACode :=
  (.cond (.s 32) c34_19 .skip)
def c34_21 : ACode :=
  (.seq (.seq (.region false [⟨some 11, none, .fa 1 (.s 3)⟩,
    ⟨some 12, none, .ld false 1 (.s 11)⟩,
    ⟨some 13, none, .bin .lss (.s 12) (.c (.t (.int .i64 0)))⟩,
    ⟨some 14, none, .mv (.s 13)⟩,
    ⟨some 15, some (14, false), .fa 1 (.s 3)⟩,
    ⟨some 16, some (14, false), .ld false 1 (.s 15)⟩,
    ⟨some 17, some (14, false), .mv (.s 0)⟩,
    ⟨some 18, some (14, false), .len (.s 17)⟩,
    ⟨some 19, some (14, false), .bin .geq (.s 16) (.s 18)⟩,
    ⟨some 20, none, .pick (.s 14) (.c (.t (.bool true))) (.s 19)⟩,
    ⟨some 21, none, .mv (.s 20)⟩,
    ⟨some 22, some (21, false), .fa 2 (.s 3)⟩,
    ⟨some 23, some (21, false), .ld false 1 (.s 22)⟩,
    ⟨some 24, some (21, false), .len (.s 23)⟩,
    ⟨some 25, some (21, false), .bin .lss (.s 24) (.c (.t (.int .i64 1)))⟩,
    ⟨some 26, none, .pick (.s 21) (.c (.t (.bool true))) (.s 25)⟩,
    ⟨some 27, none, .mv (.s 26)⟩,
    ⟨some 28, some (27, false), .fa 2 (.s 3)⟩,
    ⟨some 29, some (27, false), .ld false 1 (.s 28)⟩,
    ⟨some 30, some (27, false), .len (.s 29)⟩,
    ⟨some 31, some (27, false), .bin .gtr (.s 30) (.c (.t (.int .i64 4)))⟩,
    ⟨some 32, none, .pick (.s 27) (.c (.t (.bool true))) (.s 31)⟩] [] [0, 3, 32]) c34_20) c34_18)
def c34 : ACode :=
  (.seq (.region false [⟨some 3, none, .box 3 (.s 1)⟩,
    ⟨some 4, none, .cst (.t (.bool false))⟩] [] [0, 3]) c34_21)
def r34 : List ARes := [.tmp 4]
def n34 : Nat := 92
/- 35 supergraph supergraphlaw25.others -/
def c35_0 : ACode :=
  (.seq (.region false [⟨some 51, none, .mv (.s 5)⟩,
    ⟨some 4, none, .mv (.s 51)⟩] [] [4]) .ret)
def c35_1 : ACode :=
  (.region false [⟨some 11, none, .mv (.s 6)⟩,
    ⟨some 12, none, .bin .add (.s 11) (.c (.t (.int .i64 1)))⟩,
    ⟨some 6, none, .mv (.s 12)⟩] [] [0, 3, 5, 6])
def c35_2 : ACode :=
  (.region false [⟨some 49, none, .mv (.s 5)⟩,
    ⟨some 50, none, .bin .add (.s 49) (.c (.t (.int .i64 1)))⟩,
    ⟨some 5, none, .mv (.s 50)⟩] [] [0, 3, 5, 6])
def c35_3 : ACode :=
  (.cond (.s 48) c35_2 .skip)
def c35_4 : ACode :=
  (.seq (.region true [⟨some 13, none, .mv (.s 0)⟩,
    ⟨some 14, none, .mv (.s 6)⟩,
    ⟨some 15, none, .ia 6 (.s 13) (.s 14)⟩,
    ⟨some 16, none, .fa 0 (.s 15)⟩,
    ⟨some 17, none, .ld false 1 (.s 16)⟩,
    ⟨some 18, none, .fa 0 (.s 3)⟩,
    ⟨some 19, none, .ld false 1 (.s 18)⟩,
    ⟨some 20, none, .bin .eql (.s 17) (.s 19)⟩,
    ⟨some 21, none, .mv (.s 20)⟩,
    ⟨some 22, some (21, true), .mv (.s 0)⟩,
    ⟨some 23, some (21, true), .mv (.s 6)⟩,
    ⟨some 24, some (21, true), .ia 6 (.s 22) (.s 23)⟩,
    ⟨some 25, some (21, true), .fa 1 (.s 24)⟩,
    ⟨some 26, some (21, true), .ld false 1 (.s 25)⟩,
    ⟨some 27, some (21, true), .fa 1 (.s 3)⟩,
    ⟨some 28, some (21, true), .ld false 1 (.s 27)⟩,
    ⟨some 29, some (21, true), .bin .eql (.s 26) (.s 28)⟩,
    ⟨some 30, none, .pick (.s 21) (.s 29) (.c (.t (.bool false)))⟩,
    ⟨some 31, none, .mv (.s 30)⟩,
    ⟨some 32, some (31, true), .mv (.s 0)⟩,
    ⟨some 33, some (31, true), .mv (.s 6)⟩,
    ⟨some 34, some (31, true), .ia 6 (.s 32) (.s 33)⟩,
    ⟨some 35, some (31, true), .fa 2 (.s 34)⟩,
    ⟨some 36, some (31, true), .ld false 1 (.s 35)⟩,
    ⟨some 37, some (31, true), .fa 2 (.s 3)⟩,
    ⟨some 38, some (31, true), .ld false 1 (.s 37)⟩,
    ⟨some 39, some (31, true), .bin .neq (.s 36) (.s 38)⟩,
    ⟨some 40, none, .pick (.s 31) (.s 39) (.c (.t (.bool false)))⟩,
    ⟨some 41, none, .mv (.s 40)⟩,
    ⟨some 42, some (41, true), .mv (.s 0)⟩,
    ⟨some 43, some (41, true), .mv (.s 6)⟩,
    ⟨some 44, some (41, true), .ia 6 (.s 42) (.s 43)⟩,
    ⟨some 45, some (41, true), .fa 3 (.s 44)⟩,
    ⟨some 46, some (41, true), .ld false 1 (.s 45)⟩,
    ⟨some 47, some (41, true), .un .not (.s 46)⟩,
    ⟨some 48, none, .pick (.s 41) (.s 47) (.c (.t (.bool false)))⟩] [[], [], [0, 1], [2], [3], [], [5], [4, 6], [7], [8], [8], [9, 10, 8], [11, 8], [12, 8], [8], [14, 8], [13, 15, 8], [8, 16], [17, 8], [18], [18], [19, 20, 18], [21, 18], [22, 18], [18], [24, 18], [23, 25, 18], [18, 26], [27, 18], [28], [28], [29, 30, 28], [31, 28], [32, 28], [33, 28], [28, 34]] [0, 3, 5, 6, 48]) c35_3)
def c35_5 : ACode :=
  (.seq (.block 1 c35_4) c35_1)
def c35_6 : ACode :=
  (.cond (.s 10) .skip (.exit 0))
def c35_7 : ACode :=
  (.seq (.seq (.region false [⟨some 7, none, .mv (.s 6)⟩,
    ⟨some 8, none, .mv (.s 0)⟩,
    ⟨some 9, none, .len (.s 8)⟩,
    ⟨some 10, none, .bin .lss (.s 7) (.s 9)⟩] [] [0, 3, 5, 6, 10]) c35_6) c35_5)
def c35_8 : ACode :=
  (.loop c35_7)
def c35_9 : ACode :=
  (.block 0 c35_8)
def c35_10 : ACode :=
  (.seq (.seq (.region false [⟨some 6, none, .cst (.t (.int .i64 0))⟩] [] [0, 3, 5, 6]) c35_9) c35_0)
def c35_11 : ACode :=
  (.seq (.region false [⟨some 5, none, .cst (.t (.int .i64 0))⟩] [] [0, 3, 5]) c35_10)
def c35 : ACode :=
  (.seq (.region false [⟨some 3, none, .box 6 (.s 1)⟩,
    ⟨some 4, none, .cst (.t (.int .i64 0))⟩] [] [0, 3]) c35_11)
def r35 : List ARes := [.tmp 4]
def n35 : Nat := 52
/- 36 supergraph supergraphref25.Bare -/
/- 37 supergraph supergraphlaw25.fieldsOf -/
/- 38 supergraph moves.Find -/
def c38_0 : ACode :=
  (.seq (.region false [⟨some 45, none, .build [.t (.str []), .t (.str []), .t (.int .i64 0), .t (.bool false), .nils, .nils] []⟩,
    ⟨none, none, .st 6 (.s 8) (.s 45)⟩,
    ⟨some 9, none, .cst (.t (.bool false))⟩] [] [8, 9]) .ret)
def c38_1 : ACode :=
  (.region false [⟨some 44, none, .bin .add (.s 15) (.c (.t (.int .i64 1)))⟩,
    ⟨some 15, none, .mv (.s 44)⟩] [] [1, 2, 3, 8, 13, 14, 15])
def c38_2 : ACode :=
  (.seq (.region false [⟨some 43, none, .ld true 6 (.s 11)⟩,
    ⟨none, none, .st 6 (.s 8) (.s 43)⟩,
    ⟨some 9, none, .cst (.t (.bool true))⟩] [] [8, 9]) .ret)
def c38_3 : ACode :=
  (.seq (.region true [⟨some 35, none, .fa 4 (.s 11)⟩,
    ⟨some 36, none, .ld false 1 (.s 35)⟩,
    ⟨some 37, none, .call 68 [(.s 36)]⟩,
    ⟨some 38, none, .fa 5 (.s 11)⟩,
    ⟨some 39, none, .ld false 1 (.s 38)⟩,
    ⟨some 40, none, .call 68 [(.s 39)]⟩,
    ⟨some 41, none, .fa 4 (.s 11)⟩,
    ⟨none, none, .st 1 (.s 41) (.s 37)⟩,
    ⟨some 42, none, .fa 5 (.s 11)⟩,
    ⟨none, none, .st 1 (.s 42) (.s 40)⟩] [[], [0], [1], [], [3], [4, 2], [0, 1, 2, 3, 4], [6, 2, 5, 0, 1, 2, 3, 4], [0, 1, 2, 3, 4, 5, 6, 7], [8, 5, 7, 0, 1, 2, 3, 4, 5, 6, 7]] [8, 11]) c38_2)
def c38_4 : ACode :=
  (.cond (.s 34) c38_3 .skip)
def c38_5 : ACode :=
  (.seq (.region false [⟨some 19, none, .fa 0 (.s 11)⟩,
    ⟨some 20, none, .ld false 1 (.s 19)⟩,
    ⟨some 21, none, .mv (.s 1)⟩,
    ⟨some 22, none, .bin .eql (.s 20) (.s 21)⟩,
    ⟨some 23, none, .mv (.s 22)⟩,
    ⟨some 24, some (23, true), .fa 1 (.s 11)⟩,
    ⟨some 25, some (23, true), .ld false 1 (.s 24)⟩,
    ⟨some 26, some (23, true), .mv (.s 2)⟩,
    ⟨some 27, some (23, true), .bin .eql (.s 25) (.s 26)⟩,
    ⟨some 28, none, .pick (.s 23) (.s 27) (.c (.t (.bool false)))⟩,
    ⟨some 29, none, .mv (.s 28)⟩,
    ⟨some 30, some (29, true), .fa 2 (.s 11)⟩,
    ⟨some 31, some (29, true), .ld false 1 (.s 30)⟩,
    ⟨some 32, some (29, true), .mv (.s 3)⟩,
    ⟨some 33, some (29, true), .bin .eql (.s 31) (.s 32)⟩,
    ⟨some 34, none, .pick (.s 29) (.s 33) (.c (.t (.bool false)))⟩] [] [1, 2, 3, 8, 11, 13, 14, 15, 34]) c38_4)
def c38_6 : ACode :=
  (.seq (.region false [⟨some 17, none, .ia 6 (.s 13) (.s 15)⟩,
    ⟨some 18, none, .ld true 6 (.s 17)⟩,
    ⟨some 11, none, .alloc [.t (.str []), .t (.str []), .t (.int .i64 0), .t (.bool false), .nils, .nils]⟩,
    ⟨none, none, .st 6 (.s 11) (.s 18)⟩] [] [1, 2, 3, 8, 11, 13, 14, 15]) c38_5)
def c38_7 : ACode :=
  (.seq (.block 1 c38_6) c38_1)
def c38_8 : ACode :=
  (.seq (.cond (.s 16) .skip (.exit 0)) c38_7)
def c38_9 : ACode :=
  (.seq (.region false [⟨some 16, none, .bin .lss (.s 15) (.s 14)⟩] [] [1, 2, 3, 8, 13, 14, 15, 16]) c38_8)
def c38_10 : ACode :=
  (.loop c38_9)
def c38_11 : ACode :=
  (.block 0 c38_10)
def c38_12 : ACode :=
  (.seq (.seq (.region false [⟨some 12, none, .fa 3 (.s 4)⟩,
    ⟨some 13, none, .ld false 1 (.s 12)⟩,
    ⟨some 14, none, .len (.s 13)⟩,
    ⟨some 15, none, .cst (.t (.int .i64 0))⟩] [] [1, 2, 3, 8, 13, 14, 15]) c38_11) c38_0)
def c38 : ACode :=
  (.seq (.region false [⟨some 4, none, .box 4 (.s 0)⟩,
    ⟨some 8, none, .alloc [.t (.str []), .t (.str []), .t (.int .i64 0), .t (.bool false), .nils, .nils]⟩,
    ⟨some 9, none, .cst (.t (.bool false))⟩] [] [1, 2, 3, 4, 8]) c38_12)
def r38 : List ARes := [.cell 8 true 6, .tmp 9]
def n38 : Nat := 46
/- 39 supergraph supergraphref25.Find -/
/- 40 supergraph moves.Keys -/
def c40_0 : ACode :=
  (.seq (.region false [⟨some 34, none, .mv (.s 7)⟩,
    ⟨some 6, none, .mv (.s 34)⟩] [] [6]) .ret)
def c40_1 : ACode :=
  (.region false [⟨some 33, none, .bin .add (.s 13) (.c (.t (.int .i64 1)))⟩,
    ⟨some 13, none, .mv (.s 33)⟩] [] [1, 2, 7, 11, 12, 13])
def c40_2 : ACode :=
  (.region false [⟨some 27, none, .mv (.s 7)⟩,
    ⟨some 28, none, .fa 2 (.s 9)⟩,
    ⟨some 29, none, .ld false 1 (.s 28)⟩,
    ⟨some 30, none, .call 68 [(.s 29)]⟩,
    ⟨some 31, none, .bsl false 1 [[.lst []]] [(0, (.s 30))]⟩,
    ⟨some 32, none, .app 1 24 (.s 27) (.s 31)⟩,
    ⟨some 7, none, .mv (.s 32)⟩] [] [1, 2, 7, 11, 12, 13])
def c40_3 : ACode :=
  (.cond (.s 26) c40_2 .skip)
def c40_4 : ACode :=
  (.seq (.region false [⟨some 17, none, .fa 0 (.s 9)⟩,
    ⟨some 18, none, .ld false 1 (.s 17)⟩,
    ⟨some 19, none, .mv (.s 1)⟩,
    ⟨some 20, none, .bin .eql (.s 18) (.s 19)⟩,
    ⟨some 21, none, .mv (.s 20)⟩,
    ⟨some 22, some (21, true), .fa 1 (.s 9)⟩,
    ⟨some 23, some (21, true), .ld false 1 (.s 22)⟩,
    ⟨some 24, some (21, true), .mv (.s 2)⟩,
    ⟨some 25, some (21, true), .bin .eql (.s 23) (.s 24)⟩,
    ⟨some 26, none, .pick (.s 21) (.s 25) (.c (.t (.bool false)))⟩] [] [1, 2, 7, 9, 11, 12, 13, 26]) c40_3)
def c40_5 : ACode :=
  (.seq (.region false [⟨some 15, none, .ia 3 (.s 11) (.s 13)⟩,
    ⟨some 16, none, .ld true 3 (.s 15)⟩,
    ⟨some 9, none, .alloc [.t (.str []), .t (.int .i64 0), .nils]⟩,
    ⟨none, none, .st 3 (.s 9) (.s 16)⟩] [] [1, 2, 7, 9, 11, 12, 13]) c40_4)
def c40_6 : ACode :=
  (.seq (.block 1 c40_5) c40_1)
def c40_7 : ACode :=
  (.seq (.cond (.s 14) .skip (.exit 0)) c40_6)
def c40_8 : ACode :=
  (.seq (.region false [⟨some 14, none, .bin .lss (.s 13) (.s 12)⟩] [] [1, 2, 7, 11, 12, 13, 14]) c40_7)
def c40_9 : ACode :=
  (.loop c40_8)
def c40_10 : ACode :=
  (.block 0 c40_9)
def c40_11 : ACode :=
  (.seq (.seq (.region false [⟨some 10, none, .fa 2 (.s 3)⟩,
    ⟨some 11, none, .ld false 1 (.s 10)⟩,
    ⟨some 12, none, .len (.s 11)⟩,
    ⟨some 13, none, .cst (.t (.int .i64 0))⟩] [] [1, 2, 7, 11, 12, 13]) c40_10) c40_0)
def c40_12 : ACode :=
  (.seq (.region false [⟨some 7, none, .cst (.nils)⟩] [] [1, 2, 3, 7]) c40_11)
def c40 : ACode :=
  (.seq (.region false [⟨some 3, none, .box 4 (.s 0)⟩,
    ⟨some 6, none, .cst (.nils)⟩] [] [1, 2, 3]) c40_12)
def r40 : List ARes := [.tmp 6]
def n40 : Nat := 35
/- 41 supergraph supergraphref25.Keys -/
/- 42 supergraph supergraphref25.SameJoin -/
/- 43 supergraph supergraphref25.Texts -/
/- 44 supergraph moves.Needs -/
/- 45 supergraph supergraphref25.Needs -/
/- 46 strings.Split -/
def c46_0 : ACode :=
  (.seq (.region false [⟨some 5, none, .mv (.s 0)⟩,
    ⟨some 6, none, .mv (.s 1)⟩,
    ⟨some 7, none, .call 69 [(.s 5), (.s 6), (.c (.t (.int .i64 0))), (.c (.t (.int .i64 (-1))))]⟩,
    ⟨some 4, none, .mv (.s 7)⟩] [] [4]) .ret)
def c46 : ACode :=
  (.seq (.region false [⟨some 4, none, .cst (.nils)⟩] [] [0, 1]) c46_0)
def r46 : List ARes := [.tmp 4]
def n46 : Nat := 8
/- 47 supergraph text.Name -/
def c47_0 : ACode :=
  (.seq (.region false [⟨some 2, none, .cst (.t (.bool true))⟩] [] [2]) .ret)
def c47_1 : ACode :=
  (.region false [⟨some 57, none, .bin .add (.s 24) (.c (.t (.int .i64 1)))⟩,
    ⟨some 24, none, .mv (.s 57)⟩] [] [0, 23, 24])
def c47_2 : ACode :=
  (.seq (.region false [⟨some 2, none, .cst (.t (.bool false))⟩] [] [2]) .ret)
def c47_3 : ACode :=
  (.cond (.s 56) c47_2 .skip)
def c47_4 : ACode :=
  (.seq (.region false [⟨some 30, none, .mv (.s 4)⟩,
    ⟨some 31, none, .bin .geq (.s 30) (.c (.t (.int .u8 97)))⟩,
    ⟨some 32, none, .mv (.s 31)⟩,
    ⟨some 33, some (32, true), .mv (.s 4)⟩,
    ⟨some 34, some (32, true), .bin .leq (.s 33) (.c (.t (.int .u8 122)))⟩,
    ⟨some 35, none, .pick (.s 32) (.s 34) (.c (.t (.bool false)))⟩,
    ⟨some 36, none, .mv (.s 35)⟩,
    ⟨some 37, some (36, false), .mv (.s 4)⟩,
    ⟨some 38, some (36, false), .bin .geq (.s 37) (.c (.t (.int .u8 65)))⟩,
    ⟨some 39, some (36, false), .mv (.s 38)⟩,
    ⟨some 40, some (39, true), .mv (.s 4)⟩,
    ⟨some 41, some (39, true), .bin .leq (.s 40) (.c (.t (.int .u8 90)))⟩,
    ⟨some 42, some (36, false), .pick (.s 39) (.s 41) (.c (.t (.bool false)))⟩,
    ⟨some 43, none, .pick (.s 36) (.c (.t (.bool true))) (.s 42)⟩,
    ⟨some 44, none, .mv (.s 43)⟩,
    ⟨some 45, some (44, false), .mv (.s 4)⟩,
    ⟨some 46, some (44, false), .bin .geq (.s 45) (.c (.t (.int .u8 48)))⟩,
    ⟨some 47, some (44, false), .mv (.s 46)⟩,
    ⟨some 48, some (47, true), .mv (.s 4)⟩,
    ⟨some 49, some (47, true), .bin .leq (.s 48) (.c (.t (.int .u8 57)))⟩,
    ⟨some 50, some (44, false), .pick (.s 47) (.s 49) (.c (.t (.bool false)))⟩,
    ⟨some 51, none, .pick (.s 44) (.c (.t (.bool true))) (.s 50)⟩,
    ⟨some 52, none, .mv (.s 51)⟩,
    ⟨some 53, some (52, false), .mv (.s 4)⟩,
    ⟨some 54, some (52, false), .bin .eql (.s 53) (.c (.t (.int .u8 95)))⟩,
    ⟨some 55, none, .pick (.s 52) (.c (.t (.bool true))) (.s 54)⟩,
    ⟨some 56, none, .un .not (.s 55)⟩] [] [0, 23, 24, 56]) c47_3)
def c47_5 : ACode :=
  (.seq (.region false [⟨some 27, none, .mv (.s 0)⟩,
    ⟨some 28, none, .mv (.s 3)⟩,
    ⟨some 29, none, .ixs (.s 27) (.s 28)⟩,
    ⟨some 4, none, .mv (.s 29)⟩] [] [0, 4, 23, 24]) c47_4)
def c47_6 : ACode :=
  (.seq (.region false [⟨some 26, none, .mv (.s 24)⟩,
    ⟨some 3, none, .mv (.s 26)⟩] [] [0, 3, 23, 24]) c47_5)
def c47_7 : ACode :=
  (.seq (.block 1 c47_6) c47_1)
def c47_8 : ACode :=
  (.seq (.cond (.s 25) .skip (.exit 0)) c47_7)
def c47_9 : ACode :=
  (.seq (.region false [⟨some 25, none, .bin .lss (.s 24) (.s 23)⟩] [] [0, 23, 24, 25]) c47_8)
def c47_10 : ACode :=
  (.loop c47_9)
def c47_11 : ACode :=
  (.block 0 c47_10)
def c47_12 : ACode :=
  (.seq (.seq (.region false [⟨some 22, none, .mv (.s 0)⟩,
    ⟨some 23, none, .lens (.s 22)⟩,
    ⟨some 24, none, .cst (.t (.int .i64 0))⟩] [] [0, 23, 24]) c47_11) c47_0)
def c47_13 : ACode :=
  (.seq (.region false [⟨some 2, none, .cst (.t (.bool false))⟩] [] [2]) .ret)
def c47_14 : ACode :=
  (.cond (.s 21) c47_13 .skip)
def c47_15 : ACode :=
  (.seq (.seq (.region false [⟨some 5, none, .mv (.s 0)⟩,
    ⟨some 6, none, .bin .eql (.s 5) (.c (.t (.str [])))⟩,
    ⟨some 7, none, .mv (.s 6)⟩,
    ⟨some 8, some (7, false), .mv (.s 0)⟩,
    ⟨some 9, some (7, false), .lens (.s 8)⟩,
    ⟨some 10, some (7, false), .bin .gtr (.s 9) (.c (.t (.int .i64 64)))⟩,
    ⟨some 11, none, .pick (.s 7) (.c (.t (.bool true))) (.s 10)⟩,
    ⟨some 12, none, .mv (.s 11)⟩,
    ⟨some 13, some (12, false), .mv (.s 0)⟩,
    ⟨some 14, some (12, false), .ixs (.s 13) (.c (.t (.int .i64 0)))⟩,
    ⟨some 15, some (12, false), .bin .geq (.s 14) (.c (.t (.int .u8 48)))⟩,
    ⟨some 16, some (12, false), .mv (.s 15)⟩,
    ⟨some 17, some (16, true), .mv (.s 0)⟩,
    ⟨some 18, some (16, true), .ixs (.s 17) (.c (.t (.int .i64 0)))⟩,
    ⟨some 19, some (16, true), .bin .leq (.s 18) (.c (.t (.int .u8 57)))⟩,
    ⟨some 20, some (12, false), .pick (.s 16) (.s 19) (.c (.t (.bool false)))⟩,
    ⟨some 21, none, .pick (.s 12) (.c (.t (.bool true))) (.s 20)⟩] [] [0, 21]) c47_14) c47_12)
def c47 : ACode :=
  (.seq (.region false [⟨some 2, none, .cst (.t (.bool false))⟩] [] [0]) c47_15)
def r47 : List ARes := [.tmp 2]
def n47 : Nat := 58
/- 48 supergraph text.Reserved -/
def c48_0 : ACode :=
  (.seq (.region false [⟨some 3, none, .mv (.s 0)⟩,
    ⟨some 4, none, .call 70 [(.s 3), (.c (.t (.str [95, 95])))]⟩,
    ⟨some 2, none, .mv (.s 4)⟩] [] [2]) .ret)
def c48 : ACode :=
  (.seq (.region false [⟨some 2, none, .cst (.t (.bool false))⟩] [] [0]) c48_0)
def r48 : List ARes := [.tmp 2]
def n48 : Nat := 5
/- 49 supergraph supergraphref23.split -/
def c49_0 : ACode :=
  (.seq (.region false [⟨some 31, none, .mv (.s 3)⟩,
    ⟨some 2, none, .mv (.s 31)⟩] [] [2]) .ret)
def c49_1 : ACode :=
  (.region false [⟨some 10, none, .mv (.s 5)⟩,
    ⟨some 11, none, .bin .add (.s 10) (.c (.t (.int .i64 1)))⟩,
    ⟨some 5, none, .mv (.s 11)⟩] [] [0, 3, 4, 5])
def c49_2 : ACode :=
  (.region false [⟨some 29, none, .mv (.s 5)⟩,
    ⟨some 30, none, .bin .add (.s 29) (.c (.t (.int .i64 1)))⟩,
    ⟨some 4, none, .mv (.s 30)⟩] [] [0, 3, 4, 5])
def c49_3 : ACode :=
  (.seq (.region false [⟨some 22, none, .mv (.s 3)⟩,
    ⟨some 23, none, .mv (.s 0)⟩,
    ⟨some 24, none, .mv (.s 4)⟩,
    ⟨some 25, none, .mv (.s 5)⟩,
    ⟨some 26, none, .sls (.s 23) (some (.s 24)) (some (.s 25))⟩,
    ⟨some 27, none, .bsl false 1 [[.str []]] [(0, (.s 26))]⟩,
    ⟨some 28, none, .app 1 16 (.s 22) (.s 27)⟩,
    ⟨some 3, none, .mv (.s 28)⟩] [] [0, 3, 5]) c49_2)
def c49_4 : ACode :=
  (.cond (.s 21) c49_3 .skip)
def c49_5 : ACode :=
  (.seq (.region false [⟨some 12, none, .mv (.s 5)⟩,
    ⟨some 13, none, .mv (.s 0)⟩,
    ⟨some 14, none, .lens (.s 13)⟩,
    ⟨some 15, none, .bin .eql (.s 12) (.s 14)⟩,
    ⟨some 16, none, .mv (.s 15)⟩,
    ⟨some 17, some (16, false), .mv (.s 0)⟩,
    ⟨some 18, some (16, false), .mv (.s 5)⟩,
    ⟨some 19, some (16, false), .ixs (.s 17) (.s 18)⟩,
    ⟨some 20, some (16, false), .bin .eql (.s 19) (.c (.t (.int .u8 32)))⟩,
    ⟨some 21, none, .pick (.s 16) (.c (.t (.bool true))) (.s 20)⟩] [] [0, 3, 4, 5, 21]) c49_4)
def c49_6 : ACode :=
  (.seq (.block 1 c49_5) c49_1)
def c49_7 : ACode :=
  (.cond (.s 9) .skip (.exit 0))
def c49_8 : ACode :=
  (.seq (.seq (.region false [⟨some 6, none, .mv (.s 5)⟩,
    ⟨some 7, none, .mv (.s 0)⟩,
    ⟨some 8, none, .lens (.s 7)⟩,
    ⟨some 9, none, .bin .leq (.s 6) (.s 8)⟩] [] [0, 3, 4, 5, 9]) c49_7) c49_6)
def c49_9 : ACode :=
  (.loop c49_8)
def c49_10 : ACode :=
  (.block 0 c49_9)
def c49_11 : ACode :=
  (.seq (.seq (.region false [⟨some 5, none, .cst (.t (.int .i64 0))⟩] [] [0, 3, 4, 5]) c49_10) c49_0)
def c49_12 : ACode :=
  (.seq (.region false [⟨some 4, none, .cst (.t (.int .i64 0))⟩] [] [0, 3, 4]) c49_11)
def c49_13 : ACode :=
  (.seq (.region false [⟨some 3, none, .cst (.nils)⟩] [] [0, 3]) c49_12)
def c49 : ACode :=
  (.seq (.region false [⟨some 2, none, .cst (.nils)⟩] [] [0]) c49_13)
def r49 : List ARes := [.tmp 2]
def n49 : Nat := 32
/- 50 supergraph supergraphref01.Name -/
def c50_0 : ACode :=
  (.seq (.region false [⟨some 2, none, .cst (.t (.bool true))⟩] [] [2]) .ret)
def c50_1 : ACode :=
  (.region false [⟨some 16, none, .mv (.s 3)⟩,
    ⟨some 17, none, .bin .add (.s 16) (.c (.t (.int .i64 1)))⟩,
    ⟨some 3, none, .mv (.s 17)⟩] [] [0, 3])
def c50_2 : ACode :=
  (.seq (.region false [⟨some 2, none, .cst (.t (.bool false))⟩] [] [2]) .ret)
def c50_3 : ACode :=
  (.cond (.s 33) c50_2 .skip)
def c50_4 : ACode :=
  (.seq (.region false [⟨some 18, none, .mv (.s 0)⟩,
    ⟨some 19, none, .mv (.s 3)⟩,
    ⟨some 20, none, .ixs (.s 18) (.s 19)⟩,
    ⟨some 21, none, .call 71 [(.s 20)]⟩,
    ⟨some 22, none, .un .not (.s 21)⟩,
    ⟨some 23, none, .mv (.s 22)⟩,
    ⟨some 24, some (23, true), .mv (.s 3)⟩,
    ⟨some 25, some (23, true), .bin .eql (.s 24) (.c (.t (.int .i64 0)))⟩,
    ⟨some 26, some (23, true), .mv (.s 25)⟩,
    ⟨some 27, some (26, false), .mv (.s 0)⟩,
    ⟨some 28, some (26, false), .mv (.s 3)⟩,
    ⟨some 29, some (26, false), .ixs (.s 27) (.s 28)⟩,
    ⟨some 30, some (26, false), .call 72 [(.s 29)]⟩,
    ⟨some 31, some (26, false), .un .not (.s 30)⟩,
    ⟨some 32, some (23, true), .pick (.s 26) (.c (.t (.bool true))) (.s 31)⟩,
    ⟨some 33, none, .pick (.s 23) (.s 32) (.c (.t (.bool false)))⟩] [] [0, 3, 33]) c50_3)
def c50_5 : ACode :=
  (.seq (.block 1 c50_4) c50_1)
def c50_6 : ACode :=
  (.cond (.s 15) .skip (.exit 0))
def c50_7 : ACode :=
  (.seq (.seq (.region false [⟨some 12, none, .mv (.s 3)⟩,
    ⟨some 13, none, .mv (.s 0)⟩,
    ⟨some 14, none, .lens (.s 13)⟩,
    ⟨some 15, none, .bin .lss (.s 12) (.s 14)⟩] [] [0, 3, 15]) c50_6) c50_5)
def c50_8 : ACode :=
  (.loop c50_7)
def c50_9 : ACode :=
  (.block 0 c50_8)
def c50_10 : ACode :=
  (.seq (.seq (.region false [⟨some 3, none, .cst (.t (.int .i64 0))⟩] [] [0, 3]) c50_9) c50_0)
def c50_11 : ACode :=
  (.seq (.region false [⟨some 2, none, .cst (.t (.bool false))⟩] [] [2]) .ret)
def c50_12 : ACode :=
  (.cond (.s 11) c50_11 .skip)
def c50_13 : ACode :=
  (.seq (.seq (.region false [⟨some 4, none, .mv (.s 0)⟩,
    ⟨some 5, none, .lens (.s 4)⟩,
    ⟨some 6, none, .bin .lss (.s 5) (.c (.t (.int .i64 1)))⟩,
    ⟨some 7, none, .mv (.s 6)⟩,
    ⟨some 8, some (7, false), .mv (.s 0)⟩,
    ⟨some 9, some (7, false), .lens (.s 8)⟩,
    ⟨some 10, some (7, false), .bin .gtr (.s 9) (.c (.t (.int .i64 64)))⟩,
    ⟨some 11, none, .pick (.s 7) (.c (.t (.bool true))) (.s 10)⟩] [] [0, 11]) c50_12) c50_10)
def c50 : ACode :=
  (.seq (.region false [⟨some 2, none, .cst (.t (.bool false))⟩] [] [0]) c50_13)
def r50 : List ARes := [.tmp 2]
def n50 : Nat := 34
/- 51 supergraph supergraphref01.Reserved -/
def c51_0 : ACode :=
  (.seq (.region false [⟨some 3, none, .mv (.s 0)⟩,
    ⟨some 4, none, .lens (.s 3)⟩,
    ⟨some 5, none, .bin .geq (.s 4) (.c (.t (.int .i64 2)))⟩,
    ⟨some 6, none, .mv (.s 5)⟩,
    ⟨some 7, some (6, true), .mv (.s 0)⟩,
    ⟨some 8, some (6, true), .ixs (.s 7) (.c (.t (.int .i64 0)))⟩,
    ⟨some 9, some (6, true), .bin .eql (.s 8) (.c (.t (.int .u8 95)))⟩,
    ⟨some 10, none, .pick (.s 6) (.s 9) (.c (.t (.bool false)))⟩,
    ⟨some 11, none, .mv (.s 10)⟩,
    ⟨some 12, some (11, true), .mv (.s 0)⟩,
    ⟨some 13, some (11, true), .ixs (.s 12) (.c (.t (.int .i64 1)))⟩,
    ⟨some 14, some (11, true), .bin .eql (.s 13) (.c (.t (.int .u8 95)))⟩,
    ⟨some 15, none, .pick (.s 11) (.s 14) (.c (.t (.bool false)))⟩,
    ⟨some 2, none, .mv (.s 15)⟩] [] [2]) .ret)
def c51 : ACode :=
  (.seq (.region false [⟨some 2, none, .cst (.t (.bool false))⟩] [] [0]) c51_0)
def r51 : List ARes := [.tmp 2]
def n51 : Nat := 16
/- 52 supergraph directives.uses -/
/- 53 supergraph supergraphref23.uses -/
def c53_0 : ACode :=
  (.seq (.region false [⟨some 52, none, .mv (.s 7)⟩,
    ⟨some 6, none, .mv (.s 52)⟩] [] [6]) .ret)
def c53_1 : ACode :=
  (.region false [⟨some 15, none, .mv (.s 8)⟩,
    ⟨some 16, none, .bin .add (.s 15) (.c (.t (.int .i64 1)))⟩,
    ⟨some 8, none, .mv (.s 16)⟩] [] [0, 1, 2, 7, 8])
def c53_2 : ACode :=
  (.region false [⟨some 46, none, .mv (.s 7)⟩,
    ⟨some 47, none, .mv (.s 10)⟩,
    ⟨some 48, none, .mv (.s 2)⟩,
    ⟨some 49, none, .build [.t (.int .i64 0), .t (.str [])] [(0, 1, (.s 47)), (1, 1, (.s 48))]⟩,
    ⟨some 50, none, .bsl false 2 [[.int .i64 0, .str []]] [(0, (.s 49))]⟩,
    ⟨some 51, none, .app 2 24 (.s 46) (.s 50)⟩,
    ⟨some 7, none, .mv (.s 51)⟩] [] [0, 1, 2, 7, 8])
def c53_3 : ACode :=
  (.cond (.s 45) c53_2 .skip)
def c53_4 : ACode :=
  (.seq (.region false [⟨some 44, none, .mv (.s 10)⟩,
    ⟨some 45, none, .bin .neq (.s 44) (.c (.t (.int .i64 0)))⟩] [] [0, 1, 2, 7, 8, 10, 45]) c53_3)
def c53_5 : ACode :=
  (.region false [⟨some 10, none, .cst (.t (.int .i64 29))⟩] [] [0, 1, 2, 7, 8, 10])
def c53_6 : ACode :=
  (.cond (.s 43) c53_5 .skip)
def c53_7 : ACode :=
  (.seq (.seq (.region false [⟨some 39, none, .fa 0 (.s 9)⟩,
    ⟨some 40, none, .ld false 1 (.s 39)⟩,
    ⟨some 41, none, .mv (.s 1)⟩,
    ⟨some 42, none, .call 75 [(.s 40), (.s 41)]⟩,
    ⟨some 43, none, .un .not (.s 42)⟩] [] [0, 1, 2, 7, 8, 10, 43]) c53_6) c53_4)
def c53_8 : ACode :=
  (.region false [⟨some 10, none, .cst (.t (.int .i64 7))⟩] [] [0, 1, 2, 7, 8, 9, 10])
def c53_9 : ACode :=
  (.cond (.s 38) c53_8 .skip)
def c53_10 : ACode :=
  (.seq (.seq (.region true [⟨some 23, none, .mv (.s 0)⟩,
    ⟨some 24, none, .mv (.s 8)⟩,
    ⟨some 25, none, .sll 2 (.s 23) none (some (.s 24))⟩,
    ⟨some 26, none, .fa 0 (.s 9)⟩,
    ⟨some 27, none, .ld false 1 (.s 26)⟩,
    ⟨some 28, none, .call 19 [(.s 25), (.s 27)]⟩,
    ⟨some 29, none, .mv (.s 28)⟩,
    ⟨some 30, some (29, true), .fa 0 (.s 9)⟩,
    ⟨some 31, some (29, true), .ld false 1 (.s 30)⟩,
    ⟨some 32, some (29, true), .bin .neq (.s 31) (.c (.t (.str [107, 101, 121])))⟩,
    ⟨some 33, none, .pick (.s 29) (.s 32) (.c (.t (.bool false)))⟩,
    ⟨some 34, none, .mv (.s 33)⟩,
    ⟨some 35, some (34, true), .fa 0 (.s 9)⟩,
    ⟨some 36, some (34, true), .ld false 1 (.s 35)⟩,
    ⟨some 37, some (34, true), .bin .neq (.s 36) (.c (.t (.str [116, 97, 103])))⟩,
    ⟨some 38, none, .pick (.s 34) (.s 37) (.c (.t (.bool false)))⟩] [[], [], [0, 1], [], [3], [2, 4], [5, 5], [6], [7, 6], [8, 6], [6, 9], [10, 6], [11], [12, 11], [13, 11], [11, 14]] [0, 1, 2, 7, 8, 9, 10, 38]) c53_9) c53_7)
def c53_11 : ACode :=
  (.seq (.region false [⟨some 21, none, .ld true 2 (.s 9)⟩,
    ⟨some 22, none, .call 74 [(.s 21)]⟩,
    ⟨some 10, none, .mv (.s 22)⟩] [] [0, 1, 2, 7, 8, 9, 10]) c53_10)
def c53_12 : ACode :=
  (.seq (.region false [⟨some 17, none, .mv (.s 0)⟩,
    ⟨some 18, none, .mv (.s 8)⟩,
    ⟨some 19, none, .ia 2 (.s 17) (.s 18)⟩,
    ⟨some 20, none, .ld true 2 (.s 19)⟩,
    ⟨some 9, none, .alloc [.t (.str []), .nils]⟩,
    ⟨none, none, .st 2 (.s 9) (.s 20)⟩] [] [0, 1, 2, 7, 8, 9]) c53_11)
def c53_13 : ACode :=
  (.seq (.block 1 c53_12) c53_1)
def c53_14 : ACode :=
  (.cond (.s 14) .skip (.exit 0))
def c53_15 : ACode :=
  (.seq (.seq (.region false [⟨some 11, none, .mv (.s 8)⟩,
    ⟨some 12, none, .mv (.s 0)⟩,
    ⟨some 13, none, .len (.s 12)⟩,
    ⟨some 14, none, .bin .lss (.s 11) (.s 13)⟩] [] [0, 1, 2, 7, 8, 14]) c53_14) c53_13)
def c53_16 : ACode :=
  (.loop c53_15)
def c53_17 : ACode :=
  (.block 0 c53_16)
def c53_18 : ACode :=
  (.seq (.seq (.region false [⟨some 8, none, .cst (.t (.int .i64 0))⟩] [] [0, 1, 2, 7, 8]) c53_17) c53_0)
def c53_19 : ACode :=
  (.seq (.region false [⟨some 7, none, .cst (.nils)⟩] [] [0, 1, 2, 7]) c53_18)
def c53 : ACode :=
  (.seq (.region false [⟨some 6, none, .cst (.nils)⟩] [] [0, 1, 2]) c53_19)
def r53 : List ARes := [.tmp 6]
def n53 : Nat := 53
/- 54 supergraph supergraphref23.fields -/
def c54_0 : ACode :=
  (.seq (.region false [⟨some 63, none, .mv (.s 3)⟩,
    ⟨some 2, none, .mv (.s 63)⟩] [] [2]) .ret)
def c54_1 : ACode :=
  (.region false [⟨some 17, none, .mv (.s 5)⟩,
    ⟨some 18, none, .bin .add (.s 17) (.c (.t (.int .i64 1)))⟩,
    ⟨some 5, none, .mv (.s 18)⟩] [] [1, 3, 4, 5])
def c54_2 : ACode :=
  (.region false [⟨some 42, none, .mv (.s 8)⟩,
    ⟨some 43, none, .bin .add (.s 42) (.c (.t (.int .i64 1)))⟩,
    ⟨some 8, none, .mv (.s 43)⟩] [] [1, 3, 4, 5, 6, 7, 8])
def c54_3 : ACode :=
  (.region true [⟨some 44, none, .mv (.s 3)⟩,
    ⟨some 45, none, .fa 1 (.s 6)⟩,
    ⟨some 46, none, .ld false 1 (.s 45)⟩,
    ⟨some 47, none, .mv (.s 8)⟩,
    ⟨some 48, none, .ia 10 (.s 46) (.s 47)⟩,
    ⟨some 49, none, .fa 9 (.s 48)⟩,
    ⟨some 50, none, .ld false 1 (.s 49)⟩,
    ⟨some 51, none, .mv (.s 7)⟩,
    ⟨some 52, none, .bin .add (.s 51) (.c (.t (.str [40])))⟩,
    ⟨some 53, none, .fa 1 (.s 6)⟩,
    ⟨some 54, none, .ld false 1 (.s 53)⟩,
    ⟨some 55, none, .mv (.s 8)⟩,
    ⟨some 56, none, .ia 10 (.s 54) (.s 55)⟩,
    ⟨some 57, none, .fa 0 (.s 56)⟩,
    ⟨some 58, none, .ld false 1 (.s 57)⟩,
    ⟨some 59, none, .bin .add (.s 52) (.s 58)⟩,
    ⟨some 60, none, .bin .add (.s 59) (.c (.t (.str [41])))⟩,
    ⟨some 61, none, .call 53 [(.s 50), (.c (.t (.int .i64 6))), (.s 60)]⟩,
    ⟨some 62, none, .app 2 24 (.s 44) (.s 61)⟩,
    ⟨some 3, none, .mv (.s 62)⟩] [[], [], [1], [], [2, 3], [4], [5], [], [7], [], [9], [], [10, 11], [12], [13], [8, 14], [15], [6, 16], [0, 17, 17], [18, 18, 0, 1, 2, 3, 4, 5, 6, 7, 8, 9, 10, 11, 12, 13, 14, 15, 16, 17, 18]] [1, 3, 4, 5, 6, 7, 8])
def c54_4 : ACode :=
  (.seq (.block 3 c54_3) c54_2)
def c54_5 : ACode :=
  (.cond (.s 41) .skip (.exit 2))
def c54_6 : ACode :=
  (.seq (.seq (.region false [⟨some 37, none, .mv (.s 8)⟩,
    ⟨some 38, none, .fa 1 (.s 6)⟩,
    ⟨some 39, none, .ld false 1 (.s 38)⟩,
    ⟨some 40, none, .len (.s 39)⟩,
    ⟨some 41, none, .bin .lss (.s 37) (.s 40)⟩] [] [1, 3, 4, 5, 6, 7, 8, 41]) c54_5) c54_4)
def c54_7 : ACode :=
  (.loop c54_6)
def c54_8 : ACode :=
  (.block 2 c54_7)
def c54_9 : ACode :=
  (.seq (.region false [⟨some 8, none, .cst (.t (.int .i64 0))⟩] [] [1, 3, 4, 5, 6, 7, 8]) c54_8)
def c54_10 : ACode :=
  (.seq (.region false [⟨some 30, none, .mv (.s 3)⟩,
    ⟨some 31, none, .fa 4 (.s 6)⟩,
    ⟨some 32, none, .ld false 1 (.s 31)⟩,
    ⟨some 33, none, .mv (.s 4)⟩,
    ⟨some 34, none, .mv (.s 7)⟩,
    ⟨some 35, none, .call 53 [(.s 32), (.s 33), (.s 34)]⟩,
    ⟨some 36, none, .app 2 24 (.s 30) (.s 35)⟩,
    ⟨some 3, none, .mv (.s 36)⟩] [] [1, 3, 4, 5, 6, 7]) c54_9)
def c54_11 : ACode :=
  (.seq (.region false [⟨some 24, none, .fa 1 (.s 1)⟩,
    ⟨some 25, none, .ld false 1 (.s 24)⟩,
    ⟨some 26, none, .bin .add (.s 25) (.c (.t (.str [46])))⟩,
    ⟨some 27, none, .fa 0 (.s 6)⟩,
    ⟨some 28, none, .ld false 1 (.s 27)⟩,
    ⟨some 29, none, .bin .add (.s 26) (.s 28)⟩,
    ⟨some 7, none, .mv (.s 29)⟩] [] [1, 3, 4, 5, 6, 7]) c54_10)
def c54_12 : ACode :=
  (.seq (.region false [⟨some 19, none, .fa 4 (.s 1)⟩,
    ⟨some 20, none, .ld false 1 (.s 19)⟩,
    ⟨some 21, none, .mv (.s 5)⟩,
    ⟨some 22, none, .ia 5 (.s 20) (.s 21)⟩,
    ⟨some 23, none, .ld true 5 (.s 22)⟩,
    ⟨some 6, none, .alloc [.t (.str []), .nils, .t (.str []), .nils, .nils]⟩,
    ⟨none, none, .st 5 (.s 6) (.s 23)⟩] [] [1, 3, 4, 5, 6]) c54_11)
def c54_13 : ACode :=
  (.seq (.block 1 c54_12) c54_1)
def c54_14 : ACode :=
  (.cond (.s 16) .skip (.exit 0))
def c54_15 : ACode :=
  (.seq (.seq (.region false [⟨some 12, none, .mv (.s 5)⟩,
    ⟨some 13, none, .fa 4 (.s 1)⟩,
    ⟨some 14, none, .ld false 1 (.s 13)⟩,
    ⟨some 15, none, .len (.s 14)⟩,
    ⟨some 16, none, .bin .lss (.s 12) (.s 15)⟩] [] [1, 3, 4, 5, 16]) c54_14) c54_13)
def c54_16 : ACode :=
  (.loop c54_15)
def c54_17 : ACode :=
  (.block 0 c54_16)
def c54_18 : ACode :=
  (.seq (.seq (.region false [⟨some 5, none, .cst (.t (.int .i64 0))⟩] [] [1, 3, 4, 5]) c54_17) c54_0)
def c54_19 : ACode :=
  (.region false [⟨some 4, none, .cst (.t (.int .i64 4))⟩] [] [1, 3, 4])
def c54_20 : ACode :=
  (.cond (.s 11) c54_19 .skip)
def c54_21 : ACode :=
  (.seq (.seq (.region false [⟨some 9, none, .fa 0 (.s 1)⟩,
    ⟨some 10, none, .ld false 1 (.s 9)⟩,
    ⟨some 11, none, .bin .eql (.s 10) (.c (.t (.int .i64 2)))⟩] [] [1, 3, 4, 11]) c54_20) c54_18)
def c54_22 : ACode :=
  (.seq (.region false [⟨some 4, none, .cst (.t (.int .i64 3))⟩] [] [1, 3, 4]) c54_21)
def c54_23 : ACode :=
  (.seq (.region false [⟨some 3, none, .cst (.nils)⟩] [] [1, 3]) c54_22)
def c54 : ACode :=
  (.seq (.region false [⟨some 1, none, .box 7 (.s 0)⟩,
    ⟨some 2, none, .cst (.nils)⟩] [] [1]) c54_23)
def r54 : List ARes := [.tmp 2]
def n54 : Nat := 64
/- 55 supergraph supergraphref23.members -/
def c55_0 : ACode :=
  (.seq (.region false [⟨some 34, none, .mv (.s 5)⟩,
    ⟨some 4, none, .mv (.s 34)⟩] [] [4]) .ret)
def c55_1 : ACode :=
  (.region false [⟨some 12, none, .mv (.s 6)⟩,
    ⟨some 13, none, .bin .add (.s 12) (.c (.t (.int .i64 1)))⟩,
    ⟨some 6, none, .mv (.s 13)⟩] [] [1, 2, 5, 6])
def c55_2 : ACode :=
  (.region true [⟨some 14, none, .mv (.s 5)⟩,
    ⟨some 15, none, .fa 5 (.s 2)⟩,
    ⟨some 16, none, .ld false 1 (.s 15)⟩,
    ⟨some 17, none, .mv (.s 6)⟩,
    ⟨some 18, none, .ia 2 (.s 16) (.s 17)⟩,
    ⟨some 19, none, .fa 1 (.s 18)⟩,
    ⟨some 20, none, .ld false 1 (.s 19)⟩,
    ⟨some 21, none, .mv (.s 1)⟩,
    ⟨some 22, none, .fa 1 (.s 2)⟩,
    ⟨some 23, none, .ld false 1 (.s 22)⟩,
    ⟨some 24, none, .bin .add (.s 23) (.c (.t (.str [46])))⟩,
    ⟨some 25, none, .fa 5 (.s 2)⟩,
    ⟨some 26, none, .ld false 1 (.s 25)⟩,
    ⟨some 27, none, .mv (.s 6)⟩,
    ⟨some 28, none, .ia 2 (.s 26) (.s 27)⟩,
    ⟨some 29, none, .fa 0 (.s 28)⟩,
    ⟨some 30, none, .ld false 1 (.s 29)⟩,
    ⟨some 31, none, .bin .add (.s 24) (.s 30)⟩,
    ⟨some 32, none, .call 53 [(.s 20), (.s 21), (.s 31)]⟩,
    ⟨some 33, none, .app 2 24 (.s 14) (.s 32)⟩,
    ⟨some 5, none, .mv (.s 33)⟩] [[], [], [1], [], [2, 3], [4], [5], [], [], [8], [9], [], [11], [], [12, 13], [14], [15], [10, 16], [6, 7, 17], [0, 18, 18], [19, 19, 0, 1, 2, 3, 4, 5, 6, 7, 8, 9, 10, 11, 12, 13, 14, 15, 16, 17, 18, 19]] [1, 2, 5, 6])
def c55_3 : ACode :=
  (.seq (.block 1 c55_2) c55_1)
def c55_4 : ACode :=
  (.cond (.s 11) .skip (.exit 0))
def c55_5 : ACode :=
  (.seq (.seq (.region false [⟨some 7, none, .mv (.s 6)⟩,
    ⟨some 8, none, .fa 5 (.s 2)⟩,
    ⟨some 9, none, .ld false 1 (.s 8)⟩,
    ⟨some 10, none, .len (.s 9)⟩,
    ⟨some 11, none, .bin .lss (.s 7) (.s 10)⟩] [] [1, 2, 5, 6, 11]) c55_4) c55_3)
def c55_6 : ACode :=
  (.loop c55_5)
def c55_7 : ACode :=
  (.block 0 c55_6)
def c55_8 : ACode :=
  (.seq (.seq (.region false [⟨some 6, none, .cst (.t (.int .i64 0))⟩] [] [1, 2, 5, 6]) c55_7) c55_0)
def c55_9 : ACode :=
  (.seq (.region false [⟨some 5, none, .cst (.nils)⟩] [] [1, 2, 5]) c55_8)
def c55 : ACode :=
  (.seq (.region false [⟨some 2, none, .box 7 (.s 0)⟩,
    ⟨some 4, none, .cst (.nils)⟩] [] [1, 2]) c55_9)
def r55 : List ARes := [.tmp 4]
def n55 : Nat := 35
/- 56 supergraph directives.argument -/
def c56_0 : ACode :=
  (.seq (.region false [⟨some 22, none, .build [.t (.int .i64 0), .t (.int .i64 0), .t (.str []), .nils, .nils] []⟩,
    ⟨none, none, .st 5 (.s 4) (.s 22)⟩,
    ⟨some 5, none, .cst (.t (.bool false))⟩] [] [4, 5]) .ret)
def c56_1 : ACode :=
  (.region false [⟨some 21, none, .bin .add (.s 11) (.c (.t (.int .i64 1)))⟩,
    ⟨some 11, none, .mv (.s 21)⟩] [] [1, 4, 9, 10, 11])
def c56_2 : ACode :=
  (.seq (.region false [⟨some 19, none, .fa 1 (.s 7)⟩,
    ⟨some 20, none, .ld true 5 (.s 19)⟩,
    ⟨none, none, .st 5 (.s 4) (.s 20)⟩,
    ⟨some 5, none, .cst (.t (.bool true))⟩] [] [4, 5]) .ret)
def c56_3 : ACode :=
  (.cond (.s 18) c56_2 .skip)
def c56_4 : ACode :=
  (.seq (.region false [⟨some 15, none, .fa 0 (.s 7)⟩,
    ⟨some 16, none, .ld false 1 (.s 15)⟩,
    ⟨some 17, none, .mv (.s 1)⟩,
    ⟨some 18, none, .bin .eql (.s 16) (.s 17)⟩] [] [1, 4, 7, 9, 10, 11, 18]) c56_3)
def c56_5 : ACode :=
  (.seq (.region false [⟨some 13, none, .ia 6 (.s 9) (.s 11)⟩,
    ⟨some 14, none, .ld true 6 (.s 13)⟩,
    ⟨some 7, none, .alloc [.t (.str []), .t (.int .i64 0), .t (.int .i64 0), .t (.str []), .nils, .nils]⟩,
    ⟨none, none, .st 6 (.s 7) (.s 14)⟩] [] [1, 4, 7, 9, 10, 11]) c56_4)
def c56_6 : ACode :=
  (.seq (.block 1 c56_5) c56_1)
def c56_7 : ACode :=
  (.seq (.cond (.s 12) .skip (.exit 0)) c56_6)
def c56_8 : ACode :=
  (.seq (.region false [⟨some 12, none, .bin .lss (.s 11) (.s 10)⟩] [] [1, 4, 9, 10, 11, 12]) c56_7)
def c56_9 : ACode :=
  (.loop c56_8)
def c56_10 : ACode :=
  (.block 0 c56_9)
def c56_11 : ACode :=
  (.seq (.seq (.region false [⟨some 8, none, .fa 1 (.s 2)⟩,
    ⟨some 9, none, .ld false 1 (.s 8)⟩,
    ⟨some 10, none, .len (.s 9)⟩,
    ⟨some 11, none, .cst (.t (.int .i64 0))⟩] [] [1, 4, 9, 10, 11]) c56_10) c56_0)
def c56 : ACode :=
  (.seq (.region false [⟨some 2, none, .box 2 (.s 0)⟩,
    ⟨some 4, none, .alloc [.t (.int .i64 0), .t (.int .i64 0), .t (.str []), .nils, .nils]⟩,
    ⟨some 5, none, .cst (.t (.bool false))⟩] [] [1, 2, 4]) c56_11)
def r56 : List ARes := [.cell 4 true 5, .tmp 5]
def n56 : Nat := 23
/- 57 supergraph supergraphref23.argument -/
def c57_0 : ACode :=
  (.seq (.region false [⟨some 28, none, .build [.t (.int .i64 0), .t (.int .i64 0), .t (.str []), .nils, .nils] []⟩,
    ⟨none, none, .st 5 (.s 4) (.s 28)⟩,
    ⟨some 5, none, .cst (.t (.bool false))⟩] [] [4, 5]) .ret)
def c57_1 : ACode :=
  (.region false [⟨some 12, none, .mv (.s 6)⟩,
    ⟨some 13, none, .bin .add (.s 12) (.c (.t (.int .i64 1)))⟩,
    ⟨some 6, none, .mv (.s 13)⟩] [] [1, 2, 4, 6])
def c57_2 : ACode :=
  (.seq (.region false [⟨some 22, none, .fa 1 (.s 2)⟩,
    ⟨some 23, none, .ld false 1 (.s 22)⟩,
    ⟨some 24, none, .mv (.s 6)⟩,
    ⟨some 25, none, .ia 6 (.s 23) (.s 24)⟩,
    ⟨some 26, none, .fa 1 (.s 25)⟩,
    ⟨some 27, none, .ld true 5 (.s 26)⟩,
    ⟨none, none, .st 5 (.s 4) (.s 27)⟩,
    ⟨some 5, none, .cst (.t (.bool true))⟩] [] [4, 5]) .ret)
def c57_3 : ACode :=
  (.cond (.s 21) c57_2 .skip)
def c57_4 : ACode :=
  (.seq (.region false [⟨some 14, none, .fa 1 (.s 2)⟩,
    ⟨some 15, none, .ld false 1 (.s 14)⟩,
    ⟨some 16, none, .mv (.s 6)⟩,
    ⟨some 17, none, .ia 6 (.s 15) (.s 16)⟩,
    ⟨some 18, none, .fa 0 (.s 17)⟩,
    ⟨some 19, none, .ld false 1 (.s 18)⟩,
    ⟨some 20, none, .mv (.s 1)⟩,
    ⟨some 21, none, .bin .eql (.s 19) (.s 20)⟩] [] [1, 2, 4, 6, 21]) c57_3)
def c57_5 : ACode :=
  (.seq (.block 1 c57_4) c57_1)
def c57_6 : ACode :=
  (.cond (.s 11) .skip (.exit 0))
def c57_7 : ACode :=
  (.seq (.seq (.region false [⟨some 7, none, .mv (.s 6)⟩,
    ⟨some 8, none, .fa 1 (.s 2)⟩,
    ⟨some 9, none, .ld false 1 (.s 8)⟩,
    ⟨some 10, none, .len (.s 9)⟩,
    ⟨some 11, none, .bin .lss (.s 7) (.s 10)⟩] [] [1, 2, 4, 6, 11]) c57_6) c57_5)
def c57_8 : ACode :=
  (.loop c57_7)
def c57_9 : ACode :=
  (.block 0 c57_8)
def c57_10 : ACode :=
  (.seq (.seq (.region false [⟨some 6, none, .cst (.t (.int .i64 0))⟩] [] [1, 2, 4, 6]) c57_9) c57_0)
def c57 : ACode :=
  (.seq (.region false [⟨some 2, none, .box 2 (.s 0)⟩,
    ⟨some 4, none, .alloc [.t (.int .i64 0), .t (.int .i64 0), .t (.str []), .nils, .nils]⟩,
    ⟨some 5, none, .cst (.t (.bool false))⟩] [] [1, 2, 4]) c57_10)
def r57 : List ARes := [.cell 4 true 5, .tmp 5]
def n57 : Nat := 29
/- 58 supergraph supergraphref25.Size -/
def c58_0 : ACode :=
  (.seq (.region false [⟨some 79, none, .mv (.s 5)⟩,
    ⟨some 4, none, .mv (.s 79)⟩] [] [4]) .ret)
def c58_1 : ACode :=
  (.region false [⟨some 22, none, .mv (.s 6)⟩,
    ⟨some 23, none, .bin .add (.s 22) (.c (.t (.int .i64 1)))⟩,
    ⟨some 6, none, .mv (.s 23)⟩] [] [1, 2, 5, 6])
def c58_2 : ACode :=
  (.region false [⟨some 60, none, .mv (.s 8)⟩,
    ⟨some 61, none, .bin .add (.s 60) (.c (.t (.int .i64 1)))⟩,
    ⟨some 8, none, .mv (.s 61)⟩] [] [1, 2, 5, 6, 7, 8])
def c58_3 : ACode :=
  (.region true [⟨some 62, none, .mv (.s 5)⟩,
    ⟨some 63, none, .fa 4 (.s 7)⟩,
    ⟨some 64, none, .ld false 1 (.s 63)⟩,
    ⟨some 65, none, .mv (.s 8)⟩,
    ⟨some 66, none, .ia 5 (.s 64) (.s 65)⟩,
    ⟨some 67, none, .fa 1 (.s 66)⟩,
    ⟨some 68, none, .ld false 1 (.s 67)⟩,
    ⟨some 69, none, .len (.s 68)⟩,
    ⟨some 70, none, .bin .add (.s 62) (.s 69)⟩,
    ⟨some 71, none, .fa 4 (.s 7)⟩,
    ⟨some 72, none, .ld false 1 (.s 71)⟩,
    ⟨some 73, none, .mv (.s 8)⟩,
    ⟨some 74, none, .ia 5 (.s 72) (.s 73)⟩,
    ⟨some 75, none, .fa 4 (.s 74)⟩,
    ⟨some 76, none, .ld false 1 (.s 75)⟩,
    ⟨some 77, none, .len (.s 76)⟩,
    ⟨some 78, none, .bin .add (.s 70) (.s 77)⟩,
    ⟨some 5, none, .mv (.s 78)⟩] [[], [], [1], [], [2, 3], [4], [5], [6], [0, 7], [], [9], [], [10, 11], [12], [13], [14], [8, 15], [16, 0, 1, 2, 3, 4, 5, 6, 7, 8, 9, 10, 11, 12, 13, 14, 15, 16]] [1, 2, 5, 6, 7, 8])
def c58_4 : ACode :=
  (.seq (.block 3 c58_3) c58_2)
def c58_5 : ACode :=
  (.cond (.s 59) .skip (.exit 2))
def c58_6 : ACode :=
  (.seq (.seq (.region false [⟨some 50, none, .mv (.s 8)⟩,
    ⟨some 51, none, .fa 4 (.s 7)⟩,
    ⟨some 52, none, .ld false 1 (.s 51)⟩,
    ⟨some 53, none, .len (.s 52)⟩,
    ⟨some 54, none, .bin .lss (.s 50) (.s 53)⟩,
    ⟨some 55, none, .mv (.s 54)⟩,
    ⟨some 56, some (55, true), .mv (.s 5)⟩,
    ⟨some 57, some (55, true), .mv (.s 1)⟩,
    ⟨some 58, some (55, true), .bin .leq (.s 56) (.s 57)⟩,
    ⟨some 59, none, .pick (.s 55) (.s 58) (.c (.t (.bool false)))⟩] [] [1, 2, 5, 6, 7, 8, 59]) c58_5) c58_4)
def c58_7 : ACode :=
  (.loop c58_6)
def c58_8 : ACode :=
  (.block 2 c58_7)
def c58_9 : ACode :=
  (.seq (.region false [⟨some 8, none, .cst (.t (.int .i64 0))⟩] [] [1, 2, 5, 6, 7, 8]) c58_8)
def c58_10 : ACode :=
  (.seq (.region false [⟨some 29, none, .mv (.s 5)⟩,
    ⟨some 30, none, .fa 2 (.s 7)⟩,
    ⟨some 31, none, .ld false 1 (.s 30)⟩,
    ⟨some 32, none, .len (.s 31)⟩,
    ⟨some 33, none, .bin .add (.s 29) (.s 32)⟩,
    ⟨some 34, none, .fa 3 (.s 7)⟩,
    ⟨some 35, none, .ld false 1 (.s 34)⟩,
    ⟨some 36, none, .len (.s 35)⟩,
    ⟨some 37, none, .bin .add (.s 33) (.s 36)⟩,
    ⟨some 38, none, .fa 4 (.s 7)⟩,
    ⟨some 39, none, .ld false 1 (.s 38)⟩,
    ⟨some 40, none, .len (.s 39)⟩,
    ⟨some 41, none, .bin .add (.s 37) (.s 40)⟩,
    ⟨some 42, none, .fa 5 (.s 7)⟩,
    ⟨some 43, none, .ld false 1 (.s 42)⟩,
    ⟨some 44, none, .len (.s 43)⟩,
    ⟨some 45, none, .bin .add (.s 41) (.s 44)⟩,
    ⟨some 46, none, .fa 6 (.s 7)⟩,
    ⟨some 47, none, .ld false 1 (.s 46)⟩,
    ⟨some 48, none, .len (.s 47)⟩,
    ⟨some 49, none, .bin .add (.s 45) (.s 48)⟩,
    ⟨some 5, none, .mv (.s 49)⟩] [] [1, 2, 5, 6, 7]) c58_9)
def c58_11 : ACode :=
  (.seq (.region false [⟨some 24, none, .fa 0 (.s 2)⟩,
    ⟨some 25, none, .ld false 1 (.s 24)⟩,
    ⟨some 26, none, .mv (.s 6)⟩,
    ⟨some 27, none, .ia 7 (.s 25) (.s 26)⟩,
    ⟨some 28, none, .ld true 7 (.s 27)⟩,
    ⟨some 7, none, .alloc [.t (.int .i64 0), .t (.str []), .nils, .nils, .nils, .nils, .nils]⟩,
    ⟨none, none, .st 7 (.s 7) (.s 28)⟩] [] [1, 2, 5, 6, 7]) c58_10)
def c58_12 : ACode :=
  (.seq (.block 1 c58_11) c58_1)
def c58_13 : ACode :=
  (.cond (.s 21) .skip (.exit 0))
def c58_14 : ACode :=
  (.seq (.seq (.region false [⟨some 12, none, .mv (.s 6)⟩,
    ⟨some 13, none, .fa 0 (.s 2)⟩,
    ⟨some 14, none, .ld false 1 (.s 13)⟩,
    ⟨some 15, none, .len (.s 14)⟩,
    ⟨some 16, none, .bin .lss (.s 12) (.s 15)⟩,
    ⟨some 17, none, .mv (.s 16)⟩,
    ⟨some 18, some (17, true), .mv (.s 5)⟩,
    ⟨some 19, some (17, true), .mv (.s 1)⟩,
    ⟨some 20, some (17, true), .bin .leq (.s 18) (.s 19)⟩,
    ⟨some 21, none, .pick (.s 17) (.s 20) (.c (.t (.bool false)))⟩] [] [1, 2, 5, 6, 21]) c58_13) c58_12)
def c58_15 : ACode :=
  (.loop c58_14)
def c58_16 : ACode :=
  (.block 0 c58_15)
def c58_17 : ACode :=
  (.seq (.seq (.region false [⟨some 6, none, .cst (.t (.int .i64 0))⟩] [] [1, 2, 5, 6]) c58_16) c58_0)
def c58_18 : ACode :=
  (.seq (.region false [⟨some 9, none, .fa 0 (.s 2)⟩,
    ⟨some 10, none, .ld false 1 (.s 9)⟩,
    ⟨some 11, none, .len (.s 10)⟩,
    ⟨some 5, none, .mv (.s 11)⟩] [] [1, 2, 5]) c58_17)
def c58 : ACode :=
  (.seq (.region false [⟨some 2, none, .box 1 (.s 0)⟩,
    ⟨some 4, none, .cst (.t (.int .i64 0))⟩] [] [1, 2]) c58_18)
def r58 : List ARes := [.tmp 4]
def n58 : Nat := 80
/- 59 supergraph supergraphref10.Check -/
def c59_0 : ACode :=
  (.seq (.region false [⟨some 68, none, .mv (.s 5)⟩,
    ⟨some 4, none, .mv (.s 68)⟩] [] [4]) .ret)
def c59_1 : ACode :=
  (.region false [⟨some 64, none, .mv (.s 5)⟩,
    ⟨some 65, none, .build [.t (.int .i64 0), .t (.str [])] [(0, 1, (.c (.t (.int .i64 30)))), (1, 1, (.c (.t (.str [81, 117, 101, 114, 121]))))]⟩,
    ⟨some 66, none, .bsl false 2 [[.int .i64 0, .str []]] [(0, (.s 65))]⟩,
    ⟨some 67, none, .app 2 24 (.s 64) (.s 66)⟩,
    ⟨some 5, none, .mv (.s 67)⟩] [] [5])
def c59_2 : ACode :=
  (.cond (.s 63) c59_1 .skip)
def c59_3 : ACode :=
  (.seq (.seq (.region false [⟨some 59, none, .mv (.s 1)⟩,
    ⟨some 60, none, .mv (.s 59)⟩,
    ⟨some 61, some (60, true), .mv (.s 9)⟩,
    ⟨some 62, some (60, true), .un .not (.s 61)⟩,
    ⟨some 63, none, .pick (.s 60) (.s 62) (.c (.t (.bool false)))⟩] [] [5, 63]) c59_2) c59_0)
def c59_4 : ACode :=
  (.seq (.region false [⟨some 55, none, .ld true 1 (.s 2)⟩,
    ⟨some 56, none, .call 80 [(.s 55), (.c (.t (.str [81, 117, 101, 114, 121])))]⟩,
    ⟨some 54, none, .mv (.s 56)⟩,
    ⟨some 57, none, .ext (.s 54) 0⟩,
    ⟨some 58, none, .ext (.s 54) 1⟩,
    ⟨some 8, none, .alloc [.t (.int .i64 0), .t (.str []), .nils, .nils, .nils, .nils, .nils]⟩,
    ⟨none, none, .st 7 (.s 8) (.s 57)⟩,
    ⟨some 9, none, .mv (.s 58)⟩] [] [1, 5, 9]) c59_3)
def c59_5 : ACode :=
  (.region false [⟨some 15, none, .mv (.s 6)⟩,
    ⟨some 16, none, .bin .add (.s 15) (.c (.t (.int .i64 1)))⟩,
    ⟨some 6, none, .mv (.s 16)⟩] [] [1, 2, 5, 6])
def c59_6 : ACode :=
  (.region false [⟨some 32, none, .mv (.s 5)⟩,
    ⟨some 33, none, .ld true 1 (.s 2)⟩,
    ⟨some 34, none, .ld true 7 (.s 7)⟩,
    ⟨some 35, none, .call 77 [(.s 33), (.s 34)]⟩,
    ⟨some 36, none, .app 2 24 (.s 32) (.s 35)⟩,
    ⟨some 5, none, .mv (.s 36)⟩] [] [1, 2, 5, 6])
def c59_7 : ACode :=
  (.region false [⟨some 39, none, .mv (.s 5)⟩,
    ⟨some 40, none, .ld true 7 (.s 7)⟩,
    ⟨some 41, none, .call 78 [(.s 40)]⟩,
    ⟨some 42, none, .app 2 24 (.s 39) (.s 41)⟩,
    ⟨some 5, none, .mv (.s 42)⟩] [] [1, 2, 5, 6])
def c59_8 : ACode :=
  (.region false [⟨some 45, none, .mv (.s 5)⟩,
    ⟨some 46, none, .ld true 1 (.s 2)⟩,
    ⟨some 47, none, .fa 6 (.s 7)⟩,
    ⟨some 48, none, .ld false 1 (.s 47)⟩,
    ⟨some 49, none, .fa 1 (.s 7)⟩,
    ⟨some 50, none, .ld false 1 (.s 49)⟩,
    ⟨some 51, none, .bin .add (.s 50) (.c (.t (.str [46])))⟩,
    ⟨some 52, none, .call 79 [(.s 46), (.s 48), (.s 51), (.c (.t (.str [])))]⟩,
    ⟨some 53, none, .app 2 24 (.s 45) (.s 52)⟩,
    ⟨some 5, none, .mv (.s 53)⟩] [] [1, 2, 5, 6])
def c59_9 : ACode :=
  (.cond (.s 43) c59_8 .skip)
def c59_10 : ACode :=
  (.seq (.region false [⟨some 44, none, .bin .eql (.s 28) (.c (.t (.int .i64 5)))⟩,
    ⟨some 43, none, .mv (.s 44)⟩] [] [1, 2, 5, 6, 7, 43]) c59_9)
def c59_11 : ACode :=
  (.cond (.s 37) c59_7 c59_10)
def c59_12 : ACode :=
  (.seq (.region false [⟨some 38, none, .bin .eql (.s 28) (.c (.t (.int .i64 4)))⟩,
    ⟨some 37, none, .mv (.s 38)⟩] [] [1, 2, 5, 6, 7, 28, 37]) c59_11)
def c59_13 : ACode :=
  (.cond (.s 29) c59_6 c59_12)
def c59_14 : ACode :=
  (.region false [⟨some 31, none, .bin .eql (.s 28) (.c (.t (.int .i64 2)))⟩,
    ⟨some 29, none, .mv (.s 31)⟩] [] [1, 2, 5, 6, 7, 28, 29])
def c59_15 : ACode :=
  (.cond (.s 29) .skip c59_14)
def c59_16 : ACode :=
  (.seq (.seq (.region false [⟨some 30, none, .bin .eql (.s 28) (.c (.t (.int .i64 1)))⟩,
    ⟨some 29, none, .mv (.s 30)⟩] [] [1, 2, 5, 6, 7, 28, 29]) c59_15) c59_13)
def c59_17 : ACode :=
  (.block 2 c59_16)
def c59_18 : ACode :=
  (.seq (.region false [⟨some 27, none, .fa 0 (.s 7)⟩,
    ⟨some 28, none, .ld false 1 (.s 27)⟩] [] [1, 2, 5, 6, 7, 28]) c59_17)
def c59_19 : ACode :=
  (.seq (.region false [⟨some 22, none, .mv (.s 5)⟩,
    ⟨some 23, none, .ld true 1 (.s 2)⟩,
    ⟨some 24, none, .mv (.s 6)⟩,
    ⟨some 25, none, .call 76 [(.s 23), (.s 24)]⟩,
    ⟨some 26, none, .app 2 24 (.s 22) (.s 25)⟩,
    ⟨some 5, none, .mv (.s 26)⟩] [] [1, 2, 5, 6, 7]) c59_18)
def c59_20 : ACode :=
  (.seq (.region false [⟨some 17, none, .fa 0 (.s 2)⟩,
    ⟨some 18, none, .ld false 1 (.s 17)⟩,
    ⟨some 19, none, .mv (.s 6)⟩,
    ⟨some 20, none, .ia 7 (.s 18) (.s 19)⟩,
    ⟨some 21, none, .ld true 7 (.s 20)⟩,
    ⟨some 7, none, .alloc [.t (.int .i64 0), .t (.str []), .nils, .nils, .nils, .nils, .nils]⟩,
    ⟨none, none, .st 7 (.s 7) (.s 21)⟩] [] [1, 2, 5, 6, 7]) c59_19)
def c59_21 : ACode :=
  (.seq (.block 1 c59_20) c59_5)
def c59_22 : ACode :=
  (.cond (.s 14) .skip (.exit 0))
def c59_23 : ACode :=
  (.seq (.seq (.region false [⟨some 10, none, .mv (.s 6)⟩,
    ⟨some 11, none, .fa 0 (.s 2)⟩,
    ⟨some 12, none, .ld false 1 (.s 11)⟩,
    ⟨some 13, none, .len (.s 12)⟩,
    ⟨some 14, none, .bin .lss (.s 10) (.s 13)⟩] [] [1, 2, 5, 6, 14]) c59_22) c59_21)
def c59_24 : ACode :=
  (.loop c59_23)
def c59_25 : ACode :=
  (.block 0 c59_24)
def c59_26 : ACode :=
  (.seq (.seq (.region false [⟨some 6, none, .cst (.t (.int .i64 0))⟩] [] [1, 2, 5, 6]) c59_25) c59_4)
def c59_27 : ACode :=
  (.seq (.region false [⟨some 5, none, .cst (.nils)⟩] [] [1, 2, 5]) c59_26)
def c59 : ACode :=
  (.seq (.region false [⟨some 2, none, .box 1 (.s 0)⟩,
    ⟨some 4, none, .cst (.nils)⟩] [] [1, 2]) c59_27)
def r59 : List ARes := [.tmp 4]
def n59 : Nat := 69
/- 60 supergraph supergraphlaw25.user -/
def c60_0 : ACode :=
  (.seq (.region false [⟨some 23, none, .mv (.s 0)⟩,
    ⟨some 24, none, .ld true 7 (.s 7)⟩,
    ⟨some 25, none, .bsl true 7 [[.int .i64 0, .str [], .lst [], .lst [], .lst [], .lst [], .lst []]] [(0, (.s 24))]⟩,
    ⟨some 26, none, .build [.nils] [(0, 1, (.s 25))]⟩,
    ⟨some 27, none, .build [.t (.str []), .nils] [(0, 1, (.s 23)), (1, 1, (.s 26))]⟩,
    ⟨none, none, .st 2 (.s 4) (.s 27)⟩] [] [4]) .ret)
def c60_1 : ACode :=
  (.seq (.region false [⟨some 15, none, .ld true 2 (.s 6)⟩,
    ⟨some 16, none, .bsl true 2 [[.str [], .lst []]] [(0, (.s 15))]⟩,
    ⟨some 17, none, .ld true 5 (.s 5)⟩,
    ⟨some 18, none, .mv (.s 1)⟩,
    ⟨some 19, none, .build [.t (.str []), .nils] [(0, 1, (.c (.t (.str [83, 116, 114, 105, 110, 103]))))]⟩,
    ⟨some 20, none, .build [.t (.str []), .nils, .t (.str []), .nils, .nils] [(0, 1, (.s 18)), (2, 2, (.s 19))]⟩,
    ⟨some 21, none, .bsl true 5 [[.str [], .lst [], .str [], .lst [], .lst []], [.str [], .lst [], .str [], .lst [], .lst []]] [(0, (.s 17)), (1, (.s 20))]⟩,
    ⟨some 22, none, .build [.t (.int .i64 0), .t (.str []), .nils, .nils, .nils, .nils, .nils] [(0, 1, (.c (.t (.int .i64 1)))), (1, 1, (.c (.t (.str [85, 115, 101, 114])))), (3, 1, (.s 16)), (4, 1, (.s 21))]⟩,
    ⟨some 7, none, .alloc [.t (.int .i64 0), .t (.str []), .nils, .nils, .nils, .nils, .nils]⟩,
    ⟨none, none, .st 7 (.s 7) (.s 22)⟩] [] [0, 4, 7]) c60_0)
def c60_2 : ACode :=
  (.seq (.region false [⟨some 11, none, .build [.t (.int .i64 0), .t (.int .i64 0), .t (.str []), .nils, .nils] [(0, 1, (.c (.t (.int .i64 3)))), (2, 1, (.c (.t (.str [105, 100]))))]⟩,
    ⟨some 12, none, .build [.t (.str []), .t (.int .i64 0), .t (.int .i64 0), .t (.str []), .nils, .nils] [(0, 1, (.c (.t (.str [102, 105, 101, 108, 100, 115])))), (1, 5, (.s 11))]⟩,
    ⟨some 13, none, .bsl true 6 [[.str [], .int .i64 0, .int .i64 0, .str [], .lst [], .lst []]] [(0, (.s 12))]⟩,
    ⟨some 14, none, .build [.t (.str []), .nils] [(0, 1, (.c (.t (.str [107, 101, 121])))), (1, 1, (.s 13))]⟩,
    ⟨some 6, none, .alloc [.t (.str []), .nils]⟩,
    ⟨none, none, .st 2 (.s 6) (.s 14)⟩] [] [0, 1, 4, 5, 6]) c60_1)
def c60_3 : ACode :=
  (.seq (.region false [⟨some 8, none, .bsl true 1 [[.int .i64 0]] [(0, (.c (.t (.int .i64 1))))]⟩,
    ⟨some 9, none, .build [.t (.str []), .nils] [(0, 1, (.c (.t (.str [73, 68])))), (1, 1, (.s 8))]⟩,
    ⟨some 10, none, .build [.t (.str []), .nils, .t (.str []), .nils, .nils] [(0, 1, (.c (.t (.str [105, 100])))), (2, 2, (.s 9))]⟩,
    ⟨some 5, none, .alloc [.t (.str []), .nils, .t (.str []), .nils, .nils]⟩,
    ⟨none, none, .st 5 (.s 5) (.s 10)⟩] [] [0, 1, 4, 5]) c60_2)
def c60 : ACode :=
  (.seq (.region false [⟨some 4, none, .alloc [.t (.str []), .nils]⟩] [] [0, 1, 4]) c60_3)
def r60 : List ARes := [.cell 4 true 2]
def n60 : Nat := 28
/- 61 (*supergraph moves.judge).keys -/
def c61_0 : ACode :=
  (.region false [⟨some 101, none, .bin .add (.s 31) (.c (.t (.int .i64 1)))⟩,
    ⟨some 31, none, .mv (.s 101)⟩] [] [0, 4, 5, 6, 29, 30, 31])
def c61_1 : ACode :=
  (.region false [⟨some 95, none, .mv (.s 0)⟩,
    ⟨some 96, none, .mv (.s 9)⟩,
    ⟨some 97, none, .ld true 2 (.s 4)⟩,
    ⟨some 98, none, .fa 1 (.s 5)⟩,
    ⟨some 99, none, .ld false 1 (.s 98)⟩,
    ⟨some 100, none, .call 82 [(.s 95), (.s 96), (.c (.t (.int .i64 41))), (.s 97), (.s 99)]⟩] [] [0, 4, 5, 6, 29, 30, 31])
def c61_2 : ACode :=
  (.region false [⟨some 94, none, .bin .add (.s 48) (.c (.t (.int .i64 1)))⟩,
    ⟨some 48, none, .mv (.s 94)⟩] [] [0, 4, 5, 6, 9, 29, 30, 31, 46, 47, 48])
def c61_3 : ACode :=
  (.region false [⟨some 79, none, .mv (.s 9)⟩,
    ⟨some 80, none, .mv (.s 79)⟩,
    ⟨some 81, some (80, false), .mv (.s 13)⟩,
    ⟨some 82, some (80, false), .un .not (.s 81)⟩,
    ⟨some 83, none, .pick (.s 80) (.c (.t (.bool true))) (.s 82)⟩,
    ⟨some 84, none, .mv (.s 83)⟩,
    ⟨some 85, some (84, false), .fa 1 (.s 12)⟩,
    ⟨some 86, some (84, false), .ld false 1 (.s 85)⟩,
    ⟨some 87, some (84, false), .len (.s 86)⟩,
    ⟨some 88, some (84, false), .bin .gtr (.s 87) (.c (.t (.int .i64 0)))⟩,
    ⟨some 89, none, .pick (.s 84) (.c (.t (.bool true))) (.s 88)⟩,
    ⟨some 90, none, .mv (.s 89)⟩,
    ⟨some 91, some (90, false), .mv (.s 14)⟩,
    ⟨some 92, some (90, false), .un .not (.s 91)⟩,
    ⟨some 93, none, .pick (.s 90) (.c (.t (.bool true))) (.s 92)⟩,
    ⟨some 9, none, .mv (.s 93)⟩] [] [0, 4, 5, 6, 9, 29, 30, 31, 46, 47, 48])
def c61_4 : ACode :=
  (.seq (.region false [⟨some 58, none, .fa 2 (.s 12)⟩,
    ⟨some 59, none, .fa 1 (.s 58)⟩,
    ⟨some 60, none, .ld false 1 (.s 59)⟩,
    ⟨some 61, none, .len (.s 60)⟩,
    ⟨some 62, none, .bin .eql (.s 61) (.c (.t (.int .i64 1)))⟩,
    ⟨some 63, none, .mv (.s 62)⟩,
    ⟨some 64, some (63, true), .fa 2 (.s 12)⟩,
    ⟨some 65, some (63, true), .fa 1 (.s 64)⟩,
    ⟨some 66, some (63, true), .ld false 1 (.s 65)⟩,
    ⟨some 67, some (63, true), .ia 1 (.s 66) (.c (.t (.int .i64 0)))⟩,
    ⟨some 68, some (63, true), .ld false 1 (.s 67)⟩,
    ⟨some 69, some (63, true), .bin .eql (.s 68) (.c (.t (.int .i64 1)))⟩,
    ⟨some 70, none, .pick (.s 63) (.s 69) (.c (.t (.bool false)))⟩,
    ⟨some 71, none, .mv (.s 70)⟩,
    ⟨some 72, some (71, true), .fa 1 (.s 4)⟩,
    ⟨some 73, some (71, true), .ld true 1 (.s 72)⟩,
    ⟨some 74, some (71, true), .fa 2 (.s 12)⟩,
    ⟨some 75, some (71, true), .fa 0 (.s 74)⟩,
    ⟨some 76, some (71, true), .ld false 1 (.s 75)⟩,
    ⟨some 77, some (71, true), .call 81 [(.s 73), (.s 76)]⟩,
    ⟨some 78, none, .pick (.s 71) (.s 77) (.c (.t (.bool false)))⟩,
    ⟨some 14, none, .mv (.s 78)⟩] [] [0, 4, 5, 6, 9, 12, 13, 14, 29, 30, 31, 46, 47, 48]) c61_3)
def c61_5 : ACode :=
  (.seq (.region false [⟨some 53, none, .ld true 7 (.s 5)⟩,
    ⟨some 54, none, .mv (.s 11)⟩,
    ⟨some 55, none, .call 66 [(.s 53), (.s 54)]⟩,
    ⟨some 52, none, .mv (.s 55)⟩,
    ⟨some 56, none, .ext (.s 52) 0⟩,
    ⟨some 57, none, .ext (.s 52) 1⟩,
    ⟨some 12, none, .alloc [.t (.str []), .nils, .t (.str []), .nils, .nils]⟩,
    ⟨none, none, .st 5 (.s 12) (.s 56)⟩,
    ⟨some 13, none, .mv (.s 57)⟩] [] [0, 4, 5, 6, 9, 12, 13, 29, 30, 31, 46, 47, 48]) c61_4)
def c61_6 : ACode :=
  (.seq (.region false [⟨some 50, none, .ia 1 (.s 46) (.s 48)⟩,
    ⟨some 51, none, .ld false 1 (.s 50)⟩,
    ⟨some 11, none, .mv (.s 51)⟩] [] [0, 4, 5, 6, 9, 11, 29, 30, 31, 46, 47, 48]) c61_5)
def c61_7 : ACode :=
  (.seq (.block 3 c61_6) c61_2)
def c61_8 : ACode :=
  (.seq (.cond (.s 49) .skip (.exit 2)) c61_7)
def c61_9 : ACode :=
  (.seq (.region false [⟨some 49, none, .bin .lss (.s 48) (.s 47)⟩] [] [0, 4, 5, 6, 9, 29, 30, 31, 46, 47, 48, 49]) c61_8)
def c61_10 : ACode :=
  (.loop c61_9)
def c61_11 : ACode :=
  (.block 2 c61_10)
def c61_12 : ACode :=
  (.seq (.seq (.region false [⟨some 46, none, .mv (.s 8)⟩,
    ⟨some 47, none, .len (.s 46)⟩,
    ⟨some 48, none, .cst (.t (.int .i64 0))⟩] [] [0, 4, 5, 6, 9, 29, 30, 31, 46, 47, 48]) c61_11) c61_1)
def c61_13 : ACode :=
  (.seq (.region false [⟨some 36, none, .mv (.s 7)⟩,
    ⟨some 37, none, .bin .geq (.s 36) (.c (.t (.int .i64 4)))⟩,
    ⟨some 38, none, .mv (.s 37)⟩,
    ⟨some 39, some (38, false), .mv (.s 6)⟩,
    ⟨some 40, none, .pick (.s 38) (.c (.t (.bool true))) (.s 39)⟩,
    ⟨some 41, none, .mv (.s 40)⟩,
    ⟨some 42, some (41, false), .mv (.s 8)⟩,
    ⟨some 43, some (41, false), .len (.s 42)⟩,
    ⟨some 44, some (41, false), .bin .eql (.s 43) (.c (.t (.int .i64 0)))⟩,
    ⟨some 45, none, .pick (.s 41) (.c (.t (.bool true))) (.s 44)⟩,
    ⟨some 9, none, .mv (.s 45)⟩] [] [0, 4, 5, 6, 8, 9, 29, 30, 31]) c61_12)
def c61_14 : ACode :=
  (.seq (.region false [⟨some 33, none, .mv (.s 31)⟩,
    ⟨some 34, none, .ia 1 (.s 29) (.s 31)⟩,
    ⟨some 35, none, .ld false 1 (.s 34)⟩,
    ⟨some 7, none, .mv (.s 33)⟩,
    ⟨some 8, none, .mv (.s 35)⟩] [] [0, 4, 5, 6, 7, 8, 29, 30, 31]) c61_13)
def c61_15 : ACode :=
  (.seq (.block 1 c61_14) c61_0)
def c61_16 : ACode :=
  (.seq (.cond (.s 32) .skip (.exit 0)) c61_15)
def c61_17 : ACode :=
  (.seq (.region false [⟨some 32, none, .bin .lss (.s 31) (.s 30)⟩] [] [0, 4, 5, 6, 29, 30, 31, 32]) c61_16)
def c61_18 : ACode :=
  (.loop c61_17)
def c61_19 : ACode :=
  (.block 0 c61_18)
def c61_20 : ACode :=
  (.seq (.region false [⟨some 28, none, .ld true 7 (.s 5)⟩,
    ⟨some 29, none, .call 62 [(.s 28)]⟩,
    ⟨some 30, none, .len (.s 29)⟩,
    ⟨some 31, none, .cst (.t (.int .i64 0))⟩] [] [0, 4, 5, 6, 29, 30, 31]) c61_19)
def c61_21 : ACode :=
  (.seq (.region false [⟨some 15, none, .fa 1 (.s 5)⟩,
    ⟨some 16, none, .ld false 1 (.s 15)⟩,
    ⟨some 17, none, .bin .eql (.s 16) (.c (.t (.str [81, 117, 101, 114, 121])))⟩,
    ⟨some 18, none, .mv (.s 17)⟩,
    ⟨some 19, some (18, false), .fa 1 (.s 5)⟩,
    ⟨some 20, some (18, false), .ld false 1 (.s 19)⟩,
    ⟨some 21, some (18, false), .bin .eql (.s 20) (.c (.t (.str [77, 117, 116, 97, 116, 105, 111, 110])))⟩,
    ⟨some 22, none, .pick (.s 18) (.c (.t (.bool true))) (.s 21)⟩,
    ⟨some 23, none, .mv (.s 22)⟩,
    ⟨some 24, some (23, false), .fa 1 (.s 5)⟩,
    ⟨some 25, some (23, false), .ld false 1 (.s 24)⟩,
    ⟨some 26, some (23, false), .bin .eql (.s 25) (.c (.t (.str [83, 117, 98, 115, 99, 114, 105, 112, 116, 105, 111, 110])))⟩,
    ⟨some 27, none, .pick (.s 23) (.c (.t (.bool true))) (.s 26)⟩,
    ⟨some 6, none, .mv (.s 27)⟩] [] [0, 4, 5, 6]) c61_20)
def c61 : ACode :=
  (.seq (.region false [⟨some 4, none, .box 2 (.s 1)⟩,
    ⟨some 5, none, .box 7 (.s 2)⟩] [] [0, 4, 5]) c61_21)
def r61 : List ARes := []
def n61 : Nat := 102
/- 62 supergraph moves.keysOf -/
def c62_0 : ACode :=
  (.seq (.region false [⟨some 28, none, .mv (.s 3)⟩,
    ⟨some 2, none, .mv (.s 28)⟩] [] [2]) .ret)
def c62_1 : ACode :=
  (.region false [⟨some 27, none, .bin .add (.s 9) (.c (.t (.int .i64 1)))⟩,
    ⟨some 9, none, .mv (.s 27)⟩] [] [1, 3, 7, 8, 9])
def c62_2 : ACode :=
  (.region false [⟨some 17, none, .mv (.s 3)⟩,
    ⟨some 18, none, .fa 3 (.s 1)⟩,
    ⟨some 19, none, .ld false 1 (.s 18)⟩,
    ⟨some 20, none, .mv (.s 4)⟩,
    ⟨some 21, none, .mv (.s 4)⟩,
    ⟨some 22, none, .bin .add (.s 21) (.c (.t (.int .i64 1)))⟩,
    ⟨some 23, none, .sll 2 (.s 19) (some (.s 20)) (some (.s 22))⟩,
    ⟨some 24, none, .call 64 [(.s 23), (.c (.t (.str [107, 101, 121])))]⟩,
    ⟨some 25, none, .bsl false 1 [[.lst []]] [(0, (.s 24))]⟩,
    ⟨some 26, none, .app 1 24 (.s 17) (.s 25)⟩,
    ⟨some 3, none, .mv (.s 26)⟩] [] [1, 3, 7, 8, 9])
def c62_3 : ACode :=
  (.cond (.s 16) c62_2 .skip)
def c62_4 : ACode :=
  (.seq (.region false [⟨some 14, none, .fa 0 (.s 5)⟩,
    ⟨some 15, none, .ld false 1 (.s 14)⟩,
    ⟨some 16, none, .bin .eql (.s 15) (.c (.t (.str [107, 101, 121])))⟩] [] [1, 3, 4, 7, 8, 9, 16]) c62_3)
def c62_5 : ACode :=
  (.seq (.region false [⟨some 11, none, .mv (.s 9)⟩,
    ⟨some 12, none, .ia 2 (.s 7) (.s 9)⟩,
    ⟨some 13, none, .ld true 2 (.s 12)⟩,
    ⟨some 5, none, .alloc [.t (.str []), .nils]⟩,
    ⟨some 4, none, .mv (.s 11)⟩,
    ⟨none, none, .st 2 (.s 5) (.s 13)⟩] [] [1, 3, 4, 5, 7, 8, 9]) c62_4)
def c62_6 : ACode :=
  (.seq (.block 1 c62_5) c62_1)
def c62_7 : ACode :=
  (.seq (.cond (.s 10) .skip (.exit 0)) c62_6)
def c62_8 : ACode :=
  (.seq (.region false [⟨some 10, none, .bin .lss (.s 9) (.s 8)⟩] [] [1, 3, 7, 8, 9, 10]) c62_7)
def c62_9 : ACode :=
  (.loop c62_8)
def c62_10 : ACode :=
  (.block 0 c62_9)
def c62_11 : ACode :=
  (.seq (.seq (.region false [⟨some 6, none, .fa 3 (.s 1)⟩,
    ⟨some 7, none, .ld false 1 (.s 6)⟩,
    ⟨some 8, none, .len (.s 7)⟩,
    ⟨some 9, none, .cst (.t (.int .i64 0))⟩] [] [1, 3, 7, 8, 9]) c62_10) c62_0)
def c62_12 : ACode :=
  (.seq (.region false [⟨some 3, none, .cst (.nils)⟩] [] [1, 3]) c62_11)
def c62 : ACode :=
  (.seq (.region false [⟨some 1, none, .box 7 (.s 0)⟩,
    ⟨some 2, none, .cst (.nils)⟩] [] [1]) c62_12)
def r62 : List ARes := [.tmp 2]
def n62 : Nat := 29
/- 63 (*supergraph moves.judge).field -/
def c63_0 : ACode :=
  (.region true [⟨some 129, none, .mv (.s 0)⟩,
    ⟨some 130, none, .mv (.s 10)⟩,
    ⟨some 131, none, .un .not (.s 130)⟩,
    ⟨some 132, none, .mv (.s 131)⟩,
    ⟨some 133, some (132, true), .mv (.s 0)⟩,
    ⟨some 134, some (132, true), .mv (.s 1)⟩,
    ⟨some 135, some (132, true), .fa 1 (.s 6)⟩,
    ⟨some 136, some (132, true), .ld false 1 (.s 135)⟩,
    ⟨some 137, some (132, true), .fa 0 (.s 7)⟩,
    ⟨some 138, some (132, true), .ld false 1 (.s 137)⟩,
    ⟨some 139, some (132, true), .call 84 [(.s 133), (.s 134), (.s 136), (.s 138)]⟩,
    ⟨some 140, none, .pick (.s 132) (.s 139) (.c (.t (.bool false)))⟩,
    ⟨some 141, none, .mv (.s 140)⟩,
    ⟨some 142, some (141, true), .mv (.s 11)⟩,
    ⟨some 143, some (141, true), .mv (.s 142)⟩,
    ⟨some 144, some (143, false), .mv (.s 14)⟩,
    ⟨some 145, some (143, false), .un .not (.s 144)⟩,
    ⟨some 146, some (141, true), .pick (.s 143) (.c (.t (.bool true))) (.s 145)⟩,
    ⟨some 147, none, .pick (.s 141) (.s 146) (.c (.t (.bool false)))⟩,
    ⟨some 148, none, .ld true 2 (.s 8)⟩,
    ⟨some 149, none, .mv (.s 9)⟩,
    ⟨some 150, none, .call 82 [(.s 129), (.s 147), (.c (.t (.int .i64 40))), (.s 148), (.s 149)]⟩] [[], [], [1], [2], [3], [3], [3], [6, 3], [3], [8, 3], [4, 5, 7, 9, 3, 3], [3, 10], [11, 10], [12], [13, 12, 12], [14], [15, 14], [14, 16, 12], [12, 17], [], [], [0, 18, 19, 20, 14]] [])
def c63_1 : ACode :=
  (.seq (.region false [⟨some 120, none, .fa 4 (.s 7)⟩,
    ⟨some 121, none, .ld false 1 (.s 120)⟩,
    ⟨some 122, none, .call 25 [(.s 121), (.c (.t (.str [115, 104, 97, 114, 101, 97, 98, 108, 101])))]⟩,
    ⟨some 123, none, .mv (.s 122)⟩,
    ⟨some 124, some (123, false), .ld true 7 (.s 6)⟩,
    ⟨some 125, some (123, false), .fa 0 (.s 7)⟩,
    ⟨some 126, some (123, false), .ld false 1 (.s 125)⟩,
    ⟨some 127, some (123, false), .call 87 [(.s 124), (.s 126)]⟩,
    ⟨some 128, none, .pick (.s 123) (.c (.t (.bool true))) (.s 127)⟩,
    ⟨some 14, none, .mv (.s 128)⟩] [] [0, 1, 6, 7, 8, 9, 10, 11, 14]) c63_0)
def c63_2 : ACode :=
  (.region true [⟨some 100, none, .mv (.s 0)⟩,
    ⟨some 101, none, .mv (.s 13)⟩,
    ⟨some 102, none, .un .not (.s 101)⟩,
    ⟨some 103, none, .mv (.s 102)⟩,
    ⟨some 104, some (103, false), .fa 0 (.s 12)⟩,
    ⟨some 105, some (103, false), .ld false 1 (.s 104)⟩,
    ⟨some 106, some (103, false), .bin .neq (.s 105) (.c (.t (.int .i64 1)))⟩,
    ⟨some 107, none, .pick (.s 103) (.c (.t (.bool true))) (.s 106)⟩,
    ⟨some 108, none, .mv (.s 107)⟩,
    ⟨some 109, some (108, false), .ld true 2 (.s 8)⟩,
    ⟨some 110, some (108, false), .ld true 7 (.s 12)⟩,
    ⟨some 111, some (108, false), .fa 4 (.s 7)⟩,
    ⟨some 112, some (108, false), .ld false 1 (.s 111)⟩,
    ⟨some 113, some (108, false), .call 64 [(.s 112), (.c (.t (.str [112, 114, 111, 118, 105, 100, 101, 115])))]⟩,
    ⟨some 114, some (108, false), .call 86 [(.s 109), (.s 110), (.s 113)]⟩,
    ⟨some 115, some (108, false), .un .not (.s 114)⟩,
    ⟨some 116, none, .pick (.s 108) (.c (.t (.bool true))) (.s 115)⟩,
    ⟨some 117, none, .ld true 2 (.s 8)⟩,
    ⟨some 118, none, .mv (.s 9)⟩,
    ⟨some 119, none, .call 82 [(.s 100), (.s 116), (.c (.t (.int .i64 44))), (.s 117), (.s 118)]⟩] [[], [], [1], [2], [3], [4, 3], [5, 3], [3, 6], [7, 3], [8], [8], [8], [11, 8], [12, 8, 8], [9, 10, 13, 13, 8], [14, 8], [8, 15], [], [], [0, 16, 17, 18, 14]] [0, 1, 6, 7, 8, 9, 10, 11])
def c63_3 : ACode :=
  (.seq (.region false [⟨some 92, none, .fa 1 (.s 8)⟩,
    ⟨some 93, none, .ld true 1 (.s 92)⟩,
    ⟨some 94, none, .fa 2 (.s 7)⟩,
    ⟨some 95, none, .fa 0 (.s 94)⟩,
    ⟨some 96, none, .ld false 1 (.s 95)⟩,
    ⟨some 97, none, .call 65 [(.s 93), (.s 96)]⟩,
    ⟨some 91, none, .mv (.s 97)⟩,
    ⟨some 98, none, .ext (.s 91) 0⟩,
    ⟨some 99, none, .ext (.s 91) 1⟩,
    ⟨some 12, none, .alloc [.t (.int .i64 0), .t (.str []), .nils, .nils, .nils, .nils, .nils]⟩,
    ⟨none, none, .st 7 (.s 12) (.s 98)⟩,
    ⟨some 13, none, .mv (.s 99)⟩] [] [0, 1, 6, 7, 8, 9, 10, 11, 12, 13]) c63_2)
def c63_4 : ACode :=
  (.cond (.s 90) c63_3 .skip)
def c63_5 : ACode :=
  (.seq (.seq (.region false [⟨some 88, none, .fa 4 (.s 7)⟩,
    ⟨some 89, none, .ld false 1 (.s 88)⟩,
    ⟨some 90, none, .call 25 [(.s 89), (.c (.t (.str [112, 114, 111, 118, 105, 100, 101, 115])))]⟩] [] [0, 1, 6, 7, 8, 9, 10, 11, 90]) c63_4) c63_1)
def c63_6 : ACode :=
  (.seq (.region true [⟨some 57, none, .mv (.s 0)⟩,
    ⟨some 58, none, .mv (.s 11)⟩,
    ⟨some 59, none, .mv (.s 58)⟩,
    ⟨some 60, some (59, true), .mv (.s 10)⟩,
    ⟨some 61, some (59, true), .mv (.s 60)⟩,
    ⟨some 62, some (61, false), .mv (.s 0)⟩,
    ⟨some 63, some (61, false), .fa 1 (.s 6)⟩,
    ⟨some 64, some (61, false), .ld false 1 (.s 63)⟩,
    ⟨some 65, some (61, false), .fa 0 (.s 7)⟩,
    ⟨some 66, some (61, false), .ld false 1 (.s 65)⟩,
    ⟨some 67, some (61, false), .call 85 [(.s 62), (.s 64), (.s 66)]⟩,
    ⟨some 68, some (59, true), .pick (.s 61) (.c (.t (.bool true))) (.s 67)⟩,
    ⟨some 69, some (59, true), .mv (.s 68)⟩,
    ⟨some 70, some (69, false), .ld true 7 (.s 6)⟩,
    ⟨some 71, some (69, false), .call 62 [(.s 70)]⟩,
    ⟨some 72, some (69, false), .len (.s 71)⟩,
    ⟨some 73, some (69, false), .bin .eql (.s 72) (.c (.t (.int .i64 0)))⟩,
    ⟨some 74, some (59, true), .pick (.s 69) (.c (.t (.bool true))) (.s 73)⟩,
    ⟨some 75, some (59, true), .mv (.s 74)⟩,
    ⟨some 76, some (75, false), .ld true 2 (.s 8)⟩,
    ⟨some 77, some (75, false), .ld true 7 (.s 6)⟩,
    ⟨some 78, some (75, false), .fa 4 (.s 7)⟩,
    ⟨some 79, some (75, false), .ld false 1 (.s 78)⟩,
    ⟨some 80, some (75, false), .call 64 [(.s 79), (.c (.t (.str [114, 101, 113, 117, 105, 114, 101, 115])))]⟩,
    ⟨some 81, some (75, false), .call 86 [(.s 76), (.s 77), (.s 80)]⟩,
    ⟨some 82, some (75, false), .un .not (.s 81)⟩,
    ⟨some 83, some (59, true), .pick (.s 75) (.c (.t (.bool true))) (.s 82)⟩,
    ⟨some 84, none, .pick (.s 59) (.s 83) (.c (.t (.bool false)))⟩,
    ⟨some 85, none, .ld true 2 (.s 8)⟩,
    ⟨some 86, none, .mv (.s 9)⟩,
    ⟨some 87, none, .call 82 [(.s 57), (.s 84), (.c (.t (.int .i64 43))), (.s 85), (.s 86)]⟩] [[], [], [1], [2], [3, 2, 2], [4], [4], [6, 4], [4], [8, 4], [5, 7, 9, 4, 4], [4, 10, 2], [11, 10, 2], [12], [13, 12, 12], [14, 12], [15, 12], [12, 16, 2], [17, 14, 2], [18], [18], [18], [21, 18], [22, 18, 18], [19, 20, 23, 23, 18], [24, 18], [18, 25, 2], [2, 26], [], [], [0, 27, 28, 29, 24]] [0, 1, 6, 7, 8, 9, 10, 11]) c63_5)
def c63_7 : ACode :=
  (.seq (.region true [⟨some 34, none, .mv (.s 0)⟩,
    ⟨some 35, none, .mv (.s 10)⟩,
    ⟨some 36, none, .mv (.s 35)⟩,
    ⟨some 37, some (36, true), .ld true 2 (.s 8)⟩,
    ⟨some 38, some (36, true), .ld true 7 (.s 6)⟩,
    ⟨some 39, some (36, true), .fa 0 (.s 7)⟩,
    ⟨some 40, some (36, true), .ld false 1 (.s 39)⟩,
    ⟨some 41, some (36, true), .call 83 [(.s 37), (.s 38), (.s 40)]⟩,
    ⟨some 42, some (36, true), .un .not (.s 41)⟩,
    ⟨some 43, some (36, true), .mv (.s 42)⟩,
    ⟨some 44, some (43, false), .mv (.s 0)⟩,
    ⟨some 45, some (43, false), .mv (.s 1)⟩,
    ⟨some 46, some (43, false), .fa 1 (.s 6)⟩,
    ⟨some 47, some (43, false), .ld false 1 (.s 46)⟩,
    ⟨some 48, some (43, false), .fa 0 (.s 7)⟩,
    ⟨some 49, some (43, false), .ld false 1 (.s 48)⟩,
    ⟨some 50, some (43, false), .call 84 [(.s 44), (.s 45), (.s 47), (.s 49)]⟩,
    ⟨some 51, some (43, false), .un .not (.s 50)⟩,
    ⟨some 52, some (36, true), .pick (.s 43) (.c (.t (.bool true))) (.s 51)⟩,
    ⟨some 53, none, .pick (.s 36) (.s 52) (.c (.t (.bool false)))⟩,
    ⟨some 54, none, .ld true 2 (.s 8)⟩,
    ⟨some 55, none, .mv (.s 9)⟩,
    ⟨some 56, none, .call 82 [(.s 34), (.s 53), (.c (.t (.int .i64 42))), (.s 54), (.s 55)]⟩] [[], [], [1], [2], [2], [2], [5, 2], [3, 4, 6, 2, 2], [7, 2], [8, 7, 2], [9], [9], [9], [12, 9], [9], [14, 9], [10, 11, 13, 15, 9, 9], [16, 9], [9, 17, 2], [2, 18], [], [], [0, 19, 20, 21, 16]] [0, 1, 6, 7, 8, 9, 10, 11]) c63_6)
def c63_8 : ACode :=
  (.seq (.region false [⟨some 31, none, .fa 4 (.s 7)⟩,
    ⟨some 32, none, .ld false 1 (.s 31)⟩,
    ⟨some 33, none, .call 25 [(.s 32), (.c (.t (.str [114, 101, 113, 117, 105, 114, 101, 115])))]⟩,
    ⟨some 11, none, .mv (.s 33)⟩] [] [0, 1, 6, 7, 8, 9, 10, 11]) c63_7)
def c63_9 : ACode :=
  (.seq (.region false [⟨some 28, none, .fa 4 (.s 7)⟩,
    ⟨some 29, none, .ld false 1 (.s 28)⟩,
    ⟨some 30, none, .call 25 [(.s 29), (.c (.t (.str [101, 120, 116, 101, 114, 110, 97, 108])))]⟩,
    ⟨some 10, none, .mv (.s 30)⟩] [] [0, 1, 6, 7, 8, 9, 10]) c63_8)
def c63_10 : ACode :=
  (.seq (.region true [⟨some 15, none, .mv (.s 0)⟩,
    ⟨some 16, none, .nilck (.s 15)⟩,
    ⟨some 17, none, .fa 0 (.s 16)⟩,
    ⟨some 18, none, .ld false 1 (.s 17)⟩,
    ⟨some 19, none, .mv (.s 1)⟩,
    ⟨some 20, none, .ia 2 (.s 18) (.s 19)⟩,
    ⟨some 21, none, .ld true 2 (.s 20)⟩,
    ⟨some 22, none, .fa 1 (.s 6)⟩,
    ⟨some 23, none, .ld false 1 (.s 22)⟩,
    ⟨some 24, none, .bin .add (.s 23) (.c (.t (.str [46])))⟩,
    ⟨some 25, none, .fa 0 (.s 7)⟩,
    ⟨some 26, none, .ld false 1 (.s 25)⟩,
    ⟨some 27, none, .bin .add (.s 24) (.s 26)⟩,
    ⟨some 8, none, .alloc [.t (.str []), .nils]⟩,
    ⟨none, none, .st 2 (.s 8) (.s 21)⟩,
    ⟨some 9, none, .mv (.s 27)⟩] [[], [0], [1], [2], [], [3, 4], [5], [], [7], [8], [], [10], [9, 11], [], [13, 6, 0, 1, 2, 3, 4, 5, 6, 13], [12, 14, 0, 1, 2, 3, 4, 5, 6, 7, 8, 9, 10, 11, 12, 13, 14]] [0, 1, 6, 7, 8, 9]) c63_9)
def c63 : ACode :=
  (.seq (.region false [⟨some 6, none, .box 7 (.s 2)⟩,
    ⟨some 7, none, .box 5 (.s 3)⟩] [] [0, 1, 6, 7]) c63_10)
def r63 : List ARes := []
def n63 : Nat := 151
/- 64 supergraph moves.set -/
def c64_0 : ACode :=
  (.seq (.region false [⟨some 23, none, .mv (.s 7)⟩,
    ⟨some 4, none, .mv (.s 23)⟩] [] [4]) .ret)
def c64_1 : ACode :=
  (.seq (.region false [⟨some 4, none, .cst (.nils)⟩] [] [4]) .ret)
def c64_2 : ACode :=
  (.cond (.s 22) c64_1 .skip)
def c64_3 : ACode :=
  (.seq (.seq (.region false [⟨some 21, none, .mv (.s 8)⟩,
    ⟨some 22, none, .bin .neq (.s 21) (.c (.t (.int .i64 0)))⟩] [] [7, 22]) c64_2) c64_0)
def c64_4 : ACode :=
  (.seq (.region false [⟨some 16, none, .fa 2 (.s 5)⟩,
    ⟨some 17, none, .ld false 1 (.s 16)⟩,
    ⟨some 18, none, .call 13 [(.s 17)]⟩,
    ⟨some 15, none, .mv (.s 18)⟩,
    ⟨some 19, none, .ext (.s 15) 0⟩,
    ⟨some 20, none, .ext (.s 15) 1⟩,
    ⟨some 7, none, .mv (.s 19)⟩,
    ⟨some 8, none, .mv (.s 20)⟩] [] [7, 8]) c64_3)
def c64_5 : ACode :=
  (.seq (.region false [⟨some 10, none, .mv (.s 0)⟩,
    ⟨some 11, none, .mv (.s 1)⟩,
    ⟨some 12, none, .call 23 [(.s 10), (.s 11), (.c (.t (.str [102, 105, 101, 108, 100, 115])))]⟩,
    ⟨some 9, none, .mv (.s 12)⟩,
    ⟨some 13, none, .ext (.s 9) 0⟩,
    ⟨some 14, none, .ext (.s 9) 1⟩,
    ⟨some 5, none, .alloc [.t (.int .i64 0), .t (.int .i64 0), .t (.str []), .nils, .nils]⟩,
    ⟨none, none, .st 5 (.s 5) (.s 13)⟩,
    ⟨some 6, none, .mv (.s 14)⟩] [] [5]) c64_4)
def c64 : ACode :=
  (.seq (.region false [⟨some 4, none, .cst (.nils)⟩] [] [0, 1]) c64_5)
def r64 : List ARes := [.tmp 4]
def n64 : Nat := 24
/- 65 supergraph schema.Find -/
def c65_0 : ACode :=
  (.seq (.region false [⟨some 21, none, .build [.t (.int .i64 0), .t (.str []), .nils, .nils, .nils, .nils, .nils] []⟩,
    ⟨none, none, .st 7 (.s 4) (.s 21)⟩,
    ⟨some 5, none, .cst (.t (.bool false))⟩] [] [4, 5]) .ret)
def c65_1 : ACode :=
  (.region false [⟨some 20, none, .bin .add (.s 11) (.c (.t (.int .i64 1)))⟩,
    ⟨some 11, none, .mv (.s 20)⟩] [] [1, 4, 9, 10, 11])
def c65_2 : ACode :=
  (.seq (.region false [⟨some 19, none, .ld true 7 (.s 7)⟩,
    ⟨none, none, .st 7 (.s 4) (.s 19)⟩,
    ⟨some 5, none, .cst (.t (.bool true))⟩] [] [4, 5]) .ret)
def c65_3 : ACode :=
  (.cond (.s 18) c65_2 .skip)
def c65_4 : ACode :=
  (.seq (.region false [⟨some 15, none, .fa 1 (.s 7)⟩,
    ⟨some 16, none, .ld false 1 (.s 15)⟩,
    ⟨some 17, none, .mv (.s 1)⟩,
    ⟨some 18, none, .bin .eql (.s 16) (.s 17)⟩] [] [1, 4, 7, 9, 10, 11, 18]) c65_3)
def c65_5 : ACode :=
  (.seq (.region false [⟨some 13, none, .ia 7 (.s 9) (.s 11)⟩,
    ⟨some 14, none, .ld true 7 (.s 13)⟩,
    ⟨some 7, none, .alloc [.t (.int .i64 0), .t (.str []), .nils, .nils, .nils, .nils, .nils]⟩,
    ⟨none, none, .st 7 (.s 7) (.s 14)⟩] [] [1, 4, 7, 9, 10, 11]) c65_4)
def c65_6 : ACode :=
  (.seq (.block 1 c65_5) c65_1)
def c65_7 : ACode :=
  (.seq (.cond (.s 12) .skip (.exit 0)) c65_6)
def c65_8 : ACode :=
  (.seq (.region false [⟨some 12, none, .bin .lss (.s 11) (.s 10)⟩] [] [1, 4, 9, 10, 11, 12]) c65_7)
def c65_9 : ACode :=
  (.loop c65_8)
def c65_10 : ACode :=
  (.block 0 c65_9)
def c65_11 : ACode :=
  (.seq (.seq (.region false [⟨some 8, none, .fa 0 (.s 2)⟩,
    ⟨some 9, none, .ld false 1 (.s 8)⟩,
    ⟨some 10, none, .len (.s 9)⟩,
    ⟨some 11, none, .cst (.t (.int .i64 0))⟩] [] [1, 4, 9, 10, 11]) c65_10) c65_0)
def c65 : ACode :=
  (.seq (.region false [⟨some 2, none, .box 1 (.s 0)⟩,
    ⟨some 4, none, .alloc [.t (.int .i64 0), .t (.str []), .nils, .nils, .nils, .nils, .nils]⟩,
    ⟨some 5, none, .cst (.t (.bool false))⟩] [] [1, 2, 4]) c65_11)
def r65 : List ARes := [.cell 4 true 7, .tmp 5]
def n65 : Nat := 22
/- 66 supergraph schema.FieldOf -/
def c66_0 : ACode :=
  (.seq (.region false [⟨some 21, none, .build [.t (.str []), .nils, .t (.str []), .nils, .nils] []⟩,
    ⟨none, none, .st 5 (.s 4) (.s 21)⟩,
    ⟨some 5, none, .cst (.t (.bool false))⟩] [] [4, 5]) .ret)
def c66_1 : ACode :=
  (.region false [⟨some 20, none, .bin .add (.s 11) (.c (.t (.int .i64 1)))⟩,
    ⟨some 11, none, .mv (.s 20)⟩] [] [1, 4, 9, 10, 11])
def c66_2 : ACode :=
  (.seq (.region false [⟨some 19, none, .ld true 5 (.s 7)⟩,
    ⟨none, none, .st 5 (.s 4) (.s 19)⟩,
    ⟨some 5, none, .cst (.t (.bool true))⟩] [] [4, 5]) .ret)
def c66_3 : ACode :=
  (.cond (.s 18) c66_2 .skip)
def c66_4 : ACode :=
  (.seq (.region false [⟨some 15, none, .fa 0 (.s 7)⟩,
    ⟨some 16, none, .ld false 1 (.s 15)⟩,
    ⟨some 17, none, .mv (.s 1)⟩,
    ⟨some 18, none, .bin .eql (.s 16) (.s 17)⟩] [] [1, 4, 7, 9, 10, 11, 18]) c66_3)
def c66_5 : ACode :=
  (.seq (.region false [⟨some 13, none, .ia 5 (.s 9) (.s 11)⟩,
    ⟨some 14, none, .ld true 5 (.s 13)⟩,
    ⟨some 7, none, .alloc [.t (.str []), .nils, .t (.str []), .nils, .nils]⟩,
    ⟨none, none, .st 5 (.s 7) (.s 14)⟩] [] [1, 4, 7, 9, 10, 11]) c66_4)
def c66_6 : ACode :=
  (.seq (.block 1 c66_5) c66_1)
def c66_7 : ACode :=
  (.seq (.cond (.s 12) .skip (.exit 0)) c66_6)
def c66_8 : ACode :=
  (.seq (.region false [⟨some 12, none, .bin .lss (.s 11) (.s 10)⟩] [] [1, 4, 9, 10, 11, 12]) c66_7)
def c66_9 : ACode :=
  (.loop c66_8)
def c66_10 : ACode :=
  (.block 0 c66_9)
def c66_11 : ACode :=
  (.seq (.seq (.region false [⟨some 8, none, .fa 4 (.s 2)⟩,
    ⟨some 9, none, .ld false 1 (.s 8)⟩,
    ⟨some 10, none, .len (.s 9)⟩,
    ⟨some 11, none, .cst (.t (.int .i64 0))⟩] [] [1, 4, 9, 10, 11]) c66_10) c66_0)
def c66 : ACode :=
  (.seq (.region false [⟨some 2, none, .box 7 (.s 0)⟩,
    ⟨some 4, none, .alloc [.t (.str []), .nils, .t (.str []), .nils, .nils]⟩,
    ⟨some 5, none, .cst (.t (.bool false))⟩] [] [1, 2, 4]) c66_11)
def r66 : List ARes := [.cell 4 true 5, .tmp 5]
def n66 : Nat := 22
/- 67 supergraph supergraphref25.bareInputs -/
/- 68 slices.Clone[[]string,string] -/
def c68_0 : ACode :=
  (.seq (.region false [⟨some 5, none, .bsl true 1 [] []⟩,
    ⟨some 6, none, .mv (.s 0)⟩,
    ⟨some 7, none, .app 1 16 (.s 5) (.s 6)⟩,
    ⟨some 2, none, .mv (.s 7)⟩] [] [2]) .ret)
def c68_1 : ACode :=
  (.seq (.region false [⟨some 2, none, .cst (.nils)⟩] [] [2]) .ret)
def c68_2 : ACode :=
  (.cond (.s 4) c68_1 .skip)
def c68_3 : ACode :=
  (.seq (.seq (.region false [⟨some 3, none, .mv (.s 0)⟩,
    ⟨some 4, none, .nw (.eqn false (.s 3))⟩] [] [0, 4]) c68_2) c68_0)
def c68 : ACode :=
  (.seq (.region false [⟨some 2, none, .cst (.nils)⟩] [] [0]) c68_3)
def r68 : List ARes := [.tmp 2]
def n68 : Nat := 8
/- 69 strings.genSplit -/
def c69_0 : ACode :=
  (.seq (.region false [⟨some 62, none, .mv (.s 9)⟩,
    ⟨some 63, none, .mv (.s 10)⟩,
    ⟨some 64, none, .bin .add (.s 63) (.c (.t (.int .i64 1)))⟩,
    ⟨some 65, none, .sll 1 (.s 62) none (some (.s 64))⟩,
    ⟨some 8, none, .mv (.s 65)⟩] [] [8]) .ret)
def c69_1 : ACode :=
  (.seq (.region false [⟨some 58, none, .mv (.s 9)⟩,
    ⟨some 59, none, .mv (.s 10)⟩,
    ⟨some 60, none, .mv (.s 0)⟩,
    ⟨some 61, none, .ia 1 (.s 58) (.s 59)⟩,
    ⟨none, none, .st 1 (.s 61) (.s 60)⟩] [] [9, 10]) c69_0)
def c69_2 : ACode :=
  (.region false [⟨some 56, none, .mv (.s 10)⟩,
    ⟨some 57, none, .bin .add (.s 56) (.c (.t (.int .i64 1)))⟩,
    ⟨some 10, none, .mv (.s 57)⟩] [] [0, 1, 2, 3, 9, 10])
def c69_3 : ACode :=
  (.seq (.region false [⟨some 50, none, .mv (.s 0)⟩,
    ⟨some 51, none, .mv (.s 11)⟩,
    ⟨some 52, none, .mv (.s 1)⟩,
    ⟨some 53, none, .lens (.s 52)⟩,
    ⟨some 54, none, .bin .add (.s 51) (.s 53)⟩,
    ⟨some 55, none, .sls (.s 50) (some (.s 54)) none⟩,
    ⟨some 0, none, .mv (.s 55)⟩] [] [0, 1, 2, 3, 9, 10]) c69_2)
def c69_4 : ACode :=
  (.seq (.region false [⟨some 42, none, .mv (.s 9)⟩,
    ⟨some 43, none, .mv (.s 10)⟩,
    ⟨some 44, none, .mv (.s 0)⟩,
    ⟨some 45, none, .mv (.s 11)⟩,
    ⟨some 46, none, .mv (.s 2)⟩,
    ⟨some 47, none, .bin .add (.s 45) (.s 46)⟩,
    ⟨some 48, none, .sls (.s 44) none (some (.s 47))⟩,
    ⟨some 49, none, .ia 1 (.s 42) (.s 43)⟩,
    ⟨none, none, .st 1 (.s 49) (.s 48)⟩] [] [0, 1, 2, 3, 9, 10, 11]) c69_3)
def c69_5 : ACode :=
  (.cond (.s 41) (.exit 0) .skip)
def c69_6 : ACode :=
  (.seq (.seq (.region false [⟨some 40, none, .mv (.s 11)⟩,
    ⟨some 41, none, .bin .lss (.s 40) (.c (.t (.int .i64 0)))⟩] [] [0, 1, 2, 3, 9, 10, 11, 41]) c69_5) c69_4)
def c69_7 : ACode :=
  (.seq (.region false [⟨some 37, none, .mv (.s 0)⟩,
    ⟨some 38, none, .mv (.s 1)⟩,
    ⟨some 39, none, .call 90 [(.s 37), (.s 38)]⟩,
    ⟨some 11, none, .mv (.s 39)⟩] [] [0, 1, 2, 3, 9, 10, 11]) c69_6)
def c69_8 : ACode :=
  (.block 1 c69_7)
def c69_9 : ACode :=
  (.cond (.s 36) .skip (.exit 0))
def c69_10 : ACode :=
  (.seq (.seq (.region false [⟨some 34, none, .mv (.s 10)⟩,
    ⟨some 35, none, .mv (.s 3)⟩,
    ⟨some 36, none, .bin .lss (.s 34) (.s 35)⟩] [] [0, 1, 2, 3, 9, 10, 36]) c69_9) c69_8)
def c69_11 : ACode :=
  (.loop c69_10)
def c69_12 : ACode :=
  (.seq (.block 0 c69_11) c69_1)
def c69_13 : ACode :=
  (.seq (.region false [⟨some 10, none, .cst (.t (.int .i64 0))⟩] [] [0, 1, 2, 3, 9, 10]) c69_12)
def c69_14 : ACode :=
  (.seq (.region false [⟨some 32, none, .mv (.s 3)⟩,
    ⟨some 33, none, .bin .sub (.s 32) (.c (.t (.int .i64 1)))⟩,
    ⟨some 3, none, .mv (.s 33)⟩] [] [0, 1, 2, 3, 9]) c69_13)
def c69_15 : ACode :=
  (.seq (.region false [⟨some 30, none, .mv (.s 3)⟩,
    ⟨some 31, none, .mksl 1 16 [.t (.str [])] (.s 30)⟩,
    ⟨some 9, none, .mv (.s 31)⟩] [] [0, 1, 2, 3, 9]) c69_14)
def c69_16 : ACode :=
  (.seq (.region false [⟨some 25, none, .mv (.s 3)⟩,
    ⟨some 26, none, .mv (.s 0)⟩,
    ⟨some 27, none, .lens (.s 26)⟩,
    ⟨some 28, none, .bin .add (.s 27) (.c (.t (.int .i64 1)))⟩,
    ⟨some 29, none, .mini (.s 25) (.s 28)⟩,
    ⟨some 3, none, .mv (.s 29)⟩] [] [0, 1, 2, 3]) c69_15)
def c69_17 : ACode :=
  (.region false [⟨some 21, none, .mv (.s 0)⟩,
    ⟨some 22, none, .mv (.s 1)⟩,
    ⟨some 23, none, .call 89 [(.s 21), (.s 22)]⟩,
    ⟨some 24, none, .bin .add (.s 23) (.c (.t (.int .i64 1)))⟩,
    ⟨some 3, none, .mv (.s 24)⟩] [] [0, 1, 2, 3])
def c69_18 : ACode :=
  (.cond (.s 20) c69_17 .skip)
def c69_19 : ACode :=
  (.seq (.seq (.region false [⟨some 19, none, .mv (.s 3)⟩,
    ⟨some 20, none, .bin .lss (.s 19) (.c (.t (.int .i64 0)))⟩] [] [0, 1, 2, 3, 20]) c69_18) c69_16)
def c69_20 : ACode :=
  (.seq (.region false [⟨some 16, none, .mv (.s 0)⟩,
    ⟨some 17, none, .mv (.s 3)⟩,
    ⟨some 18, none, .call 88 [(.s 16), (.s 17)]⟩,
    ⟨some 8, none, .mv (.s 18)⟩] [] [8]) .ret)
def c69_21 : ACode :=
  (.cond (.s 15) c69_20 .skip)
def c69_22 : ACode :=
  (.seq (.seq (.region false [⟨some 14, none, .mv (.s 1)⟩,
    ⟨some 15, none, .bin .eql (.s 14) (.c (.t (.str [])))⟩] [] [0, 1, 2, 3, 15]) c69_21) c69_19)
def c69_23 : ACode :=
  (.seq (.region false [⟨some 8, none, .cst (.nils)⟩] [] [8]) .ret)
def c69_24 : ACode :=
  (.cond (.s 13) c69_23 .skip)
def c69_25 : ACode :=
  (.seq (.seq (.region false [⟨some 12, none, .mv (.s 3)⟩,
    ⟨some 13, none, .bin .eql (.s 12) (.c (.t (.int .i64 0)))⟩] [] [0, 1, 2, 3, 13]) c69_24) c69_22)
def c69 : ACode :=
  (.seq (.region false [⟨some 8, none, .cst (.nils)⟩] [] [0, 1, 2, 3]) c69_25)
def r69 : List ARes := [.tmp 8]
def n69 : Nat := 66
/- 70 strings.HasPrefix -/
def c70_0 : ACode :=
  (.seq (.region false [⟨some 5, none, .mv (.s 0)⟩,
    ⟨some 6, none, .mv (.s 1)⟩,
    ⟨some 7, none, .call 91 [(.s 5), (.s 6)]⟩,
    ⟨some 4, none, .mv (.s 7)⟩] [] [4]) .ret)
def c70 : ACode :=
  (.seq (.region false [⟨some 4, none, .cst (.t (.bool false))⟩] [] [0, 1]) c70_0)
def r70 : List ARes := [.tmp 4]
def n70 : Nat := 8
/- 71 supergraph supergraphref01.letter -/
def c71_0 : ACode :=
  (.seq (.region false [⟨some 3, none, .mv (.s 0)⟩,
    ⟨some 4, none, .bin .geq (.s 3) (.c (.t (.int .u8 65)))⟩,
    ⟨some 5, none, .mv (.s 4)⟩,
    ⟨some 6, some (5, true), .mv (.s 0)⟩,
    ⟨some 7, some (5, true), .bin .leq (.s 6) (.c (.t (.int .u8 90)))⟩,
    ⟨some 8, none, .pick (.s 5) (.s 7) (.c (.t (.bool false)))⟩,
    ⟨some 9, none, .mv (.s 8)⟩,
    ⟨some 10, some (9, false), .mv (.s 0)⟩,
    ⟨some 11, some (9, false), .bin .geq (.s 10) (.c (.t (.int .u8 97)))⟩,
    ⟨some 12, some (9, false), .mv (.s 11)⟩,
    ⟨some 13, some (12, true), .mv (.s 0)⟩,
    ⟨some 14, some (12, true), .bin .leq (.s 13) (.c (.t (.int .u8 122)))⟩,
    ⟨some 15, some (9, false), .pick (.s 12) (.s 14) (.c (.t (.bool false)))⟩,
    ⟨some 16, none, .pick (.s 9) (.c (.t (.bool true))) (.s 15)⟩,
    ⟨some 17, none, .mv (.s 16)⟩,
    ⟨some 18, some (17, false), .mv (.s 0)⟩,
    ⟨some 19, some (17, false), .bin .eql (.s 18) (.c (.t (.int .u8 95)))⟩,
    ⟨some 20, none, .pick (.s 17) (.c (.t (.bool true))) (.s 19)⟩,
    ⟨some 2, none, .mv (.s 20)⟩] [] [2]) .ret)
def c71 : ACode :=
  (.seq (.region false [⟨some 2, none, .cst (.t (.bool false))⟩] [] [0]) c71_0)
def r71 : List ARes := [.tmp 2]
def n71 : Nat := 21
/- 72 supergraph supergraphref01.digit -/
def c72_0 : ACode :=
  (.seq (.region false [⟨some 3, none, .mv (.s 0)⟩,
    ⟨some 4, none, .bin .geq (.s 3) (.c (.t (.int .u8 48)))⟩,
    ⟨some 5, none, .mv (.s 4)⟩,
    ⟨some 6, some (5, true), .mv (.s 0)⟩,
    ⟨some 7, some (5, true), .bin .leq (.s 6) (.c (.t (.int .u8 57)))⟩,
    ⟨some 8, none, .pick (.s 5) (.s 7) (.c (.t (.bool false)))⟩,
    ⟨some 2, none, .mv (.s 8)⟩] [] [2]) .ret)
def c72 : ACode :=
  (.seq (.region false [⟨some 2, none, .cst (.t (.bool false))⟩] [] [0]) c72_0)
def r72 : List ARes := [.tmp 2]
def n72 : Nat := 9
/- 73 supergraph directives.judge -/
/- 74 supergraph supergraphref23.arguments -/
def c74_0 : ACode :=
  (.seq (.region false [⟨some 2, none, .cst (.t (.int .i64 0))⟩] [] [2]) .ret)
def c74_1 : ACode :=
  (.region false [⟨some 70, none, .mv (.s 9)⟩,
    ⟨some 71, none, .bin .add (.s 70) (.c (.t (.int .i64 1)))⟩,
    ⟨some 9, none, .mv (.s 71)⟩] [] [1, 9])
def c74_2 : ACode :=
  (.seq (.region false [⟨some 2, none, .cst (.t (.int .i64 23))⟩] [] [2]) .ret)
def c74_3 : ACode :=
  (.cond (.s 92) c74_2 .skip)
def c74_4 : ACode :=
  (.seq (.region false [⟨some 84, none, .fa 1 (.s 1)⟩,
    ⟨some 85, none, .ld false 1 (.s 84)⟩,
    ⟨some 86, none, .mv (.s 9)⟩,
    ⟨some 87, none, .ia 6 (.s 85) (.s 86)⟩,
    ⟨some 88, none, .fa 1 (.s 87)⟩,
    ⟨some 89, none, .ld true 5 (.s 88)⟩,
    ⟨some 90, none, .mv (.s 10)⟩,
    ⟨some 91, none, .call 96 [(.s 89), (.s 90)]⟩,
    ⟨some 92, none, .un .not (.s 91)⟩] [] [1, 9, 92]) c74_3)
def c74_5 : ACode :=
  (.seq (.region true [⟨some 73, none, .fa 0 (.s 1)⟩,
    ⟨some 74, none, .ld false 1 (.s 73)⟩,
    ⟨some 75, none, .fa 1 (.s 1)⟩,
    ⟨some 76, none, .ld false 1 (.s 75)⟩,
    ⟨some 77, none, .mv (.s 9)⟩,
    ⟨some 78, none, .ia 6 (.s 76) (.s 77)⟩,
    ⟨some 79, none, .fa 0 (.s 78)⟩,
    ⟨some 80, none, .ld false 1 (.s 79)⟩,
    ⟨some 81, none, .call 94 [(.s 74), (.s 80)]⟩,
    ⟨some 72, none, .mv (.s 81)⟩,
    ⟨some 82, none, .ext (.s 72) 0⟩,
    ⟨some 83, none, .ext (.s 72) 1⟩,
    ⟨some 10, none, .mv (.s 82)⟩,
    ⟨some 11, none, .mv (.s 83)⟩] [[], [0], [], [2], [], [3, 4], [5], [6], [1, 7], [8], [9], [9], [10, 8, 0, 1, 2, 3, 4, 5, 6, 7, 8, 9, 10], [11, 12, 0, 1, 2, 3, 4, 5, 6, 7, 8, 9, 10, 11, 12]] [1, 9, 10]) c74_4)
def c74_6 : ACode :=
  (.seq (.block 5 c74_5) c74_1)
def c74_7 : ACode :=
  (.cond (.s 69) .skip (.exit 4))
def c74_8 : ACode :=
  (.seq (.seq (.region false [⟨some 65, none, .mv (.s 9)⟩,
    ⟨some 66, none, .fa 1 (.s 1)⟩,
    ⟨some 67, none, .ld false 1 (.s 66)⟩,
    ⟨some 68, none, .len (.s 67)⟩,
    ⟨some 69, none, .bin .lss (.s 65) (.s 68)⟩] [] [1, 9, 69]) c74_7) c74_6)
def c74_9 : ACode :=
  (.loop c74_8)
def c74_10 : ACode :=
  (.block 4 c74_9)
def c74_11 : ACode :=
  (.seq (.seq (.region false [⟨some 9, none, .cst (.t (.int .i64 0))⟩] [] [1, 9]) c74_10) c74_0)
def c74_12 : ACode :=
  (.seq (.region false [⟨some 2, none, .cst (.t (.int .i64 22))⟩] [] [2]) .ret)
def c74_13 : ACode :=
  (.cond (.s 64) c74_12 .skip)
def c74_14 : ACode :=
  (.seq (.region false [⟨some 63, none, .mv (.s 8)⟩,
    ⟨some 64, none, .un .not (.s 63)⟩] [] [1, 64]) c74_13)
def c74_15 : ACode :=
  (.seq (.region true [⟨some 56, none, .ld true 2 (.s 1)⟩,
    ⟨some 57, none, .fa 0 (.s 1)⟩,
    ⟨some 58, none, .ld false 1 (.s 57)⟩,
    ⟨some 59, none, .call 95 [(.s 58)]⟩,
    ⟨some 60, none, .call 57 [(.s 56), (.s 59)]⟩,
    ⟨some 55, none, .mv (.s 60)⟩,
    ⟨some 61, none, .ext (.s 55) 0⟩,
    ⟨some 62, none, .ext (.s 55) 1⟩,
    ⟨some 7, none, .alloc [.t (.int .i64 0), .t (.int .i64 0), .t (.str []), .nils, .nils]⟩,
    ⟨none, none, .st 5 (.s 7) (.s 61)⟩,
    ⟨some 8, none, .mv (.s 62)⟩] [[], [], [1], [2], [0, 3, 3], [4], [5], [5], [], [8, 6, 4, 0, 1, 2, 3, 4, 5, 6, 8], [7, 9, 0, 1, 2, 3, 4, 5, 6, 7, 8, 9]] [1, 8]) c74_14)
def c74_16 : ACode :=
  (.cond (.s 54) c74_15 .skip)
def c74_17 : ACode :=
  (.seq (.seq (.region false [⟨some 51, none, .fa 0 (.s 1)⟩,
    ⟨some 52, none, .ld false 1 (.s 51)⟩,
    ⟨some 53, none, .call 95 [(.s 52)]⟩,
    ⟨some 54, none, .bin .neq (.s 53) (.c (.t (.str [])))⟩] [] [1, 54]) c74_16) c74_11)
def c74_18 : ACode :=
  (.region false [⟨some 17, none, .mv (.s 3)⟩,
    ⟨some 18, none, .bin .add (.s 17) (.c (.t (.int .i64 1)))⟩,
    ⟨some 3, none, .mv (.s 18)⟩] [] [1, 3])
def c74_19 : ACode :=
  (.region false [⟨some 36, none, .mv (.s 6)⟩,
    ⟨some 37, none, .bin .add (.s 36) (.c (.t (.int .i64 1)))⟩,
    ⟨some 6, none, .mv (.s 37)⟩] [] [1, 3, 6])
def c74_20 : ACode :=
  (.seq (.region false [⟨some 2, none, .cst (.t (.int .i64 22))⟩] [] [2]) .ret)
def c74_21 : ACode :=
  (.cond (.s 50) c74_20 .skip)
def c74_22 : ACode :=
  (.seq (.region true [⟨some 38, none, .fa 1 (.s 1)⟩,
    ⟨some 39, none, .ld false 1 (.s 38)⟩,
    ⟨some 40, none, .mv (.s 6)⟩,
    ⟨some 41, none, .ia 6 (.s 39) (.s 40)⟩,
    ⟨some 42, none, .fa 0 (.s 41)⟩,
    ⟨some 43, none, .ld false 1 (.s 42)⟩,
    ⟨some 44, none, .fa 1 (.s 1)⟩,
    ⟨some 45, none, .ld false 1 (.s 44)⟩,
    ⟨some 46, none, .mv (.s 3)⟩,
    ⟨some 47, none, .ia 6 (.s 45) (.s 46)⟩,
    ⟨some 48, none, .fa 0 (.s 47)⟩,
    ⟨some 49, none, .ld false 1 (.s 48)⟩,
    ⟨some 50, none, .bin .eql (.s 43) (.s 49)⟩] [[], [0], [], [1, 2], [3], [4], [], [6], [], [7, 8], [9], [10], [5, 11]] [1, 3, 6, 50]) c74_21)
def c74_23 : ACode :=
  (.seq (.block 3 c74_22) c74_19)
def c74_24 : ACode :=
  (.cond (.s 35) .skip (.exit 2))
def c74_25 : ACode :=
  (.seq (.seq (.region false [⟨some 33, none, .mv (.s 6)⟩,
    ⟨some 34, none, .mv (.s 3)⟩,
    ⟨some 35, none, .bin .lss (.s 33) (.s 34)⟩] [] [1, 3, 6, 35]) c74_24) c74_23)
def c74_26 : ACode :=
  (.loop c74_25)
def c74_27 : ACode :=
  (.block 2 c74_26)
def c74_28 : ACode :=
  (.seq (.region false [⟨some 6, none, .cst (.t (.int .i64 0))⟩] [] [1, 3, 6]) c74_27)
def c74_29 : ACode :=
  (.seq (.region false [⟨some 2, none, .cst (.t (.int .i64 22))⟩] [] [2]) .ret)
def c74_30 : ACode :=
  (.cond (.s 32) c74_29 .skip)
def c74_31 : ACode :=
  (.seq (.seq (.region false [⟨some 31, none, .mv (.s 4)⟩,
    ⟨some 32, none, .bin .eql (.s 31) (.c (.t (.str [])))⟩] [] [1, 3, 32]) c74_30) c74_28)
def c74_32 : ACode :=
  (.seq (.region true [⟨some 20, none, .fa 0 (.s 1)⟩,
    ⟨some 21, none, .ld false 1 (.s 20)⟩,
    ⟨some 22, none, .fa 1 (.s 1)⟩,
    ⟨some 23, none, .ld false 1 (.s 22)⟩,
    ⟨some 24, none, .mv (.s 3)⟩,
    ⟨some 25, none, .ia 6 (.s 23) (.s 24)⟩,
    ⟨some 26, none, .fa 0 (.s 25)⟩,
    ⟨some 27, none, .ld false 1 (.s 26)⟩,
    ⟨some 28, none, .call 94 [(.s 21), (.s 27)]⟩,
    ⟨some 19, none, .mv (.s 28)⟩,
    ⟨some 29, none, .ext (.s 19) 0⟩,
    ⟨some 30, none, .ext (.s 19) 1⟩,
    ⟨some 4, none, .mv (.s 29)⟩,
    ⟨some 5, none, .mv (.s 30)⟩] [[], [0], [], [2], [], [3, 4], [5], [6], [1, 7], [8], [9], [9], [10, 8, 0, 1, 2, 3, 4, 5, 6, 7, 8, 9, 10], [11, 12, 0, 1, 2, 3, 4, 5, 6, 7, 8, 9, 10, 11, 12]] [1, 3, 4]) c74_31)
def c74_33 : ACode :=
  (.seq (.block 1 c74_32) c74_18)
def c74_34 : ACode :=
  (.cond (.s 16) .skip (.exit 0))
def c74_35 : ACode :=
  (.seq (.seq (.region false [⟨some 12, none, .mv (.s 3)⟩,
    ⟨some 13, none, .fa 1 (.s 1)⟩,
    ⟨some 14, none, .ld false 1 (.s 13)⟩,
    ⟨some 15, none, .len (.s 14)⟩,
    ⟨some 16, none, .bin .lss (.s 12) (.s 15)⟩] [] [1, 3, 16]) c74_34) c74_33)
def c74_36 : ACode :=
  (.loop c74_35)
def c74_37 : ACode :=
  (.block 0 c74_36)
def c74_38 : ACode :=
  (.seq (.seq (.region false [⟨some 3, none, .cst (.t (.int .i64 0))⟩] [] [1, 3]) c74_37) c74_17)
def c74 : ACode :=
  (.seq (.region false [⟨some 1, none, .box 2 (.s 0)⟩,
    ⟨some 2, none, .cst (.t (.int .i64 0))⟩] [] [1]) c74_38)
def r74 : List ARes := [.tmp 2]
def n74 : Nat := 93
/- 75 supergraph supergraphref23.may -/
def c75_0 : ACode :=
  (.seq (.region false [⟨some 4, none, .cst (.t (.bool false))⟩] [] [4]) .ret)
def c75_1 : ACode :=
  (.seq (.region false [⟨some 15, none, .mv (.s 1)⟩,
    ⟨some 16, none, .bin .eql (.s 15) (.c (.t (.int .i64 1)))⟩,
    ⟨some 4, none, .mv (.s 16)⟩] [] [4]) .ret)
def c75_2 : ACode :=
  (.seq (.region false [⟨some 23, none, .mv (.s 1)⟩,
    ⟨some 24, none, .bin .eql (.s 23) (.c (.t (.int .i64 3)))⟩,
    ⟨some 4, none, .mv (.s 24)⟩] [] [4]) .ret)
def c75_3 : ACode :=
  (.seq (.region false [⟨some 27, none, .mv (.s 1)⟩,
    ⟨some 28, none, .bin .neq (.s 27) (.c (.t (.int .i64 6)))⟩,
    ⟨some 4, none, .mv (.s 28)⟩] [] [4]) .ret)
def c75_4 : ACode :=
  (.seq (.region false [⟨some 33, none, .mv (.s 5)⟩,
    ⟨some 34, none, .mv (.s 33)⟩,
    ⟨some 35, some (34, false), .mv (.s 1)⟩,
    ⟨some 36, some (34, false), .bin .eql (.s 35) (.c (.t (.int .i64 1)))⟩,
    ⟨some 37, none, .pick (.s 34) (.c (.t (.bool true))) (.s 36)⟩,
    ⟨some 4, none, .mv (.s 37)⟩] [] [4]) .ret)
def c75_5 : ACode :=
  (.seq (.region false [⟨some 41, none, .mv (.s 5)⟩,
    ⟨some 4, none, .mv (.s 41)⟩] [] [4]) .ret)
def c75_6 : ACode :=
  (.seq (.region false [⟨some 44, none, .mv (.s 5)⟩,
    ⟨some 45, none, .mv (.s 44)⟩,
    ⟨some 46, some (45, false), .mv (.s 1)⟩,
    ⟨some 47, some (45, false), .bin .eql (.s 46) (.c (.t (.int .i64 5)))⟩,
    ⟨some 48, none, .pick (.s 45) (.c (.t (.bool true))) (.s 47)⟩,
    ⟨some 4, none, .mv (.s 48)⟩] [] [4]) .ret)
def c75_7 : ACode :=
  (.cond (.s 42) c75_6 .skip)
def c75_8 : ACode :=
  (.seq (.region false [⟨some 43, none, .bin .eql (.s 12) (.c (.t (.str [100, 101, 112, 114, 101, 99, 97, 116, 101, 100])))⟩,
    ⟨some 42, none, .mv (.s 43)⟩] [] [1, 5, 42]) c75_7)
def c75_9 : ACode :=
  (.cond (.s 38) c75_5 c75_8)
def c75_10 : ACode :=
  (.region false [⟨some 40, none, .bin .eql (.s 12) (.c (.t (.str [108, 105, 115, 116, 83, 105, 122, 101])))⟩,
    ⟨some 38, none, .mv (.s 40)⟩] [] [1, 5, 12, 38])
def c75_11 : ACode :=
  (.cond (.s 38) .skip c75_10)
def c75_12 : ACode :=
  (.seq (.seq (.region false [⟨some 39, none, .bin .eql (.s 12) (.c (.t (.str [99, 111, 115, 116])))⟩,
    ⟨some 38, none, .mv (.s 39)⟩] [] [1, 5, 12, 38]) c75_11) c75_9)
def c75_13 : ACode :=
  (.cond (.s 29) c75_4 c75_12)
def c75_14 : ACode :=
  (.region false [⟨some 32, none, .bin .eql (.s 12) (.c (.t (.str [99, 97, 99, 104, 101, 67, 111, 110, 116, 114, 111, 108])))⟩,
    ⟨some 29, none, .mv (.s 32)⟩] [] [1, 5, 12, 29])
def c75_15 : ACode :=
  (.cond (.s 29) .skip c75_14)
def c75_16 : ACode :=
  (.seq (.region false [⟨some 31, none, .bin .eql (.s 12) (.c (.t (.str [115, 99, 111, 112, 101, 115])))⟩,
    ⟨some 29, none, .mv (.s 31)⟩] [] [1, 5, 12, 29]) c75_15)
def c75_17 : ACode :=
  (.cond (.s 29) .skip c75_16)
def c75_18 : ACode :=
  (.seq (.seq (.region false [⟨some 30, none, .bin .eql (.s 12) (.c (.t (.str [97, 117, 116, 104, 101, 110, 116, 105, 99, 97, 116, 101, 100])))⟩,
    ⟨some 29, none, .mv (.s 30)⟩] [] [1, 5, 12, 29]) c75_17) c75_13)
def c75_19 : ACode :=
  (.cond (.s 25) c75_3 c75_18)
def c75_20 : ACode :=
  (.seq (.region false [⟨some 26, none, .bin .eql (.s 12) (.c (.t (.str [116, 97, 103])))⟩,
    ⟨some 25, none, .mv (.s 26)⟩] [] [1, 5, 12, 25]) c75_19)
def c75_21 : ACode :=
  (.cond (.s 17) c75_2 c75_20)
def c75_22 : ACode :=
  (.region false [⟨some 22, none, .bin .eql (.s 12) (.c (.t (.str [112, 114, 111, 118, 105, 100, 101, 115])))⟩,
    ⟨some 17, none, .mv (.s 22)⟩] [] [1, 5, 12, 17])
def c75_23 : ACode :=
  (.cond (.s 17) .skip c75_22)
def c75_24 : ACode :=
  (.seq (.region false [⟨some 21, none, .bin .eql (.s 12) (.c (.t (.str [114, 101, 113, 117, 105, 114, 101, 115])))⟩,
    ⟨some 17, none, .mv (.s 21)⟩] [] [1, 5, 12, 17]) c75_23)
def c75_25 : ACode :=
  (.cond (.s 17) .skip c75_24)
def c75_26 : ACode :=
  (.seq (.region false [⟨some 20, none, .bin .eql (.s 12) (.c (.t (.str [105, 110, 97, 99, 99, 101, 115, 115, 105, 98, 108, 101])))⟩,
    ⟨some 17, none, .mv (.s 20)⟩] [] [1, 5, 12, 17]) c75_25)
def c75_27 : ACode :=
  (.cond (.s 17) .skip c75_26)
def c75_28 : ACode :=
  (.seq (.region false [⟨some 19, none, .bin .eql (.s 12) (.c (.t (.str [115, 104, 97, 114, 101, 97, 98, 108, 101])))⟩,
    ⟨some 17, none, .mv (.s 19)⟩] [] [1, 5, 12, 17]) c75_27)
def c75_29 : ACode :=
  (.cond (.s 17) .skip c75_28)
def c75_30 : ACode :=
  (.seq (.seq (.region false [⟨some 18, none, .bin .eql (.s 12) (.c (.t (.str [101, 120, 116, 101, 114, 110, 97, 108])))⟩,
    ⟨some 17, none, .mv (.s 18)⟩] [] [1, 5, 12, 17]) c75_29) c75_21)
def c75_31 : ACode :=
  (.cond (.s 13) c75_1 c75_30)
def c75_32 : ACode :=
  (.seq (.region false [⟨some 14, none, .bin .eql (.s 12) (.c (.t (.str [107, 101, 121])))⟩,
    ⟨some 13, none, .mv (.s 14)⟩] [] [1, 5, 12, 13]) c75_31)
def c75_33 : ACode :=
  (.block 0 c75_32)
def c75_34 : ACode :=
  (.seq (.seq (.region false [⟨some 12, none, .mv (.s 0)⟩] [] [1, 5, 12]) c75_33) c75_0)
def c75_35 : ACode :=
  (.seq (.region false [⟨some 6, none, .mv (.s 1)⟩,
    ⟨some 7, none, .bin .eql (.s 6) (.c (.t (.int .i64 3)))⟩,
    ⟨some 8, none, .mv (.s 7)⟩,
    ⟨some 9, some (8, false), .mv (.s 1)⟩,
    ⟨some 10, some (8, false), .bin .eql (.s 9) (.c (.t (.int .i64 4)))⟩,
    ⟨some 11, none, .pick (.s 8) (.c (.t (.bool true))) (.s 10)⟩,
    ⟨some 5, none, .mv (.s 11)⟩] [] [0, 1, 5]) c75_34)
def c75 : ACode :=
  (.seq (.region false [⟨some 4, none, .cst (.t (.bool false))⟩] [] [0, 1]) c75_35)
def r75 : List ARes := [.tmp 4]
def n75 : Nat := 49
/- 76 supergraph supergraphref10.whole -/
def c76_0 : ACode :=
  (.seq (.region false [⟨some 93, none, .mv (.s 8)⟩,
    ⟨some 4, none, .mv (.s 93)⟩] [] [4]) .ret)
def c76_1 : ACode :=
  (.region false [⟨some 87, none, .mv (.s 8)⟩,
    ⟨some 88, none, .fa 1 (.s 5)⟩,
    ⟨some 89, none, .ld false 1 (.s 88)⟩,
    ⟨some 90, none, .build [.t (.int .i64 0), .t (.str [])] [(0, 1, (.c (.t (.int .i64 5)))), (1, 1, (.s 89))]⟩,
    ⟨some 91, none, .bsl false 2 [[.int .i64 0, .str []]] [(0, (.s 90))]⟩,
    ⟨some 92, none, .app 2 24 (.s 87) (.s 91)⟩,
    ⟨some 8, none, .mv (.s 92)⟩] [] [8])
def c76_2 : ACode :=
  (.cond (.s 86) c76_1 .skip)
def c76_3 : ACode :=
  (.seq (.seq (.region false [⟨some 84, none, .ld true 1 (.s 2)⟩,
    ⟨some 85, none, .ld true 7 (.s 5)⟩,
    ⟨some 86, none, .call 100 [(.s 84), (.s 85)]⟩] [] [5, 8, 86]) c76_2) c76_0)
def c76_4 : ACode :=
  (.region false [⟨some 78, none, .mv (.s 8)⟩,
    ⟨some 79, none, .fa 1 (.s 5)⟩,
    ⟨some 80, none, .ld false 1 (.s 79)⟩,
    ⟨some 81, none, .build [.t (.int .i64 0), .t (.str [])] [(0, 1, (.c (.t (.int .i64 9)))), (1, 1, (.s 80))]⟩,
    ⟨some 82, none, .bsl false 2 [[.int .i64 0, .str []]] [(0, (.s 81))]⟩,
    ⟨some 83, none, .app 2 24 (.s 78) (.s 82)⟩,
    ⟨some 8, none, .mv (.s 83)⟩] [] [2, 5, 8])
def c76_5 : ACode :=
  (.cond (.s 77) c76_4 .skip)
def c76_6 : ACode :=
  (.seq (.seq (.region false [⟨some 62, none, .mv (.s 9)⟩,
    ⟨some 63, none, .mv (.s 62)⟩,
    ⟨some 64, some (63, true), .fa 0 (.s 5)⟩,
    ⟨some 65, some (63, true), .ld false 1 (.s 64)⟩,
    ⟨some 66, some (63, true), .bin .neq (.s 65) (.c (.t (.int .i64 1)))⟩,
    ⟨some 67, none, .pick (.s 63) (.s 66) (.c (.t (.bool false)))⟩,
    ⟨some 68, none, .mv (.s 67)⟩,
    ⟨some 69, some (68, false), .fa 0 (.s 5)⟩,
    ⟨some 70, some (68, false), .ld false 1 (.s 69)⟩,
    ⟨some 71, some (68, false), .bin .lss (.s 70) (.c (.t (.int .i64 1)))⟩,
    ⟨some 72, none, .pick (.s 68) (.c (.t (.bool true))) (.s 71)⟩,
    ⟨some 73, none, .mv (.s 72)⟩,
    ⟨some 74, some (73, false), .fa 0 (.s 5)⟩,
    ⟨some 75, some (73, false), .ld false 1 (.s 74)⟩,
    ⟨some 76, some (73, false), .bin .gtr (.s 75) (.c (.t (.int .i64 5)))⟩,
    ⟨some 77, none, .pick (.s 73) (.c (.t (.bool true))) (.s 76)⟩] [] [2, 5, 8, 77]) c76_5) c76_3)
def c76_7 : ACode :=
  (.seq (.region false [⟨some 49, none, .fa 1 (.s 5)⟩,
    ⟨some 50, none, .ld false 1 (.s 49)⟩,
    ⟨some 51, none, .bin .eql (.s 50) (.c (.t (.str [81, 117, 101, 114, 121])))⟩,
    ⟨some 52, none, .mv (.s 51)⟩,
    ⟨some 53, some (52, false), .fa 1 (.s 5)⟩,
    ⟨some 54, some (52, false), .ld false 1 (.s 53)⟩,
    ⟨some 55, some (52, false), .bin .eql (.s 54) (.c (.t (.str [77, 117, 116, 97, 116, 105, 111, 110])))⟩,
    ⟨some 56, none, .pick (.s 52) (.c (.t (.bool true))) (.s 55)⟩,
    ⟨some 57, none, .mv (.s 56)⟩,
    ⟨some 58, some (57, false), .fa 1 (.s 5)⟩,
    ⟨some 59, some (57, false), .ld false 1 (.s 58)⟩,
    ⟨some 60, some (57, false), .bin .eql (.s 59) (.c (.t (.str [83, 117, 98, 115, 99, 114, 105, 112, 116, 105, 111, 110])))⟩,
    ⟨some 61, none, .pick (.s 57) (.c (.t (.bool true))) (.s 60)⟩,
    ⟨some 9, none, .mv (.s 61)⟩] [] [2, 5, 8, 9]) c76_6)
def c76_8 : ACode :=
  (.region false [⟨some 43, none, .mv (.s 8)⟩,
    ⟨some 44, none, .fa 1 (.s 5)⟩,
    ⟨some 45, none, .ld false 1 (.s 44)⟩,
    ⟨some 46, none, .build [.t (.int .i64 0), .t (.str [])] [(0, 1, (.c (.t (.int .i64 8)))), (1, 1, (.s 45))]⟩,
    ⟨some 47, none, .bsl false 2 [[.int .i64 0, .str []]] [(0, (.s 46))]⟩,
    ⟨some 48, none, .app 2 24 (.s 43) (.s 47)⟩,
    ⟨some 8, none, .mv (.s 48)⟩] [] [2, 5, 8])
def c76_9 : ACode :=
  (.cond (.s 42) c76_8 .skip)
def c76_10 : ACode :=
  (.seq (.seq (.region false [⟨some 41, none, .ld true 7 (.s 5)⟩,
    ⟨some 42, none, .call 99 [(.s 41)]⟩] [] [2, 5, 8, 42]) c76_9) c76_7)
def c76_11 : ACode :=
  (.seq (.region false [⟨some 35, none, .fa 1 (.s 5)⟩,
    ⟨some 36, none, .ld false 1 (.s 35)⟩,
    ⟨some 37, none, .mv (.s 6)⟩,
    ⟨some 38, none, .fa 1 (.s 5)⟩,
    ⟨some 39, none, .ld false 1 (.s 38)⟩,
    ⟨some 40, none, .call 98 [(.s 36), (.c (.t (.bool false))), (.s 37), (.s 39)]⟩,
    ⟨some 8, none, .mv (.s 40)⟩] [] [2, 5, 8]) c76_10)
def c76_12 : ACode :=
  (.region false [⟨some 21, none, .mv (.s 7)⟩,
    ⟨some 22, none, .bin .add (.s 21) (.c (.t (.int .i64 1)))⟩,
    ⟨some 7, none, .mv (.s 22)⟩] [] [1, 2, 5, 6, 7])
def c76_13 : ACode :=
  (.region true [⟨some 23, none, .mv (.s 6)⟩,
    ⟨some 24, none, .mv (.s 23)⟩,
    ⟨some 25, some (24, false), .fa 0 (.s 2)⟩,
    ⟨some 26, some (24, false), .ld false 1 (.s 25)⟩,
    ⟨some 27, some (24, false), .mv (.s 7)⟩,
    ⟨some 28, some (24, false), .ia 7 (.s 26) (.s 27)⟩,
    ⟨some 29, some (24, false), .fa 1 (.s 28)⟩,
    ⟨some 30, some (24, false), .ld false 1 (.s 29)⟩,
    ⟨some 31, some (24, false), .fa 1 (.s 5)⟩,
    ⟨some 32, some (24, false), .ld false 1 (.s 31)⟩,
    ⟨some 33, some (24, false), .bin .eql (.s 30) (.s 32)⟩,
    ⟨some 34, none, .pick (.s 24) (.c (.t (.bool true))) (.s 33)⟩,
    ⟨some 6, none, .mv (.s 34)⟩] [[], [0], [1], [2, 1], [1], [3, 4, 1], [5, 1], [6, 1], [1], [8, 1], [7, 9, 1], [1, 10], [11, 1, 0, 1, 2, 3, 4, 5, 6, 7, 8, 9, 10, 11]] [1, 2, 5, 6, 7])
def c76_14 : ACode :=
  (.seq (.block 1 c76_13) c76_12)
def c76_15 : ACode :=
  (.cond (.s 20) .skip (.exit 0))
def c76_16 : ACode :=
  (.seq (.seq (.region false [⟨some 18, none, .mv (.s 7)⟩,
    ⟨some 19, none, .mv (.s 1)⟩,
    ⟨some 20, none, .bin .lss (.s 18) (.s 19)⟩] [] [1, 2, 5, 6, 7, 20]) c76_15) c76_14)
def c76_17 : ACode :=
  (.loop c76_16)
def c76_18 : ACode :=
  (.block 0 c76_17)
def c76_19 : ACode :=
  (.seq (.seq (.region false [⟨some 7, none, .cst (.t (.int .i64 0))⟩] [] [1, 2, 5, 6, 7]) c76_18) c76_11)
def c76_20 : ACode :=
  (.seq (.region false [⟨some 15, none, .fa 1 (.s 5)⟩,
    ⟨some 16, none, .ld false 1 (.s 15)⟩,
    ⟨some 17, none, .call 97 [(.s 16)]⟩,
    ⟨some 6, none, .mv (.s 17)⟩] [] [1, 2, 5, 6]) c76_19)
def c76_21 : ACode :=
  (.seq (.region false [⟨some 10, none, .fa 0 (.s 2)⟩,
    ⟨some 11, none, .ld false 1 (.s 10)⟩,
    ⟨some 12, none, .mv (.s 1)⟩,
    ⟨some 13, none, .ia 7 (.s 11) (.s 12)⟩,
    ⟨some 14, none, .ld true 7 (.s 13)⟩,
    ⟨some 5, none, .alloc [.t (.int .i64 0), .t (.str []), .nils, .nils, .nils, .nils, .nils]⟩,
    ⟨none, none, .st 7 (.s 5) (.s 14)⟩] [] [1, 2, 5]) c76_20)
def c76 : ACode :=
  (.seq (.region false [⟨some 2, none, .box 1 (.s 0)⟩,
    ⟨some 4, none, .cst (.nils)⟩] [] [1, 2]) c76_21)
def r76 : List ARes := [.tmp 4]
def n76 : Nat := 94
/- 77 supergraph supergraphref10.fields -/
def c77_0 : ACode :=
  (.seq (.region false [⟨some 94, none, .mv (.s 5)⟩,
    ⟨some 4, none, .mv (.s 94)⟩] [] [4]) .ret)
def c77_1 : ACode :=
  (.region false [⟨some 18, none, .mv (.s 6)⟩,
    ⟨some 19, none, .bin .add (.s 18) (.c (.t (.int .i64 1)))⟩,
    ⟨some 6, none, .mv (.s 19)⟩] [] [2, 3, 5, 6])
def c77_2 : ACode :=
  (.region false [⟨some 86, none, .mv (.s 5)⟩,
    ⟨some 87, none, .ld true 1 (.s 2)⟩,
    ⟨some 88, none, .fa 1 (.s 7)⟩,
    ⟨some 89, none, .ld false 1 (.s 88)⟩,
    ⟨some 90, none, .mv (.s 8)⟩,
    ⟨some 91, none, .bin .add (.s 90) (.c (.t (.str [40])))⟩,
    ⟨some 92, none, .call 79 [(.s 87), (.s 89), (.s 91), (.c (.t (.str [41])))]⟩,
    ⟨some 93, none, .app 2 24 (.s 86) (.s 92)⟩,
    ⟨some 5, none, .mv (.s 93)⟩] [] [2, 3, 5, 6])
def c77_3 : ACode :=
  (.region false [⟨some 63, none, .mv (.s 5)⟩,
    ⟨some 64, none, .mv (.s 8)⟩,
    ⟨some 65, none, .build [.t (.int .i64 0), .t (.str [])] [(0, 1, (.c (.t (.int .i64 8)))), (1, 1, (.s 64))]⟩,
    ⟨some 66, none, .bsl false 2 [[.int .i64 0, .str []]] [(0, (.s 65))]⟩,
    ⟨some 67, none, .app 2 24 (.s 63) (.s 66)⟩,
    ⟨some 5, none, .mv (.s 67)⟩] [] [2, 3, 5, 6, 7, 8])
def c77_4 : ACode :=
  (.region false [⟨some 81, none, .mv (.s 5)⟩,
    ⟨some 82, none, .mv (.s 8)⟩,
    ⟨some 83, none, .build [.t (.int .i64 0), .t (.str [])] [(0, 1, (.c (.t (.int .i64 10)))), (1, 1, (.s 82))]⟩,
    ⟨some 84, none, .bsl false 2 [[.int .i64 0, .str []]] [(0, (.s 83))]⟩,
    ⟨some 85, none, .app 2 24 (.s 81) (.s 84)⟩,
    ⟨some 5, none, .mv (.s 85)⟩] [] [2, 3, 5, 6, 7, 8])
def c77_5 : ACode :=
  (.cond (.s 80) c77_4 .skip)
def c77_6 : ACode :=
  (.seq (.region false [⟨some 68, none, .fa 2 (.s 7)⟩,
    ⟨some 69, none, .fa 0 (.s 68)⟩,
    ⟨some 70, none, .ld false 1 (.s 69)⟩,
    ⟨some 71, none, .call 97 [(.s 70)]⟩,
    ⟨some 72, none, .un .not (.s 71)⟩,
    ⟨some 73, none, .mv (.s 72)⟩,
    ⟨some 74, some (73, true), .mv (.s 12)⟩,
    ⟨some 75, none, .pick (.s 73) (.s 74) (.c (.t (.bool false)))⟩,
    ⟨some 76, none, .mv (.s 75)⟩,
    ⟨some 77, some (76, true), .fa 0 (.s 11)⟩,
    ⟨some 78, some (76, true), .ld false 1 (.s 77)⟩,
    ⟨some 79, some (76, true), .bin .eql (.s 78) (.c (.t (.int .i64 5)))⟩,
    ⟨some 80, none, .pick (.s 76) (.s 79) (.c (.t (.bool false)))⟩] [] [2, 3, 5, 6, 7, 8, 80]) c77_5)
def c77_7 : ACode :=
  (.cond (.s 62) c77_3 c77_6)
def c77_8 : ACode :=
  (.seq (.seq (.region false [⟨some 57, none, .ld true 1 (.s 2)⟩,
    ⟨some 58, none, .fa 2 (.s 7)⟩,
    ⟨some 59, none, .fa 0 (.s 58)⟩,
    ⟨some 60, none, .ld false 1 (.s 59)⟩,
    ⟨some 61, none, .call 102 [(.s 57), (.s 60)]⟩,
    ⟨some 62, none, .un .not (.s 61)⟩] [] [2, 3, 5, 6, 7, 8, 11, 12, 62]) c77_7) c77_2)
def c77_9 : ACode :=
  (.seq (.region false [⟨some 50, none, .ld true 1 (.s 2)⟩,
    ⟨some 51, none, .fa 2 (.s 7)⟩,
    ⟨some 52, none, .fa 0 (.s 51)⟩,
    ⟨some 53, none, .ld false 1 (.s 52)⟩,
    ⟨some 54, none, .call 80 [(.s 50), (.s 53)]⟩,
    ⟨some 49, none, .mv (.s 54)⟩,
    ⟨some 55, none, .ext (.s 49) 0⟩,
    ⟨some 56, none, .ext (.s 49) 1⟩,
    ⟨some 11, none, .alloc [.t (.int .i64 0), .t (.str []), .nils, .nils, .nils, .nils, .nils]⟩,
    ⟨none, none, .st 7 (.s 11) (.s 55)⟩,
    ⟨some 12, none, .mv (.s 56)⟩] [] [2, 3, 5, 6, 7, 8, 11, 12]) c77_8)
def c77_10 : ACode :=
  (.seq (.region false [⟨some 42, none, .mv (.s 5)⟩,
    ⟨some 43, none, .fa 0 (.s 7)⟩,
    ⟨some 44, none, .ld false 1 (.s 43)⟩,
    ⟨some 45, none, .mv (.s 10)⟩,
    ⟨some 46, none, .mv (.s 8)⟩,
    ⟨some 47, none, .call 98 [(.s 44), (.c (.t (.bool false))), (.s 45), (.s 46)]⟩,
    ⟨some 48, none, .app 2 24 (.s 42) (.s 47)⟩,
    ⟨some 5, none, .mv (.s 48)⟩] [] [2, 3, 5, 6, 7, 8]) c77_9)
def c77_11 : ACode :=
  (.seq (.region true [⟨some 32, none, .fa 4 (.s 3)⟩,
    ⟨some 33, none, .ld false 1 (.s 32)⟩,
    ⟨some 34, none, .mv (.s 6)⟩,
    ⟨some 35, none, .sll 5 (.s 33) none (some (.s 34))⟩,
    ⟨some 36, none, .build [.t (.int .i64 0), .t (.str []), .nils, .nils, .nils, .nils, .nils] [(4, 1, (.s 35))]⟩,
    ⟨some 37, none, .fa 0 (.s 7)⟩,
    ⟨some 38, none, .ld false 1 (.s 37)⟩,
    ⟨some 39, none, .call 101 [(.s 36), (.s 38)]⟩,
    ⟨some 31, none, .mv (.s 39)⟩,
    ⟨some 40, none, .ext (.s 31) 0⟩,
    ⟨some 41, none, .ext (.s 31) 1⟩,
    ⟨some 9, none, .alloc [.t (.str []), .nils, .t (.str []), .nils, .nils]⟩,
    ⟨none, none, .st 5 (.s 9) (.s 40)⟩,
    ⟨some 10, none, .mv (.s 41)⟩] [[], [0], [], [1, 2], [3], [], [5], [4, 6], [7], [8], [8], [], [11, 9, 7, 0, 1, 2, 3, 4, 5, 6, 7, 8, 9, 11], [10, 12, 0, 1, 2, 3, 4, 5, 6, 7, 8, 9, 10, 11, 12]] [2, 3, 5, 6, 7, 8, 10]) c77_10)
def c77_12 : ACode :=
  (.seq (.region false [⟨some 25, none, .fa 1 (.s 3)⟩,
    ⟨some 26, none, .ld false 1 (.s 25)⟩,
    ⟨some 27, none, .bin .add (.s 26) (.c (.t (.str [46])))⟩,
    ⟨some 28, none, .fa 0 (.s 7)⟩,
    ⟨some 29, none, .ld false 1 (.s 28)⟩,
    ⟨some 30, none, .bin .add (.s 27) (.s 29)⟩,
    ⟨some 8, none, .mv (.s 30)⟩] [] [2, 3, 5, 6, 7, 8]) c77_11)
def c77_13 : ACode :=
  (.seq (.region false [⟨some 20, none, .fa 4 (.s 3)⟩,
    ⟨some 21, none, .ld false 1 (.s 20)⟩,
    ⟨some 22, none, .mv (.s 6)⟩,
    ⟨some 23, none, .ia 5 (.s 21) (.s 22)⟩,
    ⟨some 24, none, .ld true 5 (.s 23)⟩,
    ⟨some 7, none, .alloc [.t (.str []), .nils, .t (.str []), .nils, .nils]⟩,
    ⟨none, none, .st 5 (.s 7) (.s 24)⟩] [] [2, 3, 5, 6, 7]) c77_12)
def c77_14 : ACode :=
  (.seq (.block 1 c77_13) c77_1)
def c77_15 : ACode :=
  (.cond (.s 17) .skip (.exit 0))
def c77_16 : ACode :=
  (.seq (.seq (.region false [⟨some 13, none, .mv (.s 6)⟩,
    ⟨some 14, none, .fa 4 (.s 3)⟩,
    ⟨some 15, none, .ld false 1 (.s 14)⟩,
    ⟨some 16, none, .len (.s 15)⟩,
    ⟨some 17, none, .bin .lss (.s 13) (.s 16)⟩] [] [2, 3, 5, 6, 17]) c77_15) c77_14)
def c77_17 : ACode :=
  (.loop c77_16)
def c77_18 : ACode :=
  (.block 0 c77_17)
def c77_19 : ACode :=
  (.seq (.seq (.region false [⟨some 6, none, .cst (.t (.int .i64 0))⟩] [] [2, 3, 5, 6]) c77_18) c77_0)
def c77_20 : ACode :=
  (.seq (.region false [⟨some 5, none, .cst (.nils)⟩] [] [2, 3, 5]) c77_19)
def c77 : ACode :=
  (.seq (.region false [⟨some 2, none, .box 1 (.s 0)⟩,
    ⟨some 3, none, .box 7 (.s 1)⟩,
    ⟨some 4, none, .cst (.nils)⟩] [] [2, 3]) c77_20)
def r77 : List ARes := [.tmp 4]
def n77 : Nat := 95
/- 78 supergraph supergraphref10.members -/
def c78_0 : ACode :=
  (.seq (.region false [⟨some 57, none, .mv (.s 3)⟩,
    ⟨some 2, none, .mv (.s 57)⟩] [] [2]) .ret)
def c78_1 : ACode :=
  (.region false [⟨some 13, none, .mv (.s 4)⟩,
    ⟨some 14, none, .bin .add (.s 13) (.c (.t (.int .i64 1)))⟩,
    ⟨some 4, none, .mv (.s 14)⟩] [] [1, 3, 4])
def c78_2 : ACode :=
  (.region false [⟨some 37, none, .mv (.s 3)⟩,
    ⟨some 38, none, .mv (.s 5)⟩,
    ⟨some 39, none, .mv (.s 5)⟩,
    ⟨some 40, none, .bin .eql (.s 39) (.c (.t (.str [116, 114, 117, 101])))⟩,
    ⟨some 41, none, .mv (.s 40)⟩,
    ⟨some 42, some (41, false), .mv (.s 5)⟩,
    ⟨some 43, some (41, false), .bin .eql (.s 42) (.c (.t (.str [102, 97, 108, 115, 101])))⟩,
    ⟨some 44, none, .pick (.s 41) (.c (.t (.bool true))) (.s 43)⟩,
    ⟨some 45, none, .mv (.s 44)⟩,
    ⟨some 46, some (45, false), .mv (.s 5)⟩,
    ⟨some 47, some (45, false), .bin .eql (.s 46) (.c (.t (.str [110, 117, 108, 108])))⟩,
    ⟨some 48, none, .pick (.s 45) (.c (.t (.bool true))) (.s 47)⟩,
    ⟨some 49, none, .mv (.s 6)⟩,
    ⟨some 50, none, .fa 1 (.s 1)⟩,
    ⟨some 51, none, .ld false 1 (.s 50)⟩,
    ⟨some 52, none, .bin .add (.s 51) (.c (.t (.str [46])))⟩,
    ⟨some 53, none, .mv (.s 5)⟩,
    ⟨some 54, none, .bin .add (.s 52) (.s 53)⟩,
    ⟨some 55, none, .call 98 [(.s 38), (.s 48), (.s 49), (.s 54)]⟩,
    ⟨some 56, none, .app 2 24 (.s 37) (.s 55)⟩,
    ⟨some 3, none, .mv (.s 56)⟩] [] [1, 3, 4])
def c78_3 : ACode :=
  (.region false [⟨some 24, none, .mv (.s 7)⟩,
    ⟨some 25, none, .bin .add (.s 24) (.c (.t (.int .i64 1)))⟩,
    ⟨some 7, none, .mv (.s 25)⟩] [] [1, 3, 4, 5, 6, 7])
def c78_4 : ACode :=
  (.region false [⟨some 26, none, .mv (.s 6)⟩,
    ⟨some 27, none, .mv (.s 26)⟩,
    ⟨some 28, some (27, false), .fa 5 (.s 1)⟩,
    ⟨some 29, some (27, false), .ld false 1 (.s 28)⟩,
    ⟨some 30, some (27, false), .mv (.s 7)⟩,
    ⟨some 31, some (27, false), .ia 2 (.s 29) (.s 30)⟩,
    ⟨some 32, some (27, false), .fa 0 (.s 31)⟩,
    ⟨some 33, some (27, false), .ld false 1 (.s 32)⟩,
    ⟨some 34, some (27, false), .mv (.s 5)⟩,
    ⟨some 35, some (27, false), .bin .eql (.s 33) (.s 34)⟩,
    ⟨some 36, none, .pick (.s 27) (.c (.t (.bool true))) (.s 35)⟩,
    ⟨some 6, none, .mv (.s 36)⟩] [] [1, 3, 4, 5, 6, 7])
def c78_5 : ACode :=
  (.seq (.block 3 c78_4) c78_3)
def c78_6 : ACode :=
  (.cond (.s 23) .skip (.exit 2))
def c78_7 : ACode :=
  (.seq (.seq (.region false [⟨some 21, none, .mv (.s 7)⟩,
    ⟨some 22, none, .mv (.s 4)⟩,
    ⟨some 23, none, .bin .lss (.s 21) (.s 22)⟩] [] [1, 3, 4, 5, 6, 7, 23]) c78_6) c78_5)
def c78_8 : ACode :=
  (.loop c78_7)
def c78_9 : ACode :=
  (.block 2 c78_8)
def c78_10 : ACode :=
  (.seq (.seq (.region false [⟨some 7, none, .cst (.t (.int .i64 0))⟩] [] [1, 3, 4, 5, 6, 7]) c78_9) c78_2)
def c78_11 : ACode :=
  (.seq (.region false [⟨some 6, none, .cst (.t (.bool false))⟩] [] [1, 3, 4, 5, 6]) c78_10)
def c78_12 : ACode :=
  (.seq (.region false [⟨some 15, none, .fa 5 (.s 1)⟩,
    ⟨some 16, none, .ld false 1 (.s 15)⟩,
    ⟨some 17, none, .mv (.s 4)⟩,
    ⟨some 18, none, .ia 2 (.s 16) (.s 17)⟩,
    ⟨some 19, none, .fa 0 (.s 18)⟩,
    ⟨some 20, none, .ld false 1 (.s 19)⟩,
    ⟨some 5, none, .mv (.s 20)⟩] [] [1, 3, 4, 5]) c78_11)
def c78_13 : ACode :=
  (.seq (.block 1 c78_12) c78_1)
def c78_14 : ACode :=
  (.cond (.s 12) .skip (.exit 0))
def c78_15 : ACode :=
  (.seq (.seq (.region false [⟨some 8, none, .mv (.s 4)⟩,
    ⟨some 9, none, .fa 5 (.s 1)⟩,
    ⟨some 10, none, .ld false 1 (.s 9)⟩,
    ⟨some 11, none, .len (.s 10)⟩,
    ⟨some 12, none, .bin .lss (.s 8) (.s 11)⟩] [] [1, 3, 4, 12]) c78_14) c78_13)
def c78_16 : ACode :=
  (.loop c78_15)
def c78_17 : ACode :=
  (.block 0 c78_16)
def c78_18 : ACode :=
  (.seq (.seq (.region false [⟨some 4, none, .cst (.t (.int .i64 0))⟩] [] [1, 3, 4]) c78_17) c78_0)
def c78_19 : ACode :=
  (.seq (.region false [⟨some 3, none, .cst (.nils)⟩] [] [1, 3]) c78_18)
def c78 : ACode :=
  (.seq (.region false [⟨some 1, none, .box 7 (.s 0)⟩,
    ⟨some 2, none, .cst (.nils)⟩] [] [1]) c78_19)
def r78 : List ARes := [.tmp 2]
def n78 : Nat := 58

end Go.GB.C11

