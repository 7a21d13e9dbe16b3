/-
  YtjbpmfglccfkaaaDoorP5: lemmas of this proof (part 5). No conditions.
-/
import Derived.Test.YtjbpmfglccfkaaaDoorP2
import Derived.Test.YtjbpmfglccfkaaaDoorP3
import Derived.KernelRfl
import Derived.Test.YtjbpmfglccfkaaaDoorP4

/-
  F23Code: the code of some functions as abstract code (printed by program).
-/
namespace Go.GB.C11
open Go.GB
/- 3 supergraph supergraphlaw23.DirectivesSets -/
def c3_0 : ACode :=
  (.seq (.region false [⟨some 58, none, .mv (.s 4)⟩,
    ⟨some 59, none, .bin .neq (.s 58) (.c (.t (.int .i64 0)))⟩,
    ⟨some 60, none, .mv (.s 59)⟩,
    ⟨some 61, some (60, false), .mv (.s 7)⟩,
    ⟨some 62, some (60, false), .mv (.s 0)⟩,
    ⟨some 63, some (60, false), .bin .eql (.s 61) (.s 62)⟩,
    ⟨some 64, none, .pick (.s 60) (.c (.t (.bool true))) (.s 63)⟩,
    ⟨some 65, none, .mv (.s 64)⟩,
    ⟨some 66, some (65, true), .call 12 []⟩,
    ⟨some 67, none, .pick (.s 65) (.s 66) (.c (.t (.bool false)))⟩,
    ⟨some 2, none, .mv (.s 67)⟩] [] [2]) .ret)
def c3_1 : ACode :=
  (.region false [⟨some 37, none, .mv (.s 8)⟩,
    ⟨some 38, none, .bin .add (.s 37) (.c (.t (.int .i64 1)))⟩,
    ⟨some 8, none, .mv (.s 38)⟩] [] [0, 3, 4, 5, 7, 8])
def c3_2 : ACode :=
  (.region false [⟨some 52, none, .mv (.s 7)⟩,
    ⟨some 53, none, .mv (.s 3)⟩,
    ⟨some 54, none, .mv (.s 8)⟩,
    ⟨some 55, none, .ia 1 (.s 53) (.s 54)⟩,
    ⟨some 56, none, .ld false 1 (.s 55)⟩,
    ⟨some 57, none, .bin .add (.s 52) (.s 56)⟩,
    ⟨some 7, none, .mv (.s 57)⟩] [] [0, 3, 4, 5, 7, 8])
def c3_3 : ACode :=
  (.region false [⟨some 50, none, .mv (.s 7)⟩,
    ⟨some 51, none, .bin .add (.s 50) (.c (.t (.str [32])))⟩,
    ⟨some 7, none, .mv (.s 51)⟩] [] [0, 3, 4, 5, 7, 8])
def c3_4 : ACode :=
  (.cond (.s 49) c3_3 .skip)
def c3_5 : ACode :=
  (.seq (.seq (.region false [⟨some 48, none, .mv (.s 8)⟩,
    ⟨some 49, none, .bin .gtr (.s 48) (.c (.t (.int .i64 0)))⟩] [] [0, 3, 4, 5, 7, 8, 49]) c3_4) c3_2)
def c3_6 : ACode :=
  (.seq (.region false [⟨some 2, none, .cst (.t (.bool false))⟩] [] [2]) .ret)
def c3_7 : ACode :=
  (.cond (.s 47) c3_6 .skip)
def c3_8 : ACode :=
  (.seq (.seq (.region true [⟨some 39, none, .mv (.s 3)⟩,
    ⟨some 40, none, .mv (.s 8)⟩,
    ⟨some 41, none, .ia 1 (.s 39) (.s 40)⟩,
    ⟨some 42, none, .ld false 1 (.s 41)⟩,
    ⟨some 43, none, .mv (.s 5)⟩,
    ⟨some 44, none, .mv (.s 8)⟩,
    ⟨some 45, none, .ia 1 (.s 43) (.s 44)⟩,
    ⟨some 46, none, .ld false 1 (.s 45)⟩,
    ⟨some 47, none, .bin .neq (.s 42) (.s 46)⟩] [[], [], [0, 1], [2], [], [], [4, 5], [6], [3, 7]] [0, 3, 4, 5, 7, 8, 47]) c3_7) c3_5)
def c3_9 : ACode :=
  (.seq (.block 1 c3_8) c3_1)
def c3_10 : ACode :=
  (.cond (.s 36) .skip (.exit 0))
def c3_11 : ACode :=
  (.seq (.seq (.region false [⟨some 33, none, .mv (.s 8)⟩,
    ⟨some 34, none, .mv (.s 3)⟩,
    ⟨some 35, none, .len (.s 34)⟩,
    ⟨some 36, none, .bin .lss (.s 33) (.s 35)⟩] [] [0, 3, 4, 5, 7, 8, 36]) c3_10) c3_9)
def c3_12 : ACode :=
  (.loop c3_11)
def c3_13 : ACode :=
  (.block 0 c3_12)
def c3_14 : ACode :=
  (.seq (.seq (.region false [⟨some 8, none, .cst (.t (.int .i64 0))⟩] [] [0, 3, 4, 5, 7, 8]) c3_13) c3_0)
def c3_15 : ACode :=
  (.seq (.region false [⟨some 7, none, .cst (.t (.str []))⟩] [] [0, 3, 4, 5, 7]) c3_14)
def c3_16 : ACode :=
  (.seq (.region false [⟨some 2, none, .cst (.t (.bool false))⟩] [] [2]) .ret)
def c3_17 : ACode :=
  (.cond (.s 32) c3_16 .skip)
def c3_18 : ACode :=
  (.seq (.seq (.region false [⟨some 23, none, .mv (.s 3)⟩,
    ⟨some 24, none, .len (.s 23)⟩,
    ⟨some 25, none, .mv (.s 5)⟩,
    ⟨some 26, none, .len (.s 25)⟩,
    ⟨some 27, none, .bin .neq (.s 24) (.s 26)⟩,
    ⟨some 28, none, .mv (.s 27)⟩,
    ⟨some 29, some (28, false), .mv (.s 4)⟩,
    ⟨some 30, some (28, false), .mv (.s 6)⟩,
    ⟨some 31, some (28, false), .bin .neq (.s 29) (.s 30)⟩,
    ⟨some 32, none, .pick (.s 28) (.c (.t (.bool true))) (.s 31)⟩] [] [0, 3, 4, 5, 32]) c3_17) c3_15)
def c3_19 : ACode :=
  (.seq (.region false [⟨some 19, none, .mv (.s 0)⟩,
    ⟨some 20, none, .call 14 [(.s 19)]⟩,
    ⟨some 18, none, .mv (.s 20)⟩,
    ⟨some 21, none, .ext (.s 18) 0⟩,
    ⟨some 22, none, .ext (.s 18) 1⟩,
    ⟨some 5, none, .mv (.s 21)⟩,
    ⟨some 6, none, .mv (.s 22)⟩] [] [0, 3, 4, 5, 6]) c3_18)
def c3_20 : ACode :=
  (.seq (.region false [⟨some 14, none, .mv (.s 0)⟩,
    ⟨some 15, none, .call 13 [(.s 14)]⟩,
    ⟨some 13, none, .mv (.s 15)⟩,
    ⟨some 16, none, .ext (.s 13) 0⟩,
    ⟨some 17, none, .ext (.s 13) 1⟩,
    ⟨some 3, none, .mv (.s 16)⟩,
    ⟨some 4, none, .mv (.s 17)⟩] [] [0, 3, 4]) c3_19)
def c3_21 : ACode :=
  (.seq (.region false [⟨some 12, none, .call 12 []⟩,
    ⟨some 2, none, .mv (.s 12)⟩] [] [2]) .ret)
def c3_22 : ACode :=
  (.cond (.s 11) c3_21 .skip)
def c3_23 : ACode :=
  (.seq (.seq (.region false [⟨some 9, none, .mv (.s 0)⟩,
    ⟨some 10, none, .lens (.s 9)⟩,
    ⟨some 11, none, .bin .gtr (.s 10) (.c (.t (.int .i64 1000)))⟩] [] [0, 11]) c3_22) c3_20)
def c3 : ACode :=
  (.seq (.region false [⟨some 2, none, .cst (.t (.bool false))⟩] [] [0]) c3_23)
def r3 : List ARes := [.tmp 2]
def n3 : Nat := 68
/- 4 supergraph supergraphlaw23.DirectivesCheck -/
def c4_0 : ACode :=
  (.seq (.region true [⟨some 6, none, .ld true 1 (.s 1)⟩,
    ⟨some 7, none, .call 17 [(.s 6)]⟩,
    ⟨some 8, none, .ld true 1 (.s 1)⟩,
    ⟨some 9, none, .call 18 [(.s 8)]⟩,
    ⟨some 10, none, .call 16 [(.s 7), (.s 9)]⟩,
    ⟨some 11, none, .mv (.s 10)⟩,
    ⟨some 12, some (11, true), .call 12 []⟩,
    ⟨some 13, none, .pick (.s 11) (.s 12) (.c (.t (.bool false)))⟩,
    ⟨some 2, none, .mv (.s 13)⟩] [[], [0], [], [2, 1], [1, 3, 3], [4, 4], [5, 5], [5, 6], [7, 6, 0, 1, 2, 3, 4, 5, 6, 7]] [2]) .ret)
def c4_1 : ACode :=
  (.seq (.region false [⟨some 5, none, .call 12 []⟩,
    ⟨some 2, none, .mv (.s 5)⟩] [] [2]) .ret)
def c4_2 : ACode :=
  (.cond (.s 4) c4_1 .skip)
def c4_3 : ACode :=
  (.seq (.seq (.region false [⟨some 3, none, .ld true 1 (.s 1)⟩,
    ⟨some 4, none, .call 15 [(.s 3)]⟩] [] [1, 4]) c4_2) c4_0)
def c4 : ACode :=
  (.seq (.region false [⟨some 1, none, .box 1 (.s 0)⟩,
    ⟨some 2, none, .cst (.t (.bool false))⟩] [] [1]) c4_3)
def r4 : List ARes := [.tmp 2]
def n4 : Nat := 14
/- 5 supergraph supergraphlaw23.DirectivesUnknown -/
/- 6 supergraph supergraphlaw23.DirectivesPublic -/
/- 7 supergraph supergraphlaw23.DirectivesFind -/
/- 8 supergraph supergraphlaw25.MovesSound -/
/- 9 supergraph supergraphlaw25.MovesOrder -/
/- 10 supergraph supergraphlaw25.MovesAlone -/
/- 11 supergraph supergraphlaw25.MovesFinds -/
def c11_0 : ACode :=
  (.seq (.region false [⟨some 95, none, .call 32 []⟩,
    ⟨some 8, none, .mv (.s 95)⟩] [] [8]) .ret)
def c11_1 : ACode :=
  (.region false [⟨some 83, none, .mv (.s 15)⟩,
    ⟨some 84, none, .bin .add (.s 83) (.c (.t (.int .i64 1)))⟩,
    ⟨some 15, none, .mv (.s 84)⟩] [] [13, 14, 15])
def c11_2 : ACode :=
  (.seq (.region false [⟨some 8, none, .cst (.t (.bool false))⟩] [] [8]) .ret)
def c11_3 : ACode :=
  (.cond (.s 94) c11_2 .skip)
def c11_4 : ACode :=
  (.seq (.region true [⟨some 85, none, .mv (.s 13)⟩,
    ⟨some 86, none, .mv (.s 15)⟩,
    ⟨some 87, none, .ia 1 (.s 85) (.s 86)⟩,
    ⟨some 88, none, .ld false 1 (.s 87)⟩,
    ⟨some 89, none, .mv (.s 14)⟩,
    ⟨some 90, none, .mv (.s 15)⟩,
    ⟨some 91, none, .ia 1 (.s 89) (.s 90)⟩,
    ⟨some 92, none, .ld false 1 (.s 91)⟩,
    ⟨some 93, none, .call 43 [(.s 88), (.s 92)]⟩,
    ⟨some 94, none, .un .not (.s 93)⟩] [[], [], [0, 1], [2], [], [], [4, 5], [6], [3, 7], [8]] [13, 14, 15, 94]) c11_3)
def c11_5 : ACode :=
  (.seq (.block 1 c11_4) c11_1)
def c11_6 : ACode :=
  (.cond (.s 82) .skip (.exit 0))
def c11_7 : ACode :=
  (.seq (.seq (.region false [⟨some 79, none, .mv (.s 15)⟩,
    ⟨some 80, none, .mv (.s 13)⟩,
    ⟨some 81, none, .len (.s 80)⟩,
    ⟨some 82, none, .bin .lss (.s 79) (.s 81)⟩] [] [13, 14, 15, 82]) c11_6) c11_5)
def c11_8 : ACode :=
  (.loop c11_7)
def c11_9 : ACode :=
  (.block 0 c11_8)
def c11_10 : ACode :=
  (.seq (.seq (.region false [⟨some 15, none, .cst (.t (.int .i64 0))⟩] [] [13, 14, 15]) c11_9) c11_0)
def c11_11 : ACode :=
  (.seq (.region false [⟨some 8, none, .cst (.t (.bool false))⟩] [] [8]) .ret)
def c11_12 : ACode :=
  (.cond (.s 78) c11_11 .skip)
def c11_13 : ACode :=
  (.seq (.seq (.region true [⟨some 51, none, .ld true 6 (.s 9)⟩,
    ⟨some 52, none, .ld true 6 (.s 11)⟩,
    ⟨some 53, none, .call 42 [(.s 51), (.s 52)]⟩,
    ⟨some 54, none, .un .not (.s 53)⟩,
    ⟨some 55, none, .mv (.s 54)⟩,
    ⟨some 56, some (55, false), .mv (.s 10)⟩,
    ⟨some 57, some (55, false), .mv (.s 12)⟩,
    ⟨some 58, some (55, false), .eqb true (.s 56) (.s 57)⟩,
    ⟨some 59, none, .pick (.s 55) (.c (.t (.bool true))) (.s 58)⟩,
    ⟨some 60, none, .mv (.s 59)⟩,
    ⟨some 61, some (60, false), .mv (.s 13)⟩,
    ⟨some 62, some (60, false), .len (.s 61)⟩,
    ⟨some 63, some (60, false), .mv (.s 14)⟩,
    ⟨some 64, some (60, false), .len (.s 63)⟩,
    ⟨some 65, some (60, false), .bin .neq (.s 62) (.s 64)⟩,
    ⟨some 66, none, .pick (.s 60) (.c (.t (.bool true))) (.s 65)⟩,
    ⟨some 67, none, .mv (.s 66)⟩,
    ⟨some 68, some (67, false), .ld true 4 (.s 4)⟩,
    ⟨some 69, some (67, false), .mv (.s 1)⟩,
    ⟨some 70, some (67, false), .mv (.s 2)⟩,
    ⟨some 71, some (67, false), .call 44 [(.s 68), (.s 69), (.s 70)]⟩,
    ⟨some 72, some (67, false), .ld true 4 (.s 4)⟩,
    ⟨some 73, some (67, false), .mv (.s 1)⟩,
    ⟨some 74, some (67, false), .mv (.s 2)⟩,
    ⟨some 75, some (67, false), .call 45 [(.s 72), (.s 73), (.s 74)]⟩,
    ⟨some 76, some (67, false), .call 43 [(.s 71), (.s 75)]⟩,
    ⟨some 77, some (67, false), .un .not (.s 76)⟩,
    ⟨some 78, none, .pick (.s 67) (.c (.t (.bool true))) (.s 77)⟩] [[], [], [0, 1], [2], [3, 2], [4], [4], [5, 6, 4], [4, 7], [8, 4], [9], [10, 9], [9], [12, 9], [11, 13, 9], [9, 14], [15, 9], [16], [16], [16], [17, 18, 19, 16, 16], [16], [16], [16], [21, 22, 23, 20, 16], [20, 24, 24, 16], [25, 16], [16, 26]] [13, 14, 78]) c11_12) c11_10)
def c11_14 : ACode :=
  (.seq (.region true [⟨some 43, none, .ld true 4 (.s 4)⟩,
    ⟨some 44, none, .mv (.s 1)⟩,
    ⟨some 45, none, .mv (.s 3)⟩,
    ⟨some 46, none, .call 40 [(.s 43), (.s 44), (.s 45)]⟩,
    ⟨some 47, none, .ld true 4 (.s 4)⟩,
    ⟨some 48, none, .mv (.s 1)⟩,
    ⟨some 49, none, .mv (.s 3)⟩,
    ⟨some 50, none, .call 41 [(.s 47), (.s 48), (.s 49)]⟩,
    ⟨some 13, none, .mv (.s 46)⟩,
    ⟨some 14, none, .mv (.s 50)⟩] [[], [], [], [0, 1, 2], [], [], [], [4, 5, 6, 3], [3, 7, 0, 1, 2, 3], [7, 8, 0, 1, 2, 3, 4, 5, 6, 7, 8]] [1, 2, 4, 9, 10, 11, 12, 13, 14]) c11_13)
def c11_15 : ACode :=
  (.seq (.region false [⟨some 36, none, .ld true 4 (.s 4)⟩,
    ⟨some 37, none, .mv (.s 1)⟩,
    ⟨some 38, none, .mv (.s 2)⟩,
    ⟨some 39, none, .mv (.s 3)⟩,
    ⟨some 40, none, .call 39 [(.s 36), (.s 37), (.s 38), (.s 39)]⟩,
    ⟨some 35, none, .mv (.s 40)⟩,
    ⟨some 41, none, .ext (.s 35) 0⟩,
    ⟨some 42, none, .ext (.s 35) 1⟩,
    ⟨some 11, none, .alloc [.t (.str []), .t (.str []), .t (.int .i64 0), .t (.bool false), .nils, .nils]⟩,
    ⟨none, none, .st 6 (.s 11) (.s 41)⟩,
    ⟨some 12, none, .mv (.s 42)⟩] [] [1, 2, 3, 4, 9, 10, 11, 12]) c11_14)
def c11_16 : ACode :=
  (.seq (.region false [⟨some 28, none, .ld true 4 (.s 4)⟩,
    ⟨some 29, none, .mv (.s 1)⟩,
    ⟨some 30, none, .mv (.s 2)⟩,
    ⟨some 31, none, .mv (.s 3)⟩,
    ⟨some 32, none, .call 38 [(.s 28), (.s 29), (.s 30), (.s 31)]⟩,
    ⟨some 27, none, .mv (.s 32)⟩,
    ⟨some 33, none, .ext (.s 27) 0⟩,
    ⟨some 34, none, .ext (.s 27) 1⟩,
    ⟨some 9, none, .alloc [.t (.str []), .t (.str []), .t (.int .i64 0), .t (.bool false), .nils, .nils]⟩,
    ⟨none, none, .st 6 (.s 9) (.s 33)⟩,
    ⟨some 10, none, .mv (.s 34)⟩] [] [1, 2, 3, 4, 9, 10]) c11_15)
def c11_17 : ACode :=
  (.seq (.region false [⟨some 26, none, .call 32 []⟩,
    ⟨some 8, none, .mv (.s 26)⟩] [] [8]) .ret)
def c11_18 : ACode :=
  (.cond (.s 25) c11_17 .skip)
def c11_19 : ACode :=
  (.seq (.seq (.region false [⟨some 16, none, .fa 2 (.s 4)⟩,
    ⟨some 17, none, .ld false 1 (.s 16)⟩,
    ⟨some 18, none, .len (.s 17)⟩,
    ⟨some 19, none, .bin .gtr (.s 18) (.c (.t (.int .i64 500)))⟩,
    ⟨some 20, none, .mv (.s 19)⟩,
    ⟨some 21, some (20, false), .fa 3 (.s 4)⟩,
    ⟨some 22, some (20, false), .ld false 1 (.s 21)⟩,
    ⟨some 23, some (20, false), .len (.s 22)⟩,
    ⟨some 24, some (20, false), .bin .gtr (.s 23) (.c (.t (.int .i64 500)))⟩,
    ⟨some 25, none, .pick (.s 20) (.c (.t (.bool true))) (.s 24)⟩] [] [1, 2, 3, 4, 25]) c11_18) c11_16)
def c11 : ACode :=
  (.seq (.region false [⟨some 4, none, .box 4 (.s 0)⟩,
    ⟨some 8, none, .cst (.t (.bool false))⟩] [] [1, 2, 3, 4]) c11_19)
def r11 : List ARes := [.tmp 8]
def n11 : Nat := 96
/- 12 supergraph supergraphlaw23.exampleHolds -/
/- 13 supergraph directives.Set -/
def c13_0 : ACode :=
  (.seq (.region false [⟨some 48, none, .mv (.s 4)⟩,
    ⟨some 2, none, .mv (.s 48)⟩,
    ⟨some 3, none, .cst (.t (.int .i64 0))⟩] [] [2, 3]) .ret)
def c13_1 : ACode :=
  (.region false [⟨some 47, none, .bin .add (.s 30) (.c (.t (.int .i64 1)))⟩,
    ⟨some 30, none, .mv (.s 47)⟩] [] [4, 29, 30])
def c13_2 : ACode :=
  (.region false [⟨some 46, none, .bin .add (.s 34) (.c (.t (.int .i64 1)))⟩,
    ⟨some 34, none, .mv (.s 46)⟩] [] [4, 7, 29, 30, 33, 34])
def c13_3 : ACode :=
  (.seq (.region false [⟨some 2, none, .cst (.nils)⟩,
    ⟨some 3, none, .cst (.t (.int .i64 7))⟩] [] [2, 3]) .ret)
def c13_4 : ACode :=
  (.cond (.s 45) c13_3 .skip)
def c13_5 : ACode :=
  (.seq (.region true [⟨some 37, none, .mv (.s 4)⟩,
    ⟨some 38, none, .mv (.s 7)⟩,
    ⟨some 39, none, .ia 1 (.s 37) (.s 38)⟩,
    ⟨some 40, none, .ld false 1 (.s 39)⟩,
    ⟨some 41, none, .mv (.s 4)⟩,
    ⟨some 42, none, .mv (.s 8)⟩,
    ⟨some 43, none, .ia 1 (.s 41) (.s 42)⟩,
    ⟨some 44, none, .ld false 1 (.s 43)⟩,
    ⟨some 45, none, .bin .eql (.s 40) (.s 44)⟩] [[], [], [0, 1], [2], [], [], [4, 5], [6], [3, 7]] [4, 7, 29, 30, 33, 34, 45]) c13_4)
def c13_6 : ACode :=
  (.seq (.region false [⟨some 36, none, .mv (.s 34)⟩,
    ⟨some 8, none, .mv (.s 36)⟩] [] [4, 7, 8, 29, 30, 33, 34]) c13_5)
def c13_7 : ACode :=
  (.seq (.block 5 c13_6) c13_2)
def c13_8 : ACode :=
  (.seq (.cond (.s 35) .skip (.exit 4)) c13_7)
def c13_9 : ACode :=
  (.seq (.region false [⟨some 35, none, .bin .lss (.s 34) (.s 33)⟩] [] [4, 7, 29, 30, 33, 34, 35]) c13_8)
def c13_10 : ACode :=
  (.loop c13_9)
def c13_11 : ACode :=
  (.block 4 c13_10)
def c13_12 : ACode :=
  (.seq (.region false [⟨some 33, none, .mv (.s 7)⟩,
    ⟨some 34, none, .cst (.t (.int .i64 0))⟩] [] [4, 7, 29, 30, 33, 34]) c13_11)
def c13_13 : ACode :=
  (.seq (.region false [⟨some 32, none, .mv (.s 30)⟩,
    ⟨some 7, none, .mv (.s 32)⟩] [] [4, 7, 29, 30]) c13_12)
def c13_14 : ACode :=
  (.seq (.block 3 c13_13) c13_1)
def c13_15 : ACode :=
  (.seq (.cond (.s 31) .skip (.exit 2)) c13_14)
def c13_16 : ACode :=
  (.seq (.region false [⟨some 31, none, .bin .lss (.s 30) (.s 29)⟩] [] [4, 29, 30, 31]) c13_15)
def c13_17 : ACode :=
  (.loop c13_16)
def c13_18 : ACode :=
  (.block 2 c13_17)
def c13_19 : ACode :=
  (.seq (.seq (.region false [⟨some 28, none, .mv (.s 4)⟩,
    ⟨some 29, none, .len (.s 28)⟩,
    ⟨some 30, none, .cst (.t (.int .i64 0))⟩] [] [4, 29, 30]) c13_18) c13_0)
def c13_20 : ACode :=
  (.seq (.region false [⟨some 2, none, .cst (.nils)⟩,
    ⟨some 3, none, .cst (.t (.int .i64 4))⟩] [] [2, 3]) .ret)
def c13_21 : ACode :=
  (.cond (.s 27) c13_20 .skip)
def c13_22 : ACode :=
  (.seq (.seq (.region false [⟨some 25, none, .mv (.s 4)⟩,
    ⟨some 26, none, .len (.s 25)⟩,
    ⟨some 27, none, .bin .gtr (.s 26) (.c (.t (.int .i64 4)))⟩] [] [4, 27]) c13_21) c13_19)
def c13_23 : ACode :=
  (.region false [⟨some 24, none, .bin .add (.s 13) (.c (.t (.int .i64 1)))⟩,
    ⟨some 13, none, .mv (.s 24)⟩] [] [4, 11, 12, 13])
def c13_24 : ACode :=
  (.seq (.region false [⟨some 2, none, .cst (.nils)⟩,
    ⟨some 3, none, .cst (.t (.int .i64 3))⟩] [] [2, 3]) .ret)
def c13_25 : ACode :=
  (.cond (.s 23) c13_24 .skip)
def c13_26 : ACode :=
  (.seq (.region false [⟨some 17, none, .mv (.s 6)⟩,
    ⟨some 18, none, .call 47 [(.s 17)]⟩,
    ⟨some 19, none, .un .not (.s 18)⟩,
    ⟨some 20, none, .mv (.s 19)⟩,
    ⟨some 21, some (20, false), .mv (.s 6)⟩,
    ⟨some 22, some (20, false), .call 48 [(.s 21)]⟩,
    ⟨some 23, none, .pick (.s 20) (.c (.t (.bool true))) (.s 22)⟩] [] [4, 11, 12, 13, 23]) c13_25)
def c13_27 : ACode :=
  (.seq (.region false [⟨some 15, none, .ia 1 (.s 11) (.s 13)⟩,
    ⟨some 16, none, .ld false 1 (.s 15)⟩,
    ⟨some 6, none, .mv (.s 16)⟩] [] [4, 6, 11, 12, 13]) c13_26)
def c13_28 : ACode :=
  (.seq (.block 1 c13_27) c13_23)
def c13_29 : ACode :=
  (.seq (.cond (.s 14) .skip (.exit 0)) c13_28)
def c13_30 : ACode :=
  (.seq (.region false [⟨some 14, none, .bin .lss (.s 13) (.s 12)⟩] [] [4, 11, 12, 13, 14]) c13_29)
def c13_31 : ACode :=
  (.loop c13_30)
def c13_32 : ACode :=
  (.block 0 c13_31)
def c13_33 : ACode :=
  (.seq (.seq (.region false [⟨some 11, none, .mv (.s 4)⟩,
    ⟨some 12, none, .len (.s 11)⟩,
    ⟨some 13, none, .cst (.t (.int .i64 0))⟩] [] [4, 11, 12, 13]) c13_32) c13_22)
def c13_34 : ACode :=
  (.seq (.region false [⟨some 9, none, .mv (.s 0)⟩,
    ⟨some 10, none, .call 46 [(.s 9), (.c (.t (.str [32])))]⟩,
    ⟨some 4, none, .mv (.s 10)⟩] [] [4]) c13_33)
def c13 : ACode :=
  (.seq (.region false [⟨some 2, none, .cst (.nils)⟩,
    ⟨some 3, none, .cst (.t (.int .i64 0))⟩] [] [0]) c13_34)
def r13 : List ARes := [.tmp 2, .tmp 3]
def n13 : Nat := 49
/- 14 supergraph supergraphref23.Set -/
/- 15 supergraph supergraphref10.Large -/
/- 16 supergraph supergraphref10.Faults -/
/- 17 supergraph directives.Check -/
/- 18 supergraph supergraphref23.Check -/
/- 19 supergraph supergraphref23.Has -/
def c19_0 : ACode :=
  (.seq (.region false [⟨some 4, none, .cst (.t (.bool false))⟩] [] [4]) .ret)
def c19_1 : ACode :=
  (.region false [⟨some 10, none, .mv (.s 5)⟩,
    ⟨some 11, none, .bin .add (.s 10) (.c (.t (.int .i64 1)))⟩,
    ⟨some 5, none, .mv (.s 11)⟩] [] [0, 1, 5])
def c19_2 : ACode :=
  (.seq (.region false [⟨some 4, none, .cst (.t (.bool true))⟩] [] [4]) .ret)
def c19_3 : ACode :=
  (.cond (.s 18) c19_2 .skip)
def c19_4 : ACode :=
  (.seq (.region false [⟨some 12, none, .mv (.s 0)⟩,
    ⟨some 13, none, .mv (.s 5)⟩,
    ⟨some 14, none, .ia 2 (.s 12) (.s 13)⟩,
    ⟨some 15, none, .fa 0 (.s 14)⟩,
    ⟨some 16, none, .ld false 1 (.s 15)⟩,
    ⟨some 17, none, .mv (.s 1)⟩,
    ⟨some 18, none, .bin .eql (.s 16) (.s 17)⟩] [] [0, 1, 5, 18]) c19_3)
def c19_5 : ACode :=
  (.seq (.block 1 c19_4) c19_1)
def c19_6 : ACode :=
  (.cond (.s 9) .skip (.exit 0))
def c19_7 : ACode :=
  (.seq (.seq (.region false [⟨some 6, none, .mv (.s 5)⟩,
    ⟨some 7, none, .mv (.s 0)⟩,
    ⟨some 8, none, .len (.s 7)⟩,
    ⟨some 9, none, .bin .lss (.s 6) (.s 8)⟩] [] [0, 1, 5, 9]) c19_6) c19_5)
def c19_8 : ACode :=
  (.loop c19_7)
def c19_9 : ACode :=
  (.block 0 c19_8)
def c19_10 : ACode :=
  (.seq (.seq (.region false [⟨some 5, none, .cst (.t (.int .i64 0))⟩] [] [0, 1, 5]) c19_9) c19_0)
def c19 : ACode :=
  (.seq (.region false [⟨some 4, none, .cst (.t (.bool false))⟩] [] [0, 1]) c19_10)
def r19 : List ARes := [.tmp 4]
def n19 : Nat := 19
/- 20 supergraph directives.Public -/
/- 21 supergraph supergraphref23.Public -/
/- 22 supergraph supergraphlaw23.bare -/
/- 23 supergraph directives.Arg -/
def c23_0 : ACode :=
  (.seq (.region false [⟨some 26, none, .build [.t (.int .i64 0), .t (.int .i64 0), .t (.str []), .nils, .nils] []⟩,
    ⟨none, none, .st 5 (.s 6) (.s 26)⟩,
    ⟨some 7, none, .cst (.t (.bool false))⟩] [] [6, 7]) .ret)
def c23_1 : ACode :=
  (.region false [⟨some 25, none, .bin .add (.s 12) (.c (.t (.int .i64 1)))⟩,
    ⟨some 12, none, .mv (.s 25)⟩] [] [1, 2, 6, 10, 11, 12])
def c23_2 : ACode :=
  (.seq (.region false [⟨some 20, none, .ld true 2 (.s 9)⟩,
    ⟨some 21, none, .mv (.s 2)⟩,
    ⟨some 22, none, .call 56 [(.s 20), (.s 21)]⟩,
    ⟨some 23, none, .ext (.s 22) 0⟩,
    ⟨some 24, none, .ext (.s 22) 1⟩,
    ⟨none, none, .st 5 (.s 6) (.s 23)⟩,
    ⟨some 7, none, .mv (.s 24)⟩] [] [6, 7]) .ret)
def c23_3 : ACode :=
  (.cond (.s 19) c23_2 .skip)
def c23_4 : ACode :=
  (.seq (.region false [⟨some 16, none, .fa 0 (.s 9)⟩,
    ⟨some 17, none, .ld false 1 (.s 16)⟩,
    ⟨some 18, none, .mv (.s 1)⟩,
    ⟨some 19, none, .bin .eql (.s 17) (.s 18)⟩] [] [1, 2, 6, 9, 10, 11, 12, 19]) c23_3)
def c23_5 : ACode :=
  (.seq (.region false [⟨some 14, none, .ia 2 (.s 10) (.s 12)⟩,
    ⟨some 15, none, .ld true 2 (.s 14)⟩,
    ⟨some 9, none, .alloc [.t (.str []), .nils]⟩,
    ⟨none, none, .st 2 (.s 9) (.s 15)⟩] [] [1, 2, 6, 9, 10, 11, 12]) c23_4)
def c23_6 : ACode :=
  (.seq (.block 1 c23_5) c23_1)
def c23_7 : ACode :=
  (.seq (.cond (.s 13) .skip (.exit 0)) c23_6)
def c23_8 : ACode :=
  (.seq (.region false [⟨some 13, none, .bin .lss (.s 12) (.s 11)⟩] [] [1, 2, 6, 10, 11, 12, 13]) c23_7)
def c23_9 : ACode :=
  (.loop c23_8)
def c23_10 : ACode :=
  (.block 0 c23_9)
def c23_11 : ACode :=
  (.seq (.seq (.region false [⟨some 10, none, .mv (.s 0)⟩,
    ⟨some 11, none, .len (.s 10)⟩,
    ⟨some 12, none, .cst (.t (.int .i64 0))⟩] [] [1, 2, 6, 10, 11, 12]) c23_10) c23_0)
def c23 : ACode :=
  (.seq (.region false [⟨some 6, none, .alloc [.t (.int .i64 0), .t (.int .i64 0), .t (.str []), .nils, .nils]⟩,
    ⟨some 7, none, .cst (.t (.bool false))⟩] [] [0, 1, 2, 6]) c23_11)
def r23 : List ARes := [.cell 6 true 5, .tmp 7]
def n23 : Nat := 27
/- 24 supergraph supergraphref23.Arg -/
/- 25 supergraph directives.Has -/
def c25_0 : ACode :=
  (.seq (.region false [⟨some 4, none, .cst (.t (.bool false))⟩] [] [4]) .ret)
def c25_1 : ACode :=
  (.region false [⟨some 17, none, .bin .add (.s 9) (.c (.t (.int .i64 1)))⟩,
    ⟨some 9, none, .mv (.s 17)⟩] [] [1, 7, 8, 9])
def c25_2 : ACode :=
  (.seq (.region false [⟨some 4, none, .cst (.t (.bool true))⟩] [] [4]) .ret)
def c25_3 : ACode :=
  (.cond (.s 16) c25_2 .skip)
def c25_4 : ACode :=
  (.seq (.region false [⟨some 13, none, .fa 0 (.s 6)⟩,
    ⟨some 14, none, .ld false 1 (.s 13)⟩,
    ⟨some 15, none, .mv (.s 1)⟩,
    ⟨some 16, none, .bin .eql (.s 14) (.s 15)⟩] [] [1, 7, 8, 9, 16]) c25_3)
def c25_5 : ACode :=
  (.seq (.region false [⟨some 11, none, .ia 2 (.s 7) (.s 9)⟩,
    ⟨some 12, none, .ld true 2 (.s 11)⟩,
    ⟨some 6, none, .alloc [.t (.str []), .nils]⟩,
    ⟨none, none, .st 2 (.s 6) (.s 12)⟩] [] [1, 6, 7, 8, 9]) c25_4)
def c25_6 : ACode :=
  (.seq (.block 1 c25_5) c25_1)
def c25_7 : ACode :=
  (.seq (.cond (.s 10) .skip (.exit 0)) c25_6)
def c25_8 : ACode :=
  (.seq (.region false [⟨some 10, none, .bin .lss (.s 9) (.s 8)⟩] [] [1, 7, 8, 9, 10]) c25_7)
def c25_9 : ACode :=
  (.loop c25_8)
def c25_10 : ACode :=
  (.block 0 c25_9)
def c25_11 : ACode :=
  (.seq (.seq (.region false [⟨some 7, none, .mv (.s 0)⟩,
    ⟨some 8, none, .len (.s 7)⟩,
    ⟨some 9, none, .cst (.t (.int .i64 0))⟩] [] [1, 7, 8, 9]) c25_10) c25_0)
def c25 : ACode :=
  (.seq (.region false [⟨some 4, none, .cst (.t (.bool false))⟩] [] [0, 1]) c25_11)
def r25 : List ARes := [.tmp 4]
def n25 : Nat := 18
/- 26 supergraph supergraphlaw23.same -/
/- 27 supergraph supergraphlaw23.values -/
/- 28 supergraph directives.All -/
/- 29 supergraph supergraphref23.All -/
/- 30 supergraph supergraphlaw25.large -/
/- 31 supergraph supergraphref25.Right -/
/- 32 supergraph supergraphlaw25.exampleHolds -/
def c32_0 : ACode :=
  (.seq (.region false [⟨some 59, none, .mv (.s 9)⟩,
    ⟨some 60, none, .mv (.s 59)⟩,
    ⟨some 61, some (60, true), .mv (.s 11)⟩,
    ⟨some 62, some (60, true), .un .not (.s 61)⟩,
    ⟨some 63, none, .pick (.s 60) (.s 62) (.c (.t (.bool false)))⟩,
    ⟨some 64, none, .mv (.s 63)⟩,
    ⟨some 65, some (64, true), .ld true 4 (.s 7)⟩,
    ⟨some 66, some (64, true), .call 40 [(.s 65), (.c (.t (.str [85, 115, 101, 114]))), (.c (.t (.int .i64 1)))]⟩,
    ⟨some 67, some (64, true), .len (.s 66)⟩,
    ⟨some 68, some (64, true), .bin .eql (.s 67) (.c (.t (.int .i64 1)))⟩,
    ⟨some 69, none, .pick (.s 64) (.s 68) (.c (.t (.bool false)))⟩,
    ⟨some 70, none, .mv (.s 69)⟩,
    ⟨some 71, some (70, true), .mv (.s 6)⟩,
    ⟨some 72, some (70, true), .ia 2 (.s 71) (.c (.t (.int .i64 0)))⟩,
    ⟨some 73, some (70, true), .ld true 2 (.s 72)⟩,
    ⟨some 74, some (70, true), .build [.t (.int .i64 0), .t (.str [])] [(0, 1, (.c (.t (.int .i64 40)))), (1, 1, (.c (.t (.str [97, 58, 85, 115, 101, 114, 46, 110, 97, 109, 101]))))]⟩,
    ⟨some 75, some (70, true), .nw (.eqst false [.int .i64, .str] (.s 73) (.s 74))⟩,
    ⟨some 76, none, .pick (.s 70) (.s 75) (.c (.t (.bool false)))⟩,
    ⟨some 77, none, .mv (.s 76)⟩,
    ⟨some 78, some (77, true), .mv (.s 6)⟩,
    ⟨some 79, some (77, true), .ia 2 (.s 78) (.c (.t (.int .i64 1)))⟩,
    ⟨some 80, some (77, true), .ld true 2 (.s 79)⟩,
    ⟨some 81, some (77, true), .build [.t (.int .i64 0), .t (.str [])] [(0, 1, (.c (.t (.int .i64 40)))), (1, 1, (.c (.t (.str [98, 58, 85, 115, 101, 114, 46, 110, 97, 109, 101]))))]⟩,
    ⟨some 82, some (77, true), .nw (.eqst false [.int .i64, .str] (.s 80) (.s 81))⟩,
    ⟨some 83, none, .pick (.s 77) (.s 82) (.c (.t (.bool false)))⟩,
    ⟨some 0, none, .mv (.s 83)⟩] [] [0]) .ret)
def c32_1 : ACode :=
  (.seq (.region false [⟨some 55, none, .ld true 4 (.s 7)⟩,
    ⟨some 56, none, .call 38 [(.s 55), (.c (.t (.str [85, 115, 101, 114]))), (.c (.t (.str [110, 97, 109, 101]))), (.c (.t (.int .i64 1)))]⟩,
    ⟨some 54, none, .mv (.s 56)⟩,
    ⟨some 57, none, .ext (.s 54) 0⟩,
    ⟨some 58, none, .ext (.s 54) 1⟩,
    ⟨some 10, none, .alloc [.t (.str []), .t (.str []), .t (.int .i64 0), .t (.bool false), .nils, .nils]⟩,
    ⟨none, none, .st 6 (.s 10) (.s 57)⟩,
    ⟨some 11, none, .mv (.s 58)⟩] [] [6, 7, 9, 11]) c32_0)
def c32_2 : ACode :=
  (.seq (.region false [⟨some 50, none, .ld true 4 (.s 7)⟩,
    ⟨some 51, none, .call 38 [(.s 50), (.c (.t (.str [85, 115, 101, 114]))), (.c (.t (.str [110, 97, 109, 101]))), (.c (.t (.int .i64 0)))]⟩,
    ⟨some 49, none, .mv (.s 51)⟩,
    ⟨some 52, none, .ext (.s 49) 0⟩,
    ⟨some 53, none, .ext (.s 49) 1⟩,
    ⟨some 8, none, .alloc [.t (.str []), .t (.str []), .t (.int .i64 0), .t (.bool false), .nils, .nils]⟩,
    ⟨none, none, .st 6 (.s 8) (.s 52)⟩,
    ⟨some 9, none, .mv (.s 53)⟩] [] [6, 7, 9]) c32_1)
def c32_3 : ACode :=
  (.seq (.region false [⟨some 46, none, .mv (.s 1)⟩,
    ⟨some 47, none, .mv (.s 2)⟩,
    ⟨some 48, none, .build [.nils, .nils, .nils, .nils] [(2, 1, (.s 46)), (3, 1, (.s 47))]⟩,
    ⟨some 7, none, .alloc [.nils, .nils, .nils, .nils]⟩,
    ⟨none, none, .st 4 (.s 7) (.s 48)⟩] [] [6, 7]) c32_2)
def c32_4 : ACode :=
  (.seq (.region false [⟨some 0, none, .cst (.t (.bool false))⟩] [] [0]) .ret)
def c32_5 : ACode :=
  (.cond (.s 45) c32_4 .skip)
def c32_6 : ACode :=
  (.seq (.seq (.region false [⟨some 28, none, .mv (.s 1)⟩,
    ⟨some 29, none, .len (.s 28)⟩,
    ⟨some 30, none, .bin .neq (.s 29) (.c (.t (.int .i64 2)))⟩,
    ⟨some 31, none, .mv (.s 30)⟩,
    ⟨some 32, some (31, false), .mv (.s 2)⟩,
    ⟨some 33, some (31, false), .len (.s 32)⟩,
    ⟨some 34, some (31, false), .bin .neq (.s 33) (.c (.t (.int .i64 4)))⟩,
    ⟨some 35, none, .pick (.s 31) (.c (.t (.bool true))) (.s 34)⟩,
    ⟨some 36, none, .mv (.s 35)⟩,
    ⟨some 37, some (36, false), .mv (.s 3)⟩,
    ⟨some 38, some (36, false), .len (.s 37)⟩,
    ⟨some 39, some (36, false), .bin .neq (.s 38) (.c (.t (.int .i64 0)))⟩,
    ⟨some 40, none, .pick (.s 36) (.c (.t (.bool true))) (.s 39)⟩,
    ⟨some 41, none, .mv (.s 40)⟩,
    ⟨some 42, some (41, false), .mv (.s 6)⟩,
    ⟨some 43, some (41, false), .len (.s 42)⟩,
    ⟨some 44, some (41, false), .bin .neq (.s 43) (.c (.t (.int .i64 2)))⟩,
    ⟨some 45, none, .pick (.s 41) (.c (.t (.bool true))) (.s 44)⟩] [] [1, 2, 6, 45]) c32_5) c32_3)
def c32_7 : ACode :=
  (.seq (.region false [⟨some 21, none, .call 60 [(.c (.t (.str [97]))), (.c (.t (.str [110, 97, 109, 101])))]⟩,
    ⟨some 22, none, .call 60 [(.c (.t (.str [98]))), (.c (.t (.str [110, 97, 109, 101])))]⟩,
    ⟨some 23, none, .bsl true 2 [[.str [], .lst []], [.str [], .lst []]] [(0, (.s 21)), (1, (.s 22))]⟩,
    ⟨some 24, none, .call 33 [(.s 23)]⟩,
    ⟨some 20, none, .mv (.s 24)⟩,
    ⟨some 25, none, .ext (.s 20) 0⟩,
    ⟨some 26, none, .ext (.s 20) 1⟩,
    ⟨some 27, none, .ext (.s 20) 2⟩,
    ⟨some 4, none, .mv (.s 25)⟩,
    ⟨some 5, none, .mv (.s 26)⟩,
    ⟨some 6, none, .mv (.s 27)⟩] [] [1, 2, 3, 6]) c32_6)
def c32_8 : ACode :=
  (.seq (.region false [⟨some 13, none, .call 60 [(.c (.t (.str [97]))), (.c (.t (.str [110, 97, 109, 101])))]⟩,
    ⟨some 14, none, .call 60 [(.c (.t (.str [98]))), (.c (.t (.str [112, 111, 115, 116, 115])))]⟩,
    ⟨some 15, none, .bsl true 2 [[.str [], .lst []], [.str [], .lst []]] [(0, (.s 13)), (1, (.s 14))]⟩,
    ⟨some 16, none, .call 33 [(.s 15)]⟩,
    ⟨some 12, none, .mv (.s 16)⟩,
    ⟨some 17, none, .ext (.s 12) 0⟩,
    ⟨some 18, none, .ext (.s 12) 1⟩,
    ⟨some 19, none, .ext (.s 12) 2⟩,
    ⟨some 1, none, .mv (.s 17)⟩,
    ⟨some 2, none, .mv (.s 18)⟩,
    ⟨some 3, none, .mv (.s 19)⟩] [] [1, 2, 3]) c32_7)
def c32 : ACode :=
  (.seq (.region false [⟨some 0, none, .cst (.t (.bool false))⟩] [] []) c32_8)
def r32 : List ARes := [.tmp 0]
def n32 : Nat := 84
/- 33 supergraph moves.Joins -/
def c33_0 : ACode :=
  (.seq (.region false [⟨some 100, none, .mv (.s 5)⟩,
    ⟨some 101, none, .mv (.s 6)⟩,
    ⟨some 2, none, .mv (.s 100)⟩,
    ⟨some 3, none, .mv (.s 101)⟩,
    ⟨some 4, none, .cst (.nils)⟩] [] [2, 3, 4]) .ret)
def c33_1 : ACode :=
  (.seq (.region true [⟨some 96, none, .mv (.s 7)⟩,
    ⟨some 97, none, .nilck (.s 96)⟩,
    ⟨some 98, none, .fa 1 (.s 97)⟩,
    ⟨some 99, none, .ld false 1 (.s 98)⟩,
    ⟨some 2, none, .cst (.nils)⟩,
    ⟨some 3, none, .cst (.nils)⟩,
    ⟨some 4, none, .mv (.s 99)⟩] [[], [0], [1], [2], [], [4, 4], [3, 5, 0, 1, 2, 3, 4, 5]] [2, 3, 4]) .ret)
def c33_2 : ACode :=
  (.cond (.s 95) c33_1 .skip)
def c33_3 : ACode :=
  (.seq (.seq (.region false [⟨some 90, none, .mv (.s 7)⟩,
    ⟨some 91, none, .nilck (.s 90)⟩,
    ⟨some 92, none, .fa 1 (.s 91)⟩,
    ⟨some 93, none, .ld false 1 (.s 92)⟩,
    ⟨some 94, none, .len (.s 93)⟩,
    ⟨some 95, none, .bin .gtr (.s 94) (.c (.t (.int .i64 0)))⟩] [] [5, 6, 7, 95]) c33_2) c33_0)
def c33_4 : ACode :=
  (.region false [⟨some 89, none, .bin .add (.s 21) (.c (.t (.int .i64 1)))⟩,
    ⟨some 21, none, .mv (.s 89)⟩] [] [5, 6, 7, 19, 20, 21])
def c33_5 : ACode :=
  (.region false [⟨some 88, none, .bin .add (.s 30) (.c (.t (.int .i64 1)))⟩,
    ⟨some 30, none, .mv (.s 88)⟩] [] [5, 6, 7, 8, 9, 19, 20, 21, 28, 29, 30])
def c33_6 : ACode :=
  (.region false [⟨some 87, none, .bin .add (.s 60) (.c (.t (.int .i64 1)))⟩,
    ⟨some 60, none, .mv (.s 87)⟩] [] [5, 6, 7, 8, 9, 11, 19, 20, 21, 28, 29, 30, 58, 59, 60])
def c33_7 : ACode :=
  (.region true [⟨some 69, none, .mv (.s 6)⟩,
    ⟨some 70, none, .fa 1 (.s 11)⟩,
    ⟨some 71, none, .ld false 1 (.s 70)⟩,
    ⟨some 72, none, .fa 0 (.s 15)⟩,
    ⟨some 73, none, .ld false 1 (.s 72)⟩,
    ⟨some 74, none, .mv (.s 8)⟩,
    ⟨some 75, none, .fa 4 (.s 15)⟩,
    ⟨some 76, none, .ld false 1 (.s 75)⟩,
    ⟨some 77, none, .call 25 [(.s 76), (.c (.t (.str [101, 120, 116, 101, 114, 110, 97, 108])))]⟩,
    ⟨some 78, none, .fa 4 (.s 15)⟩,
    ⟨some 79, none, .ld false 1 (.s 78)⟩,
    ⟨some 80, none, .call 64 [(.s 79), (.c (.t (.str [114, 101, 113, 117, 105, 114, 101, 115])))]⟩,
    ⟨some 81, none, .fa 4 (.s 15)⟩,
    ⟨some 82, none, .ld false 1 (.s 81)⟩,
    ⟨some 83, none, .call 64 [(.s 82), (.c (.t (.str [112, 114, 111, 118, 105, 100, 101, 115])))]⟩,
    ⟨some 84, none, .build [.t (.str []), .t (.str []), .t (.int .i64 0), .t (.bool false), .nils, .nils] [(0, 1, (.s 71)), (1, 1, (.s 73)), (2, 1, (.s 74)), (3, 1, (.s 77)), (4, 1, (.s 80)), (5, 1, (.s 83))]⟩,
    ⟨some 85, none, .bsl false 6 [[.str [], .str [], .int .i64 0, .bool false, .lst [], .lst []]] [(0, (.s 84))]⟩,
    ⟨some 86, none, .app 6 96 (.s 69) (.s 85)⟩,
    ⟨some 6, none, .mv (.s 86)⟩] [[], [], [1], [], [3], [], [], [6], [7], [], [9], [10, 8], [], [12], [13, 11], [2, 4, 5, 8, 11, 14], [15], [0, 16, 14], [17, 17, 0, 1, 2, 3, 4, 5, 6, 7, 8, 9, 10, 11, 12, 13, 14, 15, 16, 17]] [5, 6, 7, 8, 9, 11, 19, 20, 21, 28, 29, 30, 58, 59, 60])
def c33_8 : ACode :=
  (.seq (.region false [⟨some 64, none, .mv (.s 7)⟩,
    ⟨some 65, none, .mv (.s 8)⟩,
    ⟨some 66, none, .ld true 7 (.s 11)⟩,
    ⟨some 67, none, .ld true 5 (.s 15)⟩,
    ⟨some 68, none, .call 63 [(.s 64), (.s 65), (.s 66), (.s 67)]⟩] [] [5, 6, 7, 8, 9, 11, 15, 19, 20, 21, 28, 29, 30, 58, 59, 60]) c33_7)
def c33_9 : ACode :=
  (.seq (.region false [⟨some 62, none, .ia 5 (.s 58) (.s 60)⟩,
    ⟨some 63, none, .ld true 5 (.s 62)⟩,
    ⟨some 15, none, .alloc [.t (.str []), .nils, .t (.str []), .nils, .nils]⟩,
    ⟨none, none, .st 5 (.s 15) (.s 63)⟩] [] [5, 6, 7, 8, 9, 11, 15, 19, 20, 21, 28, 29, 30, 58, 59, 60]) c33_8)
def c33_10 : ACode :=
  (.seq (.block 7 c33_9) c33_6)
def c33_11 : ACode :=
  (.seq (.cond (.s 61) .skip (.exit 6)) c33_10)
def c33_12 : ACode :=
  (.seq (.region false [⟨some 61, none, .bin .lss (.s 60) (.s 59)⟩] [] [5, 6, 7, 8, 9, 11, 19, 20, 21, 28, 29, 30, 58, 59, 60, 61]) c33_11)
def c33_13 : ACode :=
  (.loop c33_12)
def c33_14 : ACode :=
  (.block 6 c33_13)
def c33_15 : ACode :=
  (.seq (.region false [⟨some 57, none, .fa 4 (.s 11)⟩,
    ⟨some 58, none, .ld false 1 (.s 57)⟩,
    ⟨some 59, none, .len (.s 58)⟩,
    ⟨some 60, none, .cst (.t (.int .i64 0))⟩] [] [5, 6, 7, 8, 9, 11, 19, 20, 21, 28, 29, 30, 58, 59, 60]) c33_14)
def c33_16 : ACode :=
  (.region false [⟨some 56, none, .bin .add (.s 44) (.c (.t (.int .i64 1)))⟩,
    ⟨some 44, none, .mv (.s 56)⟩] [] [5, 6, 7, 8, 9, 11, 19, 20, 21, 28, 29, 30, 42, 43, 44])
def c33_17 : ACode :=
  (.region false [⟨some 48, none, .mv (.s 5)⟩,
    ⟨some 49, none, .fa 1 (.s 11)⟩,
    ⟨some 50, none, .ld false 1 (.s 49)⟩,
    ⟨some 51, none, .mv (.s 8)⟩,
    ⟨some 52, none, .mv (.s 13)⟩,
    ⟨some 53, none, .build [.t (.str []), .t (.int .i64 0), .nils] [(0, 1, (.s 50)), (1, 1, (.s 51)), (2, 1, (.s 52))]⟩,
    ⟨some 54, none, .bsl false 3 [[.str [], .int .i64 0, .lst []]] [(0, (.s 53))]⟩,
    ⟨some 55, none, .app 3 48 (.s 48) (.s 54)⟩,
    ⟨some 5, none, .mv (.s 55)⟩] [] [5, 6, 7, 8, 9, 11, 19, 20, 21, 28, 29, 30, 42, 43, 44])
def c33_18 : ACode :=
  (.seq (.region false [⟨some 46, none, .ia 1 (.s 42) (.s 44)⟩,
    ⟨some 47, none, .ld false 1 (.s 46)⟩,
    ⟨some 13, none, .mv (.s 47)⟩] [] [5, 6, 7, 8, 9, 11, 13, 19, 20, 21, 28, 29, 30, 42, 43, 44]) c33_17)
def c33_19 : ACode :=
  (.seq (.block 5 c33_18) c33_16)
def c33_20 : ACode :=
  (.seq (.cond (.s 45) .skip (.exit 4)) c33_19)
def c33_21 : ACode :=
  (.seq (.region false [⟨some 45, none, .bin .lss (.s 44) (.s 43)⟩] [] [5, 6, 7, 8, 9, 11, 19, 20, 21, 28, 29, 30, 42, 43, 44, 45]) c33_20)
def c33_22 : ACode :=
  (.loop c33_21)
def c33_23 : ACode :=
  (.block 4 c33_22)
def c33_24 : ACode :=
  (.seq (.seq (.region false [⟨some 41, none, .ld true 7 (.s 11)⟩,
    ⟨some 42, none, .call 62 [(.s 41)]⟩,
    ⟨some 43, none, .len (.s 42)⟩,
    ⟨some 44, none, .cst (.t (.int .i64 0))⟩] [] [5, 6, 7, 8, 9, 11, 19, 20, 21, 28, 29, 30, 42, 43, 44]) c33_23) c33_15)
def c33_25 : ACode :=
  (.seq (.region false [⟨some 37, none, .mv (.s 7)⟩,
    ⟨some 38, none, .ld true 2 (.s 9)⟩,
    ⟨some 39, none, .ld true 7 (.s 11)⟩,
    ⟨some 40, none, .call 61 [(.s 37), (.s 38), (.s 39)]⟩] [] [5, 6, 7, 8, 9, 11, 19, 20, 21, 28, 29, 30]) c33_24)
def c33_26 : ACode :=
  (.cond (.s 36) (.exit 3) .skip)
def c33_27 : ACode :=
  (.seq (.seq (.region false [⟨some 34, none, .fa 0 (.s 11)⟩,
    ⟨some 35, none, .ld false 1 (.s 34)⟩,
    ⟨some 36, none, .bin .neq (.s 35) (.c (.t (.int .i64 1)))⟩] [] [5, 6, 7, 8, 9, 11, 19, 20, 21, 28, 29, 30, 36]) c33_26) c33_25)
def c33_28 : ACode :=
  (.seq (.region false [⟨some 32, none, .ia 7 (.s 28) (.s 30)⟩,
    ⟨some 33, none, .ld true 7 (.s 32)⟩,
    ⟨some 11, none, .alloc [.t (.int .i64 0), .t (.str []), .nils, .nils, .nils, .nils, .nils]⟩,
    ⟨none, none, .st 7 (.s 11) (.s 33)⟩] [] [5, 6, 7, 8, 9, 11, 19, 20, 21, 28, 29, 30]) c33_27)
def c33_29 : ACode :=
  (.seq (.block 3 c33_28) c33_5)
def c33_30 : ACode :=
  (.seq (.cond (.s 31) .skip (.exit 2)) c33_29)
def c33_31 : ACode :=
  (.seq (.region false [⟨some 31, none, .bin .lss (.s 30) (.s 29)⟩] [] [5, 6, 7, 8, 9, 19, 20, 21, 28, 29, 30, 31]) c33_30)
def c33_32 : ACode :=
  (.loop c33_31)
def c33_33 : ACode :=
  (.block 2 c33_32)
def c33_34 : ACode :=
  (.seq (.region false [⟨some 26, none, .fa 1 (.s 9)⟩,
    ⟨some 27, none, .fa 0 (.s 26)⟩,
    ⟨some 28, none, .ld false 1 (.s 27)⟩,
    ⟨some 29, none, .len (.s 28)⟩,
    ⟨some 30, none, .cst (.t (.int .i64 0))⟩] [] [5, 6, 7, 8, 9, 19, 20, 21, 28, 29, 30]) c33_33)
def c33_35 : ACode :=
  (.seq (.region false [⟨some 23, none, .mv (.s 21)⟩,
    ⟨some 24, none, .ia 2 (.s 19) (.s 21)⟩,
    ⟨some 25, none, .ld true 2 (.s 24)⟩,
    ⟨some 9, none, .alloc [.t (.str []), .nils]⟩,
    ⟨some 8, none, .mv (.s 23)⟩,
    ⟨none, none, .st 2 (.s 9) (.s 25)⟩] [] [5, 6, 7, 8, 9, 19, 20, 21]) c33_34)
def c33_36 : ACode :=
  (.seq (.block 1 c33_35) c33_4)
def c33_37 : ACode :=
  (.seq (.cond (.s 22) .skip (.exit 0)) c33_36)
def c33_38 : ACode :=
  (.seq (.region false [⟨some 22, none, .bin .lss (.s 21) (.s 20)⟩] [] [5, 6, 7, 19, 20, 21, 22]) c33_37)
def c33_39 : ACode :=
  (.loop c33_38)
def c33_40 : ACode :=
  (.block 0 c33_39)
def c33_41 : ACode :=
  (.seq (.seq (.region false [⟨some 19, none, .mv (.s 0)⟩,
    ⟨some 20, none, .len (.s 19)⟩,
    ⟨some 21, none, .cst (.t (.int .i64 0))⟩] [] [5, 6, 7, 19, 20, 21]) c33_40) c33_3)
def c33_42 : ACode :=
  (.seq (.region false [⟨some 16, none, .mv (.s 0)⟩,
    ⟨some 17, none, .build [.nils, .nils] [(0, 1, (.s 16))]⟩,
    ⟨some 18, none, .box 2 (.s 17)⟩,
    ⟨some 7, none, .mv (.s 18)⟩] [] [0, 5, 6, 7]) c33_41)
def c33_43 : ACode :=
  (.seq (.region false [⟨some 6, none, .cst (.nils)⟩] [] [0, 5, 6]) c33_42)
def c33_44 : ACode :=
  (.seq (.region false [⟨some 5, none, .cst (.nils)⟩] [] [0, 5]) c33_43)
def c33 : ACode :=
  (.seq (.region false [⟨some 2, none, .cst (.nils)⟩,
    ⟨some 3, none, .cst (.nils)⟩,
    ⟨some 4, none, .cst (.nils)⟩] [] [0]) c33_44)
def r33 : List ARes := [.tmp 2, .tmp 3, .tmp 4]
def n33 : Nat := 102
/- 34 supergraph supergraphlaw25.keyed -/
/- 35 supergraph supergraphlaw25.others -/
/- 36 supergraph supergraphref25.Bare -/
/- 37 supergraph supergraphlaw25.fieldsOf -/
/- 38 supergraph moves.Find -/
def c38_0 : ACode :=
  (.seq (.region false [⟨some 45, none, .build [.t (.str []), .t (.str []), .t (.int .i64 0), .t (.bool false), .nils, .nils] []⟩,
    ⟨none, none, .st 6 (.s 8) (.s 45)⟩,
    ⟨some 9, none, .cst (.t (.bool false))⟩] [] [8, 9]) .ret)
def c38_1 : ACode :=
  (.region false [⟨some 44, none, .bin .add (.s 15) (.c (.t (.int .i64 1)))⟩,
    ⟨some 15, none, .mv (.s 44)⟩] [] [1, 2, 3, 8, 13, 14, 15])
def c38_2 : ACode :=
  (.seq (.region false [⟨some 43, none, .ld true 6 (.s 11)⟩,
    ⟨none, none, .st 6 (.s 8) (.s 43)⟩,
    ⟨some 9, none, .cst (.t (.bool true))⟩] [] [8, 9]) .ret)
def c38_3 : ACode :=
  (.seq (.region true [⟨some 35, none, .fa 4 (.s 11)⟩,
    ⟨some 36, none, .ld false 1 (.s 35)⟩,
    ⟨some 37, none, .call 68 [(.s 36)]⟩,
    ⟨some 38, none, .fa 5 (.s 11)⟩,
    ⟨some 39, none, .ld false 1 (.s 38)⟩,
    ⟨some 40, none, .call 68 [(.s 39)]⟩,
    ⟨some 41, none, .fa 4 (.s 11)⟩,
    ⟨none, none, .st 1 (.s 41) (.s 37)⟩,
    ⟨some 42, none, .fa 5 (.s 11)⟩,
    ⟨none, none, .st 1 (.s 42) (.s 40)⟩] [[], [0], [1], [], [3], [4, 2], [0, 1, 2, 3, 4], [6, 2, 5, 0, 1, 2, 3, 4], [0, 1, 2, 3, 4, 5, 6, 7], [8, 5, 7, 0, 1, 2, 3, 4, 5, 6, 7]] [8, 11]) c38_2)
def c38_4 : ACode :=
  (.cond (.s 34) c38_3 .skip)
def c38_5 : ACode :=
  (.seq (.region false [⟨some 19, none, .fa 0 (.s 11)⟩,
    ⟨some 20, none, .ld false 1 (.s 19)⟩,
    ⟨some 21, none, .mv (.s 1)⟩,
    ⟨some 22, none, .bin .eql (.s 20) (.s 21)⟩,
    ⟨some 23, none, .mv (.s 22)⟩,
    ⟨some 24, some (23, true), .fa 1 (.s 11)⟩,
    ⟨some 25, some (23, true), .ld false 1 (.s 24)⟩,
    ⟨some 26, some (23, true), .mv (.s 2)⟩,
    ⟨some 27, some (23, true), .bin .eql (.s 25) (.s 26)⟩,
    ⟨some 28, none, .pick (.s 23) (.s 27) (.c (.t (.bool false)))⟩,
    ⟨some 29, none, .mv (.s 28)⟩,
    ⟨some 30, some (29, true), .fa 2 (.s 11)⟩,
    ⟨some 31, some (29, true), .ld false 1 (.s 30)⟩,
    ⟨some 32, some (29, true), .mv (.s 3)⟩,
    ⟨some 33, some (29, true), .bin .eql (.s 31) (.s 32)⟩,
    ⟨some 34, none, .pick (.s 29) (.s 33) (.c (.t (.bool false)))⟩] [] [1, 2, 3, 8, 11, 13, 14, 15, 34]) c38_4)
def c38_6 : ACode :=
  (.seq (.region false [⟨some 17, none, .ia 6 (.s 13) (.s 15)⟩,
    ⟨some 18, none, .ld true 6 (.s 17)⟩,
    ⟨some 11, none, .alloc [.t (.str []), .t (.str []), .t (.int .i64 0), .t (.bool false), .nils, .nils]⟩,
    ⟨none, none, .st 6 (.s 11) (.s 18)⟩] [] [1, 2, 3, 8, 11, 13, 14, 15]) c38_5)
def c38_7 : ACode :=
  (.seq (.block 1 c38_6) c38_1)
def c38_8 : ACode :=
  (.seq (.cond (.s 16) .skip (.exit 0)) c38_7)
def c38_9 : ACode :=
  (.seq (.region false [⟨some 16, none, .bin .lss (.s 15) (.s 14)⟩] [] [1, 2, 3, 8, 13, 14, 15, 16]) c38_8)
def c38_10 : ACode :=
  (.loop c38_9)
def c38_11 : ACode :=
  (.block 0 c38_10)
def c38_12 : ACode :=
  (.seq (.seq (.region false [⟨some 12, none, .fa 3 (.s 4)⟩,
    ⟨some 13, none, .ld false 1 (.s 12)⟩,
    ⟨some 14, none, .len (.s 13)⟩,
    ⟨some 15, none, .cst (.t (.int .i64 0))⟩] [] [1, 2, 3, 8, 13, 14, 15]) c38_11) c38_0)
def c38 : ACode :=
  (.seq (.region false [⟨some 4, none, .box 4 (.s 0)⟩,
    ⟨some 8, none, .alloc [.t (.str []), .t (.str []), .t (.int .i64 0), .t (.bool false), .nils, .nils]⟩,
    ⟨some 9, none, .cst (.t (.bool false))⟩] [] [1, 2, 3, 4, 8]) c38_12)
def r38 : List ARes := [.cell 8 true 6, .tmp 9]
def n38 : Nat := 46
/- 39 supergraph supergraphref25.Find -/
def c39_0 : ACode :=
  (.seq (.region false [⟨some 41, none, .build [.t (.str []), .t (.str []), .t (.int .i64 0), .t (.bool false), .nils, .nils] []⟩,
    ⟨none, none, .st 6 (.s 8) (.s 41)⟩,
    ⟨some 9, none, .cst (.t (.bool false))⟩] [] [8, 9]) .ret)
def c39_1 : ACode :=
  (.region false [⟨some 17, none, .mv (.s 10)⟩,
    ⟨some 18, none, .bin .add (.s 17) (.c (.t (.int .i64 1)))⟩,
    ⟨some 10, none, .mv (.s 18)⟩] [] [1, 2, 3, 4, 8, 10])
def c39_2 : ACode :=
  (.seq (.region false [⟨some 40, none, .ld true 6 (.s 11)⟩,
    ⟨none, none, .st 6 (.s 8) (.s 40)⟩,
    ⟨some 9, none, .cst (.t (.bool true))⟩] [] [8, 9]) .ret)
def c39_3 : ACode :=
  (.cond (.s 39) c39_2 .skip)
def c39_4 : ACode :=
  (.seq (.region false [⟨some 24, none, .fa 0 (.s 11)⟩,
    ⟨some 25, none, .ld false 1 (.s 24)⟩,
    ⟨some 26, none, .mv (.s 1)⟩,
    ⟨some 27, none, .bin .eql (.s 25) (.s 26)⟩,
    ⟨some 28, none, .mv (.s 27)⟩,
    ⟨some 29, some (28, true), .fa 1 (.s 11)⟩,
    ⟨some 30, some (28, true), .ld false 1 (.s 29)⟩,
    ⟨some 31, some (28, true), .mv (.s 2)⟩,
    ⟨some 32, some (28, true), .bin .eql (.s 30) (.s 31)⟩,
    ⟨some 33, none, .pick (.s 28) (.s 32) (.c (.t (.bool false)))⟩,
    ⟨some 34, none, .mv (.s 33)⟩,
    ⟨some 35, some (34, true), .fa 2 (.s 11)⟩,
    ⟨some 36, some (34, true), .ld false 1 (.s 35)⟩,
    ⟨some 37, some (34, true), .mv (.s 3)⟩,
    ⟨some 38, some (34, true), .bin .eql (.s 36) (.s 37)⟩,
    ⟨some 39, none, .pick (.s 34) (.s 38) (.c (.t (.bool false)))⟩] [] [1, 2, 3, 4, 8, 10, 11, 39]) c39_3)
def c39_5 : ACode :=
  (.seq (.region false [⟨some 19, none, .fa 3 (.s 4)⟩,
    ⟨some 20, none, .ld false 1 (.s 19)⟩,
    ⟨some 21, none, .mv (.s 10)⟩,
    ⟨some 22, none, .ia 6 (.s 20) (.s 21)⟩,
    ⟨some 23, none, .ld true 6 (.s 22)⟩,
    ⟨some 11, none, .alloc [.t (.str []), .t (.str []), .t (.int .i64 0), .t (.bool false), .nils, .nils]⟩,
    ⟨none, none, .st 6 (.s 11) (.s 23)⟩] [] [1, 2, 3, 4, 8, 10, 11]) c39_4)
def c39_6 : ACode :=
  (.seq (.block 1 c39_5) c39_1)
def c39_7 : ACode :=
  (.cond (.s 16) .skip (.exit 0))
def c39_8 : ACode :=
  (.seq (.seq (.region false [⟨some 12, none, .mv (.s 10)⟩,
    ⟨some 13, none, .fa 3 (.s 4)⟩,
    ⟨some 14, none, .ld false 1 (.s 13)⟩,
    ⟨some 15, none, .len (.s 14)⟩,
    ⟨some 16, none, .bin .lss (.s 12) (.s 15)⟩] [] [1, 2, 3, 4, 8, 10, 16]) c39_7) c39_6)
def c39_9 : ACode :=
  (.loop c39_8)
def c39_10 : ACode :=
  (.block 0 c39_9)
def c39_11 : ACode :=
  (.seq (.seq (.region false [⟨some 10, none, .cst (.t (.int .i64 0))⟩] [] [1, 2, 3, 4, 8, 10]) c39_10) c39_0)
def c39 : ACode :=
  (.seq (.region false [⟨some 4, none, .box 4 (.s 0)⟩,
    ⟨some 8, none, .alloc [.t (.str []), .t (.str []), .t (.int .i64 0), .t (.bool false), .nils, .nils]⟩,
    ⟨some 9, none, .cst (.t (.bool false))⟩] [] [1, 2, 3, 4, 8]) c39_11)
def r39 : List ARes := [.cell 8 true 6, .tmp 9]
def n39 : Nat := 42
/- 40 supergraph moves.Keys -/
def c40_0 : ACode :=
  (.seq (.region false [⟨some 34, none, .mv (.s 7)⟩,
    ⟨some 6, none, .mv (.s 34)⟩] [] [6]) .ret)
def c40_1 : ACode :=
  (.region false [⟨some 33, none, .bin .add (.s 13) (.c (.t (.int .i64 1)))⟩,
    ⟨some 13, none, .mv (.s 33)⟩] [] [1, 2, 7, 11, 12, 13])
def c40_2 : ACode :=
  (.region false [⟨some 27, none, .mv (.s 7)⟩,
    ⟨some 28, none, .fa 2 (.s 9)⟩,
    ⟨some 29, none, .ld false 1 (.s 28)⟩,
    ⟨some 30, none, .call 68 [(.s 29)]⟩,
    ⟨some 31, none, .bsl false 1 [[.lst []]] [(0, (.s 30))]⟩,
    ⟨some 32, none, .app 1 24 (.s 27) (.s 31)⟩,
    ⟨some 7, none, .mv (.s 32)⟩] [] [1, 2, 7, 11, 12, 13])
def c40_3 : ACode :=
  (.cond (.s 26) c40_2 .skip)
def c40_4 : ACode :=
  (.seq (.region false [⟨some 17, none, .fa 0 (.s 9)⟩,
    ⟨some 18, none, .ld false 1 (.s 17)⟩,
    ⟨some 19, none, .mv (.s 1)⟩,
    ⟨some 20, none, .bin .eql (.s 18) (.s 19)⟩,
    ⟨some 21, none, .mv (.s 20)⟩,
    ⟨some 22, some (21, true), .fa 1 (.s 9)⟩,
    ⟨some 23, some (21, true), .ld false 1 (.s 22)⟩,
    ⟨some 24, some (21, true), .mv (.s 2)⟩,
    ⟨some 25, some (21, true), .bin .eql (.s 23) (.s 24)⟩,
    ⟨some 26, none, .pick (.s 21) (.s 25) (.c (.t (.bool false)))⟩] [] [1, 2, 7, 9, 11, 12, 13, 26]) c40_3)
def c40_5 : ACode :=
  (.seq (.region false [⟨some 15, none, .ia 3 (.s 11) (.s 13)⟩,
    ⟨some 16, none, .ld true 3 (.s 15)⟩,
    ⟨some 9, none, .alloc [.t (.str []), .t (.int .i64 0), .nils]⟩,
    ⟨none, none, .st 3 (.s 9) (.s 16)⟩] [] [1, 2, 7, 9, 11, 12, 13]) c40_4)
def c40_6 : ACode :=
  (.seq (.block 1 c40_5) c40_1)
def c40_7 : ACode :=
  (.seq (.cond (.s 14) .skip (.exit 0)) c40_6)
def c40_8 : ACode :=
  (.seq (.region false [⟨some 14, none, .bin .lss (.s 13) (.s 12)⟩] [] [1, 2, 7, 11, 12, 13, 14]) c40_7)
def c40_9 : ACode :=
  (.loop c40_8)
def c40_10 : ACode :=
  (.block 0 c40_9)
def c40_11 : ACode :=
  (.seq (.seq (.region false [⟨some 10, none, .fa 2 (.s 3)⟩,
    ⟨some 11, none, .ld false 1 (.s 10)⟩,
    ⟨some 12, none, .len (.s 11)⟩,
    ⟨some 13, none, .cst (.t (.int .i64 0))⟩] [] [1, 2, 7, 11, 12, 13]) c40_10) c40_0)
def c40_12 : ACode :=
  (.seq (.region false [⟨some 7, none, .cst (.nils)⟩] [] [1, 2, 3, 7]) c40_11)
def c40 : ACode :=
  (.seq (.region false [⟨some 3, none, .box 4 (.s 0)⟩,
    ⟨some 6, none, .cst (.nils)⟩] [] [1, 2, 3]) c40_12)
def r40 : List ARes := [.tmp 6]
def n40 : Nat := 35
/- 41 supergraph supergraphref25.Keys -/
def c41_0 : ACode :=
  (.seq (.region false [⟨some 43, none, .mv (.s 7)⟩,
    ⟨some 6, none, .mv (.s 43)⟩] [] [6]) .ret)
def c41_1 : ACode :=
  (.region false [⟨some 14, none, .mv (.s 8)⟩,
    ⟨some 15, none, .bin .add (.s 14) (.c (.t (.int .i64 1)))⟩,
    ⟨some 8, none, .mv (.s 15)⟩] [] [1, 2, 3, 7, 8])
def c41_2 : ACode :=
  (.region false [⟨some 34, none, .mv (.s 7)⟩,
    ⟨some 35, none, .fa 2 (.s 3)⟩,
    ⟨some 36, none, .ld false 1 (.s 35)⟩,
    ⟨some 37, none, .mv (.s 8)⟩,
    ⟨some 38, none, .ia 3 (.s 36) (.s 37)⟩,
    ⟨some 39, none, .fa 2 (.s 38)⟩,
    ⟨some 40, none, .ld false 1 (.s 39)⟩,
    ⟨some 41, none, .bsl false 1 [[.lst []]] [(0, (.s 40))]⟩,
    ⟨some 42, none, .app 1 24 (.s 34) (.s 41)⟩,
    ⟨some 7, none, .mv (.s 42)⟩] [] [1, 2, 3, 7, 8])
def c41_3 : ACode :=
  (.cond (.s 33) c41_2 .skip)
def c41_4 : ACode :=
  (.seq (.region false [⟨some 16, none, .fa 2 (.s 3)⟩,
    ⟨some 17, none, .ld false 1 (.s 16)⟩,
    ⟨some 18, none, .mv (.s 8)⟩,
    ⟨some 19, none, .ia 3 (.s 17) (.s 18)⟩,
    ⟨some 20, none, .fa 0 (.s 19)⟩,
    ⟨some 21, none, .ld false 1 (.s 20)⟩,
    ⟨some 22, none, .mv (.s 1)⟩,
    ⟨some 23, none, .bin .eql (.s 21) (.s 22)⟩,
    ⟨some 24, none, .mv (.s 23)⟩,
    ⟨some 25, some (24, true), .fa 2 (.s 3)⟩,
    ⟨some 26, some (24, true), .ld false 1 (.s 25)⟩,
    ⟨some 27, some (24, true), .mv (.s 8)⟩,
    ⟨some 28, some (24, true), .ia 3 (.s 26) (.s 27)⟩,
    ⟨some 29, some (24, true), .fa 1 (.s 28)⟩,
    ⟨some 30, some (24, true), .ld false 1 (.s 29)⟩,
    ⟨some 31, some (24, true), .mv (.s 2)⟩,
    ⟨some 32, some (24, true), .bin .eql (.s 30) (.s 31)⟩,
    ⟨some 33, none, .pick (.s 24) (.s 32) (.c (.t (.bool false)))⟩] [] [1, 2, 3, 7, 8, 33]) c41_3)
def c41_5 : ACode :=
  (.seq (.block 1 c41_4) c41_1)
def c41_6 : ACode :=
  (.cond (.s 13) .skip (.exit 0))
def c41_7 : ACode :=
  (.seq (.seq (.region false [⟨some 9, none, .mv (.s 8)⟩,
    ⟨some 10, none, .fa 2 (.s 3)⟩,
    ⟨some 11, none, .ld false 1 (.s 10)⟩,
    ⟨some 12, none, .len (.s 11)⟩,
    ⟨some 13, none, .bin .lss (.s 9) (.s 12)⟩] [] [1, 2, 3, 7, 8, 13]) c41_6) c41_5)
def c41_8 : ACode :=
  (.loop c41_7)
def c41_9 : ACode :=
  (.block 0 c41_8)
def c41_10 : ACode :=
  (.seq (.seq (.region false [⟨some 8, none, .cst (.t (.int .i64 0))⟩] [] [1, 2, 3, 7, 8]) c41_9) c41_0)
def c41_11 : ACode :=
  (.seq (.region false [⟨some 7, none, .cst (.nils)⟩] [] [1, 2, 3, 7]) c41_10)
def c41 : ACode :=
  (.seq (.region false [⟨some 3, none, .box 4 (.s 0)⟩,
    ⟨some 6, none, .cst (.nils)⟩] [] [1, 2, 3]) c41_11)
def r41 : List ARes := [.tmp 6]
def n41 : Nat := 44
/- 42 supergraph supergraphref25.SameJoin -/
def c42_0 : ACode :=
  (.seq (.region false [⟨some 5, none, .fa 0 (.s 2)⟩,
    ⟨some 6, none, .ld false 1 (.s 5)⟩,
    ⟨some 7, none, .fa 0 (.s 3)⟩,
    ⟨some 8, none, .ld false 1 (.s 7)⟩,
    ⟨some 9, none, .bin .eql (.s 6) (.s 8)⟩,
    ⟨some 10, none, .mv (.s 9)⟩,
    ⟨some 11, some (10, true), .fa 1 (.s 2)⟩,
    ⟨some 12, some (10, true), .ld false 1 (.s 11)⟩,
    ⟨some 13, some (10, true), .fa 1 (.s 3)⟩,
    ⟨some 14, some (10, true), .ld false 1 (.s 13)⟩,
    ⟨some 15, some (10, true), .bin .eql (.s 12) (.s 14)⟩,
    ⟨some 16, none, .pick (.s 10) (.s 15) (.c (.t (.bool false)))⟩,
    ⟨some 17, none, .mv (.s 16)⟩,
    ⟨some 18, some (17, true), .fa 2 (.s 2)⟩,
    ⟨some 19, some (17, true), .ld false 1 (.s 18)⟩,
    ⟨some 20, some (17, true), .fa 2 (.s 3)⟩,
    ⟨some 21, some (17, true), .ld false 1 (.s 20)⟩,
    ⟨some 22, some (17, true), .bin .eql (.s 19) (.s 21)⟩,
    ⟨some 23, none, .pick (.s 17) (.s 22) (.c (.t (.bool false)))⟩,
    ⟨some 24, none, .mv (.s 23)⟩,
    ⟨some 25, some (24, true), .fa 3 (.s 2)⟩,
    ⟨some 26, some (24, true), .ld false 1 (.s 25)⟩,
    ⟨some 27, some (24, true), .fa 3 (.s 3)⟩,
    ⟨some 28, some (24, true), .ld false 1 (.s 27)⟩,
    ⟨some 29, some (24, true), .eqb false (.s 26) (.s 28)⟩,
    ⟨some 30, none, .pick (.s 24) (.s 29) (.c (.t (.bool false)))⟩,
    ⟨some 31, none, .mv (.s 30)⟩,
    ⟨some 32, some (31, true), .fa 4 (.s 2)⟩,
    ⟨some 33, some (31, true), .ld false 1 (.s 32)⟩,
    ⟨some 34, some (31, true), .fa 4 (.s 3)⟩,
    ⟨some 35, some (31, true), .ld false 1 (.s 34)⟩,
    ⟨some 36, some (31, true), .call 43 [(.s 33), (.s 35)]⟩,
    ⟨some 37, none, .pick (.s 31) (.s 36) (.c (.t (.bool false)))⟩,
    ⟨some 38, none, .mv (.s 37)⟩,
    ⟨some 39, some (38, true), .fa 5 (.s 2)⟩,
    ⟨some 40, some (38, true), .ld false 1 (.s 39)⟩,
    ⟨some 41, some (38, true), .fa 5 (.s 3)⟩,
    ⟨some 42, some (38, true), .ld false 1 (.s 41)⟩,
    ⟨some 43, some (38, true), .call 43 [(.s 40), (.s 42)]⟩,
    ⟨some 44, none, .pick (.s 38) (.s 43) (.c (.t (.bool false)))⟩,
    ⟨some 4, none, .mv (.s 44)⟩] [] [4]) .ret)
def c42 : ACode :=
  (.seq (.region false [⟨some 2, none, .box 6 (.s 0)⟩,
    ⟨some 3, none, .box 6 (.s 1)⟩,
    ⟨some 4, none, .cst (.t (.bool false))⟩] [] [2, 3]) c42_0)
def r42 : List ARes := [.tmp 4]
def n42 : Nat := 45
/- 43 supergraph supergraphref25.Texts -/
def c43_0 : ACode :=
  (.seq (.region false [⟨some 4, none, .cst (.t (.bool true))⟩] [] [4]) .ret)
def c43_1 : ACode :=
  (.region false [⟨some 15, none, .mv (.s 5)⟩,
    ⟨some 16, none, .bin .add (.s 15) (.c (.t (.int .i64 1)))⟩,
    ⟨some 5, none, .mv (.s 16)⟩] [] [0, 1, 5])
def c43_2 : ACode :=
  (.seq (.region false [⟨some 4, none, .cst (.t (.bool false))⟩] [] [4]) .ret)
def c43_3 : ACode :=
  (.cond (.s 25) c43_2 .skip)
def c43_4 : ACode :=
  (.seq (.region true [⟨some 17, none, .mv (.s 0)⟩,
    ⟨some 18, none, .mv (.s 5)⟩,
    ⟨some 19, none, .ia 1 (.s 17) (.s 18)⟩,
    ⟨some 20, none, .ld false 1 (.s 19)⟩,
    ⟨some 21, none, .mv (.s 1)⟩,
    ⟨some 22, none, .mv (.s 5)⟩,
    ⟨some 23, none, .ia 1 (.s 21) (.s 22)⟩,
    ⟨some 24, none, .ld false 1 (.s 23)⟩,
    ⟨some 25, none, .bin .neq (.s 20) (.s 24)⟩] [[], [], [0, 1], [2], [], [], [4, 5], [6], [3, 7]] [0, 1, 5, 25]) c43_3)
def c43_5 : ACode :=
  (.seq (.block 1 c43_4) c43_1)
def c43_6 : ACode :=
  (.cond (.s 14) .skip (.exit 0))
def c43_7 : ACode :=
  (.seq (.seq (.region false [⟨some 11, none, .mv (.s 5)⟩,
    ⟨some 12, none, .mv (.s 0)⟩,
    ⟨some 13, none, .len (.s 12)⟩,
    ⟨some 14, none, .bin .lss (.s 11) (.s 13)⟩] [] [0, 1, 5, 14]) c43_6) c43_5)
def c43_8 : ACode :=
  (.loop c43_7)
def c43_9 : ACode :=
  (.block 0 c43_8)
def c43_10 : ACode :=
  (.seq (.seq (.region false [⟨some 5, none, .cst (.t (.int .i64 0))⟩] [] [0, 1, 5]) c43_9) c43_0)
def c43_11 : ACode :=
  (.seq (.region false [⟨some 4, none, .cst (.t (.bool false))⟩] [] [4]) .ret)
def c43_12 : ACode :=
  (.cond (.s 10) c43_11 .skip)
def c43_13 : ACode :=
  (.seq (.seq (.region false [⟨some 6, none, .mv (.s 0)⟩,
    ⟨some 7, none, .len (.s 6)⟩,
    ⟨some 8, none, .mv (.s 1)⟩,
    ⟨some 9, none, .len (.s 8)⟩,
    ⟨some 10, none, .bin .neq (.s 7) (.s 9)⟩] [] [0, 1, 10]) c43_12) c43_10)
def c43 : ACode :=
  (.seq (.region false [⟨some 4, none, .cst (.t (.bool false))⟩] [] [0, 1]) c43_13)
def r43 : List ARes := [.tmp 4]
def n43 : Nat := 26
/- 44 supergraph moves.Needs -/
def c44_0 : ACode :=
  (.seq (.region false [⟨some 6, none, .cst (.nils)⟩] [] [6]) .ret)
def c44_1 : ACode :=
  (.region false [⟨some 35, none, .bin .add (.s 12) (.c (.t (.int .i64 1)))⟩,
    ⟨some 12, none, .mv (.s 35)⟩] [] [1, 2, 10, 11, 12])
def c44_2 : ACode :=
  (.seq (.region false [⟨some 32, none, .fa 4 (.s 8)⟩,
    ⟨some 33, none, .ld false 1 (.s 32)⟩,
    ⟨some 34, none, .call 68 [(.s 33)]⟩,
    ⟨some 6, none, .mv (.s 34)⟩] [] [6]) .ret)
def c44_3 : ACode :=
  (.cond (.s 31) c44_2 .skip)
def c44_4 : ACode :=
  (.seq (.region false [⟨some 16, none, .fa 0 (.s 8)⟩,
    ⟨some 17, none, .ld false 1 (.s 16)⟩,
    ⟨some 18, none, .mv (.s 1)⟩,
    ⟨some 19, none, .bin .eql (.s 17) (.s 18)⟩,
    ⟨some 20, none, .mv (.s 19)⟩,
    ⟨some 21, some (20, true), .fa 1 (.s 8)⟩,
    ⟨some 22, some (20, true), .ld false 1 (.s 21)⟩,
    ⟨some 23, some (20, true), .mv (.s 2)⟩,
    ⟨some 24, some (20, true), .bin .eql (.s 22) (.s 23)⟩,
    ⟨some 25, none, .pick (.s 20) (.s 24) (.c (.t (.bool false)))⟩,
    ⟨some 26, none, .mv (.s 25)⟩,
    ⟨some 27, some (26, true), .fa 4 (.s 8)⟩,
    ⟨some 28, some (26, true), .ld false 1 (.s 27)⟩,
    ⟨some 29, some (26, true), .len (.s 28)⟩,
    ⟨some 30, some (26, true), .bin .gtr (.s 29) (.c (.t (.int .i64 0)))⟩,
    ⟨some 31, none, .pick (.s 26) (.s 30) (.c (.t (.bool false)))⟩] [] [1, 2, 8, 10, 11, 12, 31]) c44_3)
def c44_5 : ACode :=
  (.seq (.region false [⟨some 14, none, .ia 6 (.s 10) (.s 12)⟩,
    ⟨some 15, none, .ld true 6 (.s 14)⟩,
    ⟨some 8, none, .alloc [.t (.str []), .t (.str []), .t (.int .i64 0), .t (.bool false), .nils, .nils]⟩,
    ⟨none, none, .st 6 (.s 8) (.s 15)⟩] [] [1, 2, 8, 10, 11, 12]) c44_4)
def c44_6 : ACode :=
  (.seq (.block 1 c44_5) c44_1)
def c44_7 : ACode :=
  (.seq (.cond (.s 13) .skip (.exit 0)) c44_6)
def c44_8 : ACode :=
  (.seq (.region false [⟨some 13, none, .bin .lss (.s 12) (.s 11)⟩] [] [1, 2, 10, 11, 12, 13]) c44_7)
def c44_9 : ACode :=
  (.loop c44_8)
def c44_10 : ACode :=
  (.block 0 c44_9)
def c44_11 : ACode :=
  (.seq (.seq (.region false [⟨some 9, none, .fa 3 (.s 3)⟩,
    ⟨some 10, none, .ld false 1 (.s 9)⟩,
    ⟨some 11, none, .len (.s 10)⟩,
    ⟨some 12, none, .cst (.t (.int .i64 0))⟩] [] [1, 2, 10, 11, 12]) c44_10) c44_0)
def c44 : ACode :=
  (.seq (.region false [⟨some 3, none, .box 4 (.s 0)⟩,
    ⟨some 6, none, .cst (.nils)⟩] [] [1, 2, 3]) c44_11)
def r44 : List ARes := [.tmp 6]
def n44 : Nat := 36
/- 45 supergraph supergraphref25.Needs -/
def c45_0 : ACode :=
  (.seq (.region false [⟨some 6, none, .cst (.nils)⟩] [] [6]) .ret)
def c45_1 : ACode :=
  (.region false [⟨some 14, none, .mv (.s 7)⟩,
    ⟨some 15, none, .bin .add (.s 14) (.c (.t (.int .i64 1)))⟩,
    ⟨some 7, none, .mv (.s 15)⟩] [] [1, 2, 3, 7])
def c45_2 : ACode :=
  (.seq (.region false [⟨some 37, none, .fa 4 (.s 8)⟩,
    ⟨some 38, none, .ld false 1 (.s 37)⟩,
    ⟨some 6, none, .mv (.s 38)⟩] [] [6]) .ret)
def c45_3 : ACode :=
  (.cond (.s 36) c45_2 .skip)
def c45_4 : ACode :=
  (.seq (.region false [⟨some 21, none, .fa 0 (.s 8)⟩,
    ⟨some 22, none, .ld false 1 (.s 21)⟩,
    ⟨some 23, none, .mv (.s 1)⟩,
    ⟨some 24, none, .bin .eql (.s 22) (.s 23)⟩,
    ⟨some 25, none, .mv (.s 24)⟩,
    ⟨some 26, some (25, true), .fa 1 (.s 8)⟩,
    ⟨some 27, some (25, true), .ld false 1 (.s 26)⟩,
    ⟨some 28, some (25, true), .mv (.s 2)⟩,
    ⟨some 29, some (25, true), .bin .eql (.s 27) (.s 28)⟩,
    ⟨some 30, none, .pick (.s 25) (.s 29) (.c (.t (.bool false)))⟩,
    ⟨some 31, none, .mv (.s 30)⟩,
    ⟨some 32, some (31, true), .fa 4 (.s 8)⟩,
    ⟨some 33, some (31, true), .ld false 1 (.s 32)⟩,
    ⟨some 34, some (31, true), .len (.s 33)⟩,
    ⟨some 35, some (31, true), .bin .gtr (.s 34) (.c (.t (.int .i64 0)))⟩,
    ⟨some 36, none, .pick (.s 31) (.s 35) (.c (.t (.bool false)))⟩] [] [1, 2, 3, 7, 8, 36]) c45_3)
def c45_5 : ACode :=
  (.seq (.region false [⟨some 16, none, .fa 3 (.s 3)⟩,
    ⟨some 17, none, .ld false 1 (.s 16)⟩,
    ⟨some 18, none, .mv (.s 7)⟩,
    ⟨some 19, none, .ia 6 (.s 17) (.s 18)⟩,
    ⟨some 20, none, .ld true 6 (.s 19)⟩,
    ⟨some 8, none, .alloc [.t (.str []), .t (.str []), .t (.int .i64 0), .t (.bool false), .nils, .nils]⟩,
    ⟨none, none, .st 6 (.s 8) (.s 20)⟩] [] [1, 2, 3, 7, 8]) c45_4)
def c45_6 : ACode :=
  (.seq (.block 1 c45_5) c45_1)
def c45_7 : ACode :=
  (.cond (.s 13) .skip (.exit 0))
def c45_8 : ACode :=
  (.seq (.seq (.region false [⟨some 9, none, .mv (.s 7)⟩,
    ⟨some 10, none, .fa 3 (.s 3)⟩,
    ⟨some 11, none, .ld false 1 (.s 10)⟩,
    ⟨some 12, none, .len (.s 11)⟩,
    ⟨some 13, none, .bin .lss (.s 9) (.s 12)⟩] [] [1, 2, 3, 7, 13]) c45_7) c45_6)
def c45_9 : ACode :=
  (.loop c45_8)
def c45_10 : ACode :=
  (.block 0 c45_9)
def c45_11 : ACode :=
  (.seq (.seq (.region false [⟨some 7, none, .cst (.t (.int .i64 0))⟩] [] [1, 2, 3, 7]) c45_10) c45_0)
def c45 : ACode :=
  (.seq (.region false [⟨some 3, none, .box 4 (.s 0)⟩,
    ⟨some 6, none, .cst (.nils)⟩] [] [1, 2, 3]) c45_11)
def r45 : List ARes := [.tmp 6]
def n45 : Nat := 39
/- 46 strings.Split -/
def c46_0 : ACode :=
  (.seq (.region false [⟨some 5, none, .mv (.s 0)⟩,
    ⟨some 6, none, .mv (.s 1)⟩,
    ⟨some 7, none, .call 69 [(.s 5), (.s 6), (.c (.t (.int .i64 0))), (.c (.t (.int .i64 (-1))))]⟩,
    ⟨some 4, none, .mv (.s 7)⟩] [] [4]) .ret)
def c46 : ACode :=
  (.seq (.region false [⟨some 4, none, .cst (.nils)⟩] [] [0, 1]) c46_0)
def r46 : List ARes := [.tmp 4]
def n46 : Nat := 8
/- 47 supergraph text.Name -/
def c47_0 : ACode :=
  (.seq (.region false [⟨some 2, none, .cst (.t (.bool true))⟩] [] [2]) .ret)
def c47_1 : ACode :=
  (.region false [⟨some 57, none, .bin .add (.s 24) (.c (.t (.int .i64 1)))⟩,
    ⟨some 24, none, .mv (.s 57)⟩] [] [0, 23, 24])
def c47_2 : ACode :=
  (.seq (.region false [⟨some 2, none, .cst (.t (.bool false))⟩] [] [2]) .ret)
def c47_3 : ACode :=
  (.cond (.s 56) c47_2 .skip)
def c47_4 : ACode :=
  (.seq (.region false [⟨some 30, none, .mv (.s 4)⟩,
    ⟨some 31, none, .bin .geq (.s 30) (.c (.t (.int .u8 97)))⟩,
    ⟨some 32, none, .mv (.s 31)⟩,
    ⟨some 33, some (32, true), .mv (.s 4)⟩,
    ⟨some 34, some (32, true), .bin .leq (.s 33) (.c (.t (.int .u8 122)))⟩,
    ⟨some 35, none, .pick (.s 32) (.s 34) (.c (.t (.bool false)))⟩,
    ⟨some 36, none, .mv (.s 35)⟩,
    ⟨some 37, some (36, false), .mv (.s 4)⟩,
    ⟨some 38, some (36, false), .bin .geq (.s 37) (.c (.t (.int .u8 65)))⟩,
    ⟨some 39, some (36, false), .mv (.s 38)⟩,
    ⟨some 40, some (39, true), .mv (.s 4)⟩,
    ⟨some 41, some (39, true), .bin .leq (.s 40) (.c (.t (.int .u8 90)))⟩,
    ⟨some 42, some (36, false), .pick (.s 39) (.s 41) (.c (.t (.bool false)))⟩,
    ⟨some 43, none, .pick (.s 36) (.c (.t (.bool true))) (.s 42)⟩,
    ⟨some 44, none, .mv (.s 43)⟩,
    ⟨some 45, some (44, false), .mv (.s 4)⟩,
    ⟨some 46, some (44, false), .bin .geq (.s 45) (.c (.t (.int .u8 48)))⟩,
    ⟨some 47, some (44, false), .mv (.s 46)⟩,
    ⟨some 48, some (47, true), .mv (.s 4)⟩,
    ⟨some 49, some (47, true), .bin .leq (.s 48) (.c (.t (.int .u8 57)))⟩,
    ⟨some 50, some (44, false), .pick (.s 47) (.s 49) (.c (.t (.bool false)))⟩,
    ⟨some 51, none, .pick (.s 44) (.c (.t (.bool true))) (.s 50)⟩,
    ⟨some 52, none, .mv (.s 51)⟩,
    ⟨some 53, some (52, false), .mv (.s 4)⟩,
    ⟨some 54, some (52, false), .bin .eql (.s 53) (.c (.t (.int .u8 95)))⟩,
    ⟨some 55, none, .pick (.s 52) (.c (.t (.bool true))) (.s 54)⟩,
    ⟨some 56, none, .un .not (.s 55)⟩] [] [0, 23, 24, 56]) c47_3)
def c47_5 : ACode :=
  (.seq (.region false [⟨some 27, none, .mv (.s 0)⟩,
    ⟨some 28, none, .mv (.s 3)⟩,
    ⟨some 29, none, .ixs (.s 27) (.s 28)⟩,
    ⟨some 4, none, .mv (.s 29)⟩] [] [0, 4, 23, 24]) c47_4)
def c47_6 : ACode :=
  (.seq (.region false [⟨some 26, none, .mv (.s 24)⟩,
    ⟨some 3, none, .mv (.s 26)⟩] [] [0, 3, 23, 24]) c47_5)
def c47_7 : ACode :=
  (.seq (.block 1 c47_6) c47_1)
def c47_8 : ACode :=
  (.seq (.cond (.s 25) .skip (.exit 0)) c47_7)
def c47_9 : ACode :=
  (.seq (.region false [⟨some 25, none, .bin .lss (.s 24) (.s 23)⟩] [] [0, 23, 24, 25]) c47_8)
def c47_10 : ACode :=
  (.loop c47_9)
def c47_11 : ACode :=
  (.block 0 c47_10)
def c47_12 : ACode :=
  (.seq (.seq (.region false [⟨some 22, none, .mv (.s 0)⟩,
    ⟨some 23, none, .lens (.s 22)⟩,
    ⟨some 24, none, .cst (.t (.int .i64 0))⟩] [] [0, 23, 24]) c47_11) c47_0)
def c47_13 : ACode :=
  (.seq (.region false [⟨some 2, none, .cst (.t (.bool false))⟩] [] [2]) .ret)
def c47_14 : ACode :=
  (.cond (.s 21) c47_13 .skip)
def c47_15 : ACode :=
  (.seq (.seq (.region false [⟨some 5, none, .mv (.s 0)⟩,
    ⟨some 6, none, .bin .eql (.s 5) (.c (.t (.str [])))⟩,
    ⟨some 7, none, .mv (.s 6)⟩,
    ⟨some 8, some (7, false), .mv (.s 0)⟩,
    ⟨some 9, some (7, false), .lens (.s 8)⟩,
    ⟨some 10, some (7, false), .bin .gtr (.s 9) (.c (.t (.int .i64 64)))⟩,
    ⟨some 11, none, .pick (.s 7) (.c (.t (.bool true))) (.s 10)⟩,
    ⟨some 12, none, .mv (.s 11)⟩,
    ⟨some 13, some (12, false), .mv (.s 0)⟩,
    ⟨some 14, some (12, false), .ixs (.s 13) (.c (.t (.int .i64 0)))⟩,
    ⟨some 15, some (12, false), .bin .geq (.s 14) (.c (.t (.int .u8 48)))⟩,
    ⟨some 16, some (12, false), .mv (.s 15)⟩,
    ⟨some 17, some (16, true), .mv (.s 0)⟩,
    ⟨some 18, some (16, true), .ixs (.s 17) (.c (.t (.int .i64 0)))⟩,
    ⟨some 19, some (16, true), .bin .leq (.s 18) (.c (.t (.int .u8 57)))⟩,
    ⟨some 20, some (12, false), .pick (.s 16) (.s 19) (.c (.t (.bool false)))⟩,
    ⟨some 21, none, .pick (.s 12) (.c (.t (.bool true))) (.s 20)⟩] [] [0, 21]) c47_14) c47_12)
def c47 : ACode :=
  (.seq (.region false [⟨some 2, none, .cst (.t (.bool false))⟩] [] [0]) c47_15)
def r47 : List ARes := [.tmp 2]
def n47 : Nat := 58
/- 48 supergraph text.Reserved -/
def c48_0 : ACode :=
  (.seq (.region false [⟨some 3, none, .mv (.s 0)⟩,
    ⟨some 4, none, .call 70 [(.s 3), (.c (.t (.str [95, 95])))]⟩,
    ⟨some 2, none, .mv (.s 4)⟩] [] [2]) .ret)
def c48 : ACode :=
  (.seq (.region false [⟨some 2, none, .cst (.t (.bool false))⟩] [] [0]) c48_0)
def r48 : List ARes := [.tmp 2]
def n48 : Nat := 5
/- 49 supergraph supergraphref23.split -/
/- 50 supergraph supergraphref01.Name -/
/- 51 supergraph supergraphref01.Reserved -/
/- 52 supergraph directives.uses -/
/- 53 supergraph supergraphref23.uses -/
/- 54 supergraph supergraphref23.fields -/
/- 55 supergraph supergraphref23.members -/
/- 56 supergraph directives.argument -/
def c56_0 : ACode :=
  (.seq (.region false [⟨some 22, none, .build [.t (.int .i64 0), .t (.int .i64 0), .t (.str []), .nils, .nils] []⟩,
    ⟨none, none, .st 5 (.s 4) (.s 22)⟩,
    ⟨some 5, none, .cst (.t (.bool false))⟩] [] [4, 5]) .ret)
def c56_1 : ACode :=
  (.region false [⟨some 21, none, .bin .add (.s 11) (.c (.t (.int .i64 1)))⟩,
    ⟨some 11, none, .mv (.s 21)⟩] [] [1, 4, 9, 10, 11])
def c56_2 : ACode :=
  (.seq (.region false [⟨some 19, none, .fa 1 (.s 7)⟩,
    ⟨some 20, none, .ld true 5 (.s 19)⟩,
    ⟨none, none, .st 5 (.s 4) (.s 20)⟩,
    ⟨some 5, none, .cst (.t (.bool true))⟩] [] [4, 5]) .ret)
def c56_3 : ACode :=
  (.cond (.s 18) c56_2 .skip)
def c56_4 : ACode :=
  (.seq (.region false [⟨some 15, none, .fa 0 (.s 7)⟩,
    ⟨some 16, none, .ld false 1 (.s 15)⟩,
    ⟨some 17, none, .mv (.s 1)⟩,
    ⟨some 18, none, .bin .eql (.s 16) (.s 17)⟩] [] [1, 4, 7, 9, 10, 11, 18]) c56_3)
def c56_5 : ACode :=
  (.seq (.region false [⟨some 13, none, .ia 6 (.s 9) (.s 11)⟩,
    ⟨some 14, none, .ld true 6 (.s 13)⟩,
    ⟨some 7, none, .alloc [.t (.str []), .t (.int .i64 0), .t (.int .i64 0), .t (.str []), .nils, .nils]⟩,
    ⟨none, none, .st 6 (.s 7) (.s 14)⟩] [] [1, 4, 7, 9, 10, 11]) c56_4)
def c56_6 : ACode :=
  (.seq (.block 1 c56_5) c56_1)
def c56_7 : ACode :=
  (.seq (.cond (.s 12) .skip (.exit 0)) c56_6)
def c56_8 : ACode :=
  (.seq (.region false [⟨some 12, none, .bin .lss (.s 11) (.s 10)⟩] [] [1, 4, 9, 10, 11, 12]) c56_7)
def c56_9 : ACode :=
  (.loop c56_8)
def c56_10 : ACode :=
  (.block 0 c56_9)
def c56_11 : ACode :=
  (.seq (.seq (.region false [⟨some 8, none, .fa 1 (.s 2)⟩,
    ⟨some 9, none, .ld false 1 (.s 8)⟩,
    ⟨some 10, none, .len (.s 9)⟩,
    ⟨some 11, none, .cst (.t (.int .i64 0))⟩] [] [1, 4, 9, 10, 11]) c56_10) c56_0)
def c56 : ACode :=
  (.seq (.region false [⟨some 2, none, .box 2 (.s 0)⟩,
    ⟨some 4, none, .alloc [.t (.int .i64 0), .t (.int .i64 0), .t (.str []), .nils, .nils]⟩,
    ⟨some 5, none, .cst (.t (.bool false))⟩] [] [1, 2, 4]) c56_11)
def r56 : List ARes := [.cell 4 true 5, .tmp 5]
def n56 : Nat := 23
/- 57 supergraph supergraphref23.argument -/
def c57_0 : ACode :=
  (.seq (.region false [⟨some 28, none, .build [.t (.int .i64 0), .t (.int .i64 0), .t (.str []), .nils, .nils] []⟩,
    ⟨none, none, .st 5 (.s 4) (.s 28)⟩,
    ⟨some 5, none, .cst (.t (.bool false))⟩] [] [4, 5]) .ret)
def c57_1 : ACode :=
  (.region false [⟨some 12, none, .mv (.s 6)⟩,
    ⟨some 13, none, .bin .add (.s 12) (.c (.t (.int .i64 1)))⟩,
    ⟨some 6, none, .mv (.s 13)⟩] [] [1, 2, 4, 6])
def c57_2 : ACode :=
  (.seq (.region false [⟨some 22, none, .fa 1 (.s 2)⟩,
    ⟨some 23, none, .ld false 1 (.s 22)⟩,
    ⟨some 24, none, .mv (.s 6)⟩,
    ⟨some 25, none, .ia 6 (.s 23) (.s 24)⟩,
    ⟨some 26, none, .fa 1 (.s 25)⟩,
    ⟨some 27, none, .ld true 5 (.s 26)⟩,
    ⟨none, none, .st 5 (.s 4) (.s 27)⟩,
    ⟨some 5, none, .cst (.t (.bool true))⟩] [] [4, 5]) .ret)
def c57_3 : ACode :=
  (.cond (.s 21) c57_2 .skip)
def c57_4 : ACode :=
  (.seq (.region false [⟨some 14, none, .fa 1 (.s 2)⟩,
    ⟨some 15, none, .ld false 1 (.s 14)⟩,
    ⟨some 16, none, .mv (.s 6)⟩,
    ⟨some 17, none, .ia 6 (.s 15) (.s 16)⟩,
    ⟨some 18, none, .fa 0 (.s 17)⟩,
    ⟨some 19, none, .ld false 1 (.s 18)⟩,
    ⟨some 20, none, .mv (.s 1)⟩,
    ⟨some 21, none, .bin .eql (.s 19) (.s 20)⟩] [] [1, 2, 4, 6, 21]) c57_3)
def c57_5 : ACode :=
  (.seq (.block 1 c57_4) c57_1)
def c57_6 : ACode :=
  (.cond (.s 11) .skip (.exit 0))
def c57_7 : ACode :=
  (.seq (.seq (.region false [⟨some 7, none, .mv (.s 6)⟩,
    ⟨some 8, none, .fa 1 (.s 2)⟩,
    ⟨some 9, none, .ld false 1 (.s 8)⟩,
    ⟨some 10, none, .len (.s 9)⟩,
    ⟨some 11, none, .bin .lss (.s 7) (.s 10)⟩] [] [1, 2, 4, 6, 11]) c57_6) c57_5)
def c57_8 : ACode :=
  (.loop c57_7)
def c57_9 : ACode :=
  (.block 0 c57_8)
def c57_10 : ACode :=
  (.seq (.seq (.region false [⟨some 6, none, .cst (.t (.int .i64 0))⟩] [] [1, 2, 4, 6]) c57_9) c57_0)
def c57 : ACode :=
  (.seq (.region false [⟨some 2, none, .box 2 (.s 0)⟩,
    ⟨some 4, none, .alloc [.t (.int .i64 0), .t (.int .i64 0), .t (.str []), .nils, .nils]⟩,
    ⟨some 5, none, .cst (.t (.bool false))⟩] [] [1, 2, 4]) c57_10)
def r57 : List ARes := [.cell 4 true 5, .tmp 5]
def n57 : Nat := 29
/- 58 supergraph supergraphref25.Size -/
/- 59 supergraph supergraphref10.Check -/
/- 60 supergraph supergraphlaw25.user -/
def c60_0 : ACode :=
  (.seq (.region false [⟨some 23, none, .mv (.s 0)⟩,
    ⟨some 24, none, .ld true 7 (.s 7)⟩,
    ⟨some 25, none, .bsl true 7 [[.int .i64 0, .str [], .lst [], .lst [], .lst [], .lst [], .lst []]] [(0, (.s 24))]⟩,
    ⟨some 26, none, .build [.nils] [(0, 1, (.s 25))]⟩,
    ⟨some 27, none, .build [.t (.str []), .nils] [(0, 1, (.s 23)), (1, 1, (.s 26))]⟩,
    ⟨none, none, .st 2 (.s 4) (.s 27)⟩] [] [4]) .ret)
def c60_1 : ACode :=
  (.seq (.region false [⟨some 15, none, .ld true 2 (.s 6)⟩,
    ⟨some 16, none, .bsl true 2 [[.str [], .lst []]] [(0, (.s 15))]⟩,
    ⟨some 17, none, .ld true 5 (.s 5)⟩,
    ⟨some 18, none, .mv (.s 1)⟩,
    ⟨some 19, none, .build [.t (.str []), .nils] [(0, 1, (.c (.t (.str [83, 116, 114, 105, 110, 103]))))]⟩,
    ⟨some 20, none, .build [.t (.str []), .nils, .t (.str []), .nils, .nils] [(0, 1, (.s 18)), (2, 2, (.s 19))]⟩,
    ⟨some 21, none, .bsl true 5 [[.str [], .lst [], .str [], .lst [], .lst []], [.str [], .lst [], .str [], .lst [], .lst []]] [(0, (.s 17)), (1, (.s 20))]⟩,
    ⟨some 22, none, .build [.t (.int .i64 0), .t (.str []), .nils, .nils, .nils, .nils, .nils] [(0, 1, (.c (.t (.int .i64 1)))), (1, 1, (.c (.t (.str [85, 115, 101, 114])))), (3, 1, (.s 16)), (4, 1, (.s 21))]⟩,
    ⟨some 7, none, .alloc [.t (.int .i64 0), .t (.str []), .nils, .nils, .nils, .nils, .nils]⟩,
    ⟨none, none, .st 7 (.s 7) (.s 22)⟩] [] [0, 4, 7]) c60_0)
def c60_2 : ACode :=
  (.seq (.region false [⟨some 11, none, .build [.t (.int .i64 0), .t (.int .i64 0), .t (.str []), .nils, .nils] [(0, 1, (.c (.t (.int .i64 3)))), (2, 1, (.c (.t (.str [105, 100]))))]⟩,
    ⟨some 12, none, .build [.t (.str []), .t (.int .i64 0), .t (.int .i64 0), .t (.str []), .nils, .nils] [(0, 1, (.c (.t (.str [102, 105, 101, 108, 100, 115])))), (1, 5, (.s 11))]⟩,
    ⟨some 13, none, .bsl true 6 [[.str [], .int .i64 0, .int .i64 0, .str [], .lst [], .lst []]] [(0, (.s 12))]⟩,
    ⟨some 14, none, .build [.t (.str []), .nils] [(0, 1, (.c (.t (.str [107, 101, 121])))), (1, 1, (.s 13))]⟩,
    ⟨some 6, none, .alloc [.t (.str []), .nils]⟩,
    ⟨none, none, .st 2 (.s 6) (.s 14)⟩] [] [0, 1, 4, 5, 6]) c60_1)
def c60_3 : ACode :=
  (.seq (.region false [⟨some 8, none, .bsl true 1 [[.int .i64 0]] [(0, (.c (.t (.int .i64 1))))]⟩,
    ⟨some 9, none, .build [.t (.str []), .nils] [(0, 1, (.c (.t (.str [73, 68])))), (1, 1, (.s 8))]⟩,
    ⟨some 10, none, .build [.t (.str []), .nils, .t (.str []), .nils, .nils] [(0, 1, (.c (.t (.str [105, 100])))), (2, 2, (.s 9))]⟩,
    ⟨some 5, none, .alloc [.t (.str []), .nils, .t (.str []), .nils, .nils]⟩,
    ⟨none, none, .st 5 (.s 5) (.s 10)⟩] [] [0, 1, 4, 5]) c60_2)
def c60 : ACode :=
  (.seq (.region false [⟨some 4, none, .alloc [.t (.str []), .nils]⟩] [] [0, 1, 4]) c60_3)
def r60 : List ARes := [.cell 4 true 2]
def n60 : Nat := 28
/- 61 (*supergraph moves.judge).keys -/
def c61_0 : ACode :=
  (.region false [⟨some 101, none, .bin .add (.s 31) (.c (.t (.int .i64 1)))⟩,
    ⟨some 31, none, .mv (.s 101)⟩] [] [0, 4, 5, 6, 29, 30, 31])
def c61_1 : ACode :=
  (.region false [⟨some 95, none, .mv (.s 0)⟩,
    ⟨some 96, none, .mv (.s 9)⟩,
    ⟨some 97, none, .ld true 2 (.s 4)⟩,
    ⟨some 98, none, .fa 1 (.s 5)⟩,
    ⟨some 99, none, .ld false 1 (.s 98)⟩,
    ⟨some 100, none, .call 82 [(.s 95), (.s 96), (.c (.t (.int .i64 41))), (.s 97), (.s 99)]⟩] [] [0, 4, 5, 6, 29, 30, 31])
def c61_2 : ACode :=
  (.region false [⟨some 94, none, .bin .add (.s 48) (.c (.t (.int .i64 1)))⟩,
    ⟨some 48, none, .mv (.s 94)⟩] [] [0, 4, 5, 6, 9, 29, 30, 31, 46, 47, 48])
def c61_3 : ACode :=
  (.region false [⟨some 79, none, .mv (.s 9)⟩,
    ⟨some 80, none, .mv (.s 79)⟩,
    ⟨some 81, some (80, false), .mv (.s 13)⟩,
    ⟨some 82, some (80, false), .un .not (.s 81)⟩,
    ⟨some 83, none, .pick (.s 80) (.c (.t (.bool true))) (.s 82)⟩,
    ⟨some 84, none, .mv (.s 83)⟩,
    ⟨some 85, some (84, false), .fa 1 (.s 12)⟩,
    ⟨some 86, some (84, false), .ld false 1 (.s 85)⟩,
    ⟨some 87, some (84, false), .len (.s 86)⟩,
    ⟨some 88, some (84, false), .bin .gtr (.s 87) (.c (.t (.int .i64 0)))⟩,
    ⟨some 89, none, .pick (.s 84) (.c (.t (.bool true))) (.s 88)⟩,
    ⟨some 90, none, .mv (.s 89)⟩,
    ⟨some 91, some (90, false), .mv (.s 14)⟩,
    ⟨some 92, some (90, false), .un .not (.s 91)⟩,
    ⟨some 93, none, .pick (.s 90) (.c (.t (.bool true))) (.s 92)⟩,
    ⟨some 9, none, .mv (.s 93)⟩] [] [0, 4, 5, 6, 9, 29, 30, 31, 46, 47, 48])
def c61_4 : ACode :=
  (.seq (.region false [⟨some 58, none, .fa 2 (.s 12)⟩,
    ⟨some 59, none, .fa 1 (.s 58)⟩,
    ⟨some 60, none, .ld false 1 (.s 59)⟩,
    ⟨some 61, none, .len (.s 60)⟩,
    ⟨some 62, none, .bin .eql (.s 61) (.c (.t (.int .i64 1)))⟩,
    ⟨some 63, none, .mv (.s 62)⟩,
    ⟨some 64, some (63, true), .fa 2 (.s 12)⟩,
    ⟨some 65, some (63, true), .fa 1 (.s 64)⟩,
    ⟨some 66, some (63, true), .ld false 1 (.s 65)⟩,
    ⟨some 67, some (63, true), .ia 1 (.s 66) (.c (.t (.int .i64 0)))⟩,
    ⟨some 68, some (63, true), .ld false 1 (.s 67)⟩,
    ⟨some 69, some (63, true), .bin .eql (.s 68) (.c (.t (.int .i64 1)))⟩,
    ⟨some 70, none, .pick (.s 63) (.s 69) (.c (.t (.bool false)))⟩,
    ⟨some 71, none, .mv (.s 70)⟩,
    ⟨some 72, some (71, true), .fa 1 (.s 4)⟩,
    ⟨some 73, some (71, true), .ld true 1 (.s 72)⟩,
    ⟨some 74, some (71, true), .fa 2 (.s 12)⟩,
    ⟨some 75, some (71, true), .fa 0 (.s 74)⟩,
    ⟨some 76, some (71, true), .ld false 1 (.s 75)⟩,
    ⟨some 77, some (71, true), .call 81 [(.s 73), (.s 76)]⟩,
    ⟨some 78, none, .pick (.s 71) (.s 77) (.c (.t (.bool false)))⟩,
    ⟨some 14, none, .mv (.s 78)⟩] [] [0, 4, 5, 6, 9, 12, 13, 14, 29, 30, 31, 46, 47, 48]) c61_3)
def c61_5 : ACode :=
  (.seq (.region false [⟨some 53, none, .ld true 7 (.s 5)⟩,
    ⟨some 54, none, .mv (.s 11)⟩,
    ⟨some 55, none, .call 66 [(.s 53), (.s 54)]⟩,
    ⟨some 52, none, .mv (.s 55)⟩,
    ⟨some 56, none, .ext (.s 52) 0⟩,
    ⟨some 57, none, .ext (.s 52) 1⟩,
    ⟨some 12, none, .alloc [.t (.str []), .nils, .t (.str []), .nils, .nils]⟩,
    ⟨none, none, .st 5 (.s 12) (.s 56)⟩,
    ⟨some 13, none, .mv (.s 57)⟩] [] [0, 4, 5, 6, 9, 12, 13, 29, 30, 31, 46, 47, 48]) c61_4)
def c61_6 : ACode :=
  (.seq (.region false [⟨some 50, none, .ia 1 (.s 46) (.s 48)⟩,
    ⟨some 51, none, .ld false 1 (.s 50)⟩,
    ⟨some 11, none, .mv (.s 51)⟩] [] [0, 4, 5, 6, 9, 11, 29, 30, 31, 46, 47, 48]) c61_5)
def c61_7 : ACode :=
  (.seq (.block 3 c61_6) c61_2)
def c61_8 : ACode :=
  (.seq (.cond (.s 49) .skip (.exit 2)) c61_7)
def c61_9 : ACode :=
  (.seq (.region false [⟨some 49, none, .bin .lss (.s 48) (.s 47)⟩] [] [0, 4, 5, 6, 9, 29, 30, 31, 46, 47, 48, 49]) c61_8)
def c61_10 : ACode :=
  (.loop c61_9)
def c61_11 : ACode :=
  (.block 2 c61_10)
def c61_12 : ACode :=
  (.seq (.seq (.region false [⟨some 46, none, .mv (.s 8)⟩,
    ⟨some 47, none, .len (.s 46)⟩,
    ⟨some 48, none, .cst (.t (.int .i64 0))⟩] [] [0, 4, 5, 6, 9, 29, 30, 31, 46, 47, 48]) c61_11) c61_1)
def c61_13 : ACode :=
  (.seq (.region false [⟨some 36, none, .mv (.s 7)⟩,
    ⟨some 37, none, .bin .geq (.s 36) (.c (.t (.int .i64 4)))⟩,
    ⟨some 38, none, .mv (.s 37)⟩,
    ⟨some 39, some (38, false), .mv (.s 6)⟩,
    ⟨some 40, none, .pick (.s 38) (.c (.t (.bool true))) (.s 39)⟩,
    ⟨some 41, none, .mv (.s 40)⟩,
    ⟨some 42, some (41, false), .mv (.s 8)⟩,
    ⟨some 43, some (41, false), .len (.s 42)⟩,
    ⟨some 44, some (41, false), .bin .eql (.s 43) (.c (.t (.int .i64 0)))⟩,
    ⟨some 45, none, .pick (.s 41) (.c (.t (.bool true))) (.s 44)⟩,
    ⟨some 9, none, .mv (.s 45)⟩] [] [0, 4, 5, 6, 8, 9, 29, 30, 31]) c61_12)
def c61_14 : ACode :=
  (.seq (.region false [⟨some 33, none, .mv (.s 31)⟩,
    ⟨some 34, none, .ia 1 (.s 29) (.s 31)⟩,
    ⟨some 35, none, .ld false 1 (.s 34)⟩,
    ⟨some 7, none, .mv (.s 33)⟩,
    ⟨some 8, none, .mv (.s 35)⟩] [] [0, 4, 5, 6, 7, 8, 29, 30, 31]) c61_13)
def c61_15 : ACode :=
  (.seq (.block 1 c61_14) c61_0)
def c61_16 : ACode :=
  (.seq (.cond (.s 32) .skip (.exit 0)) c61_15)
def c61_17 : ACode :=
  (.seq (.region false [⟨some 32, none, .bin .lss (.s 31) (.s 30)⟩] [] [0, 4, 5, 6, 29, 30, 31, 32]) c61_16)
def c61_18 : ACode :=
  (.loop c61_17)
def c61_19 : ACode :=
  (.block 0 c61_18)
def c61_20 : ACode :=
  (.seq (.region false [⟨some 28, none, .ld true 7 (.s 5)⟩,
    ⟨some 29, none, .call 62 [(.s 28)]⟩,
    ⟨some 30, none, .len (.s 29)⟩,
    ⟨some 31, none, .cst (.t (.int .i64 0))⟩] [] [0, 4, 5, 6, 29, 30, 31]) c61_19)
def c61_21 : ACode :=
  (.seq (.region false [⟨some 15, none, .fa 1 (.s 5)⟩,
    ⟨some 16, none, .ld false 1 (.s 15)⟩,
    ⟨some 17, none, .bin .eql (.s 16) (.c (.t (.str [81, 117, 101, 114, 121])))⟩,
    ⟨some 18, none, .mv (.s 17)⟩,
    ⟨some 19, some (18, false), .fa 1 (.s 5)⟩,
    ⟨some 20, some (18, false), .ld false 1 (.s 19)⟩,
    ⟨some 21, some (18, false), .bin .eql (.s 20) (.c (.t (.str [77, 117, 116, 97, 116, 105, 111, 110])))⟩,
    ⟨some 22, none, .pick (.s 18) (.c (.t (.bool true))) (.s 21)⟩,
    ⟨some 23, none, .mv (.s 22)⟩,
    ⟨some 24, some (23, false), .fa 1 (.s 5)⟩,
    ⟨some 25, some (23, false), .ld false 1 (.s 24)⟩,
    ⟨some 26, some (23, false), .bin .eql (.s 25) (.c (.t (.str [83, 117, 98, 115, 99, 114, 105, 112, 116, 105, 111, 110])))⟩,
    ⟨some 27, none, .pick (.s 23) (.c (.t (.bool true))) (.s 26)⟩,
    ⟨some 6, none, .mv (.s 27)⟩] [] [0, 4, 5, 6]) c61_20)
def c61 : ACode :=
  (.seq (.region false [⟨some 4, none, .box 2 (.s 1)⟩,
    ⟨some 5, none, .box 7 (.s 2)⟩] [] [0, 4, 5]) c61_21)
def r61 : List ARes := []
def n61 : Nat := 102
/- 62 supergraph moves.keysOf -/
def c62_0 : ACode :=
  (.seq (.region false [⟨some 28, none, .mv (.s 3)⟩,
    ⟨some 2, none, .mv (.s 28)⟩] [] [2]) .ret)
def c62_1 : ACode :=
  (.region false [⟨some 27, none, .bin .add (.s 9) (.c (.t (.int .i64 1)))⟩,
    ⟨some 9, none, .mv (.s 27)⟩] [] [1, 3, 7, 8, 9])
def c62_2 : ACode :=
  (.region false [⟨some 17, none, .mv (.s 3)⟩,
    ⟨some 18, none, .fa 3 (.s 1)⟩,
    ⟨some 19, none, .ld false 1 (.s 18)⟩,
    ⟨some 20, none, .mv (.s 4)⟩,
    ⟨some 21, none, .mv (.s 4)⟩,
    ⟨some 22, none, .bin .add (.s 21) (.c (.t (.int .i64 1)))⟩,
    ⟨some 23, none, .sll 2 (.s 19) (some (.s 20)) (some (.s 22))⟩,
    ⟨some 24, none, .call 64 [(.s 23), (.c (.t (.str [107, 101, 121])))]⟩,
    ⟨some 25, none, .bsl false 1 [[.lst []]] [(0, (.s 24))]⟩,
    ⟨some 26, none, .app 1 24 (.s 17) (.s 25)⟩,
    ⟨some 3, none, .mv (.s 26)⟩] [] [1, 3, 7, 8, 9])
def c62_3 : ACode :=
  (.cond (.s 16) c62_2 .skip)
def c62_4 : ACode :=
  (.seq (.region false [⟨some 14, none, .fa 0 (.s 5)⟩,
    ⟨some 15, none, .ld false 1 (.s 14)⟩,
    ⟨some 16, none, .bin .eql (.s 15) (.c (.t (.str [107, 101, 121])))⟩] [] [1, 3, 4, 7, 8, 9, 16]) c62_3)
def c62_5 : ACode :=
  (.seq (.region false [⟨some 11, none, .mv (.s 9)⟩,
    ⟨some 12, none, .ia 2 (.s 7) (.s 9)⟩,
    ⟨some 13, none, .ld true 2 (.s 12)⟩,
    ⟨some 5, none, .alloc [.t (.str []), .nils]⟩,
    ⟨some 4, none, .mv (.s 11)⟩,
    ⟨none, none, .st 2 (.s 5) (.s 13)⟩] [] [1, 3, 4, 5, 7, 8, 9]) c62_4)
def c62_6 : ACode :=
  (.seq (.block 1 c62_5) c62_1)
def c62_7 : ACode :=
  (.seq (.cond (.s 10) .skip (.exit 0)) c62_6)
def c62_8 : ACode :=
  (.seq (.region false [⟨some 10, none, .bin .lss (.s 9) (.s 8)⟩] [] [1, 3, 7, 8, 9, 10]) c62_7)
def c62_9 : ACode :=
  (.loop c62_8)
def c62_10 : ACode :=
  (.block 0 c62_9)
def c62_11 : ACode :=
  (.seq (.seq (.region false [⟨some 6, none, .fa 3 (.s 1)⟩,
    ⟨some 7, none, .ld false 1 (.s 6)⟩,
    ⟨some 8, none, .len (.s 7)⟩,
    ⟨some 9, none, .cst (.t (.int .i64 0))⟩] [] [1, 3, 7, 8, 9]) c62_10) c62_0)
def c62_12 : ACode :=
  (.seq (.region false [⟨some 3, none, .cst (.nils)⟩] [] [1, 3]) c62_11)
def c62 : ACode :=
  (.seq (.region false [⟨some 1, none, .box 7 (.s 0)⟩,
    ⟨some 2, none, .cst (.nils)⟩] [] [1]) c62_12)
def r62 : List ARes := [.tmp 2]
def n62 : Nat := 29
/- 63 (*supergraph moves.judge).field -/
def c63_0 : ACode :=
  (.region true [⟨some 129, none, .mv (.s 0)⟩,
    ⟨some 130, none, .mv (.s 10)⟩,
    ⟨some 131, none, .un .not (.s 130)⟩,
    ⟨some 132, none, .mv (.s 131)⟩,
    ⟨some 133, some (132, true), .mv (.s 0)⟩,
    ⟨some 134, some (132, true), .mv (.s 1)⟩,
    ⟨some 135, some (132, true), .fa 1 (.s 6)⟩,
    ⟨some 136, some (132, true), .ld false 1 (.s 135)⟩,
    ⟨some 137, some (132, true), .fa 0 (.s 7)⟩,
    ⟨some 138, some (132, true), .ld false 1 (.s 137)⟩,
    ⟨some 139, some (132, true), .call 84 [(.s 133), (.s 134), (.s 136), (.s 138)]⟩,
    ⟨some 140, none, .pick (.s 132) (.s 139) (.c (.t (.bool false)))⟩,
    ⟨some 141, none, .mv (.s 140)⟩,
    ⟨some 142, some (141, true), .mv (.s 11)⟩,
    ⟨some 143, some (141, true), .mv (.s 142)⟩,
    ⟨some 144, some (143, false), .mv (.s 14)⟩,
    ⟨some 145, some (143, false), .un .not (.s 144)⟩,
    ⟨some 146, some (141, true), .pick (.s 143) (.c (.t (.bool true))) (.s 145)⟩,
    ⟨some 147, none, .pick (.s 141) (.s 146) (.c (.t (.bool false)))⟩,
    ⟨some 148, none, .ld true 2 (.s 8)⟩,
    ⟨some 149, none, .mv (.s 9)⟩,
    ⟨some 150, none, .call 82 [(.s 129), (.s 147), (.c (.t (.int .i64 40))), (.s 148), (.s 149)]⟩] [[], [], [1], [2], [3], [3], [3], [6, 3], [3], [8, 3], [4, 5, 7, 9, 3, 3], [3, 10], [11, 10], [12], [13, 12, 12], [14], [15, 14], [14, 16, 12], [12, 17], [], [], [0, 18, 19, 20, 14]] [])
def c63_1 : ACode :=
  (.seq (.region false [⟨some 120, none, .fa 4 (.s 7)⟩,
    ⟨some 121, none, .ld false 1 (.s 120)⟩,
    ⟨some 122, none, .call 25 [(.s 121), (.c (.t (.str [115, 104, 97, 114, 101, 97, 98, 108, 101])))]⟩,
    ⟨some 123, none, .mv (.s 122)⟩,
    ⟨some 124, some (123, false), .ld true 7 (.s 6)⟩,
    ⟨some 125, some (123, false), .fa 0 (.s 7)⟩,
    ⟨some 126, some (123, false), .ld false 1 (.s 125)⟩,
    ⟨some 127, some (123, false), .call 87 [(.s 124), (.s 126)]⟩,
    ⟨some 128, none, .pick (.s 123) (.c (.t (.bool true))) (.s 127)⟩,
    ⟨some 14, none, .mv (.s 128)⟩] [] [0, 1, 6, 7, 8, 9, 10, 11, 14]) c63_0)
def c63_2 : ACode :=
  (.region true [⟨some 100, none, .mv (.s 0)⟩,
    ⟨some 101, none, .mv (.s 13)⟩,
    ⟨some 102, none, .un .not (.s 101)⟩,
    ⟨some 103, none, .mv (.s 102)⟩,
    ⟨some 104, some (103, false), .fa 0 (.s 12)⟩,
    ⟨some 105, some (103, false), .ld false 1 (.s 104)⟩,
    ⟨some 106, some (103, false), .bin .neq (.s 105) (.c (.t (.int .i64 1)))⟩,
    ⟨some 107, none, .pick (.s 103) (.c (.t (.bool true))) (.s 106)⟩,
    ⟨some 108, none, .mv (.s 107)⟩,
    ⟨some 109, some (108, false), .ld true 2 (.s 8)⟩,
    ⟨some 110, some (108, false), .ld true 7 (.s 12)⟩,
    ⟨some 111, some (108, false), .fa 4 (.s 7)⟩,
    ⟨some 112, some (108, false), .ld false 1 (.s 111)⟩,
    ⟨some 113, some (108, false), .call 64 [(.s 112), (.c (.t (.str [112, 114, 111, 118, 105, 100, 101, 115])))]⟩,
    ⟨some 114, some (108, false), .call 86 [(.s 109), (.s 110), (.s 113)]⟩,
    ⟨some 115, some (108, false), .un .not (.s 114)⟩,
    ⟨some 116, none, .pick (.s 108) (.c (.t (.bool true))) (.s 115)⟩,
    ⟨some 117, none, .ld true 2 (.s 8)⟩,
    ⟨some 118, none, .mv (.s 9)⟩,
    ⟨some 119, none, .call 82 [(.s 100), (.s 116), (.c (.t (.int .i64 44))), (.s 117), (.s 118)]⟩] [[], [], [1], [2], [3], [4, 3], [5, 3], [3, 6], [7, 3], [8], [8], [8], [11, 8], [12, 8, 8], [9, 10, 13, 13, 8], [14, 8], [8, 15], [], [], [0, 16, 17, 18, 14]] [0, 1, 6, 7, 8, 9, 10, 11])
def c63_3 : ACode :=
  (.seq (.region false [⟨some 92, none, .fa 1 (.s 8)⟩,
    ⟨some 93, none, .ld true 1 (.s 92)⟩,
    ⟨some 94, none, .fa 2 (.s 7)⟩,
    ⟨some 95, none, .fa 0 (.s 94)⟩,
    ⟨some 96, none, .ld false 1 (.s 95)⟩,
    ⟨some 97, none, .call 65 [(.s 93), (.s 96)]⟩,
    ⟨some 91, none, .mv (.s 97)⟩,
    ⟨some 98, none, .ext (.s 91) 0⟩,
    ⟨some 99, none, .ext (.s 91) 1⟩,
    ⟨some 12, none, .alloc [.t (.int .i64 0), .t (.str []), .nils, .nils, .nils, .nils, .nils]⟩,
    ⟨none, none, .st 7 (.s 12) (.s 98)⟩,
    ⟨some 13, none, .mv (.s 99)⟩] [] [0, 1, 6, 7, 8, 9, 10, 11, 12, 13]) c63_2)
def c63_4 : ACode :=
  (.cond (.s 90) c63_3 .skip)
def c63_5 : ACode :=
  (.seq (.seq (.region false [⟨some 88, none, .fa 4 (.s 7)⟩,
    ⟨some 89, none, .ld false 1 (.s 88)⟩,
    ⟨some 90, none, .call 25 [(.s 89), (.c (.t (.str [112, 114, 111, 118, 105, 100, 101, 115])))]⟩] [] [0, 1, 6, 7, 8, 9, 10, 11, 90]) c63_4) c63_1)
def c63_6 : ACode :=
  (.seq (.region true [⟨some 57, none, .mv (.s 0)⟩,
    ⟨some 58, none, .mv (.s 11)⟩,
    ⟨some 59, none, .mv (.s 58)⟩,
    ⟨some 60, some (59, true), .mv (.s 10)⟩,
    ⟨some 61, some (59, true), .mv (.s 60)⟩,
    ⟨some 62, some (61, false), .mv (.s 0)⟩,
    ⟨some 63, some (61, false), .fa 1 (.s 6)⟩,
    ⟨some 64, some (61, false), .ld false 1 (.s 63)⟩,
    ⟨some 65, some (61, false), .fa 0 (.s 7)⟩,
    ⟨some 66, some (61, false), .ld false 1 (.s 65)⟩,
    ⟨some 67, some (61, false), .call 85 [(.s 62), (.s 64), (.s 66)]⟩,
    ⟨some 68, some (59, true), .pick (.s 61) (.c (.t (.bool true))) (.s 67)⟩,
    ⟨some 69, some (59, true), .mv (.s 68)⟩,
    ⟨some 70, some (69, false), .ld true 7 (.s 6)⟩,
    ⟨some 71, some (69, false), .call 62 [(.s 70)]⟩,
    ⟨some 72, some (69, false), .len (.s 71)⟩,
    ⟨some 73, some (69, false), .bin .eql (.s 72) (.c (.t (.int .i64 0)))⟩,
    ⟨some 74, some (59, true), .pick (.s 69) (.c (.t (.bool true))) (.s 73)⟩,
    ⟨some 75, some (59, true), .mv (.s 74)⟩,
    ⟨some 76, some (75, false), .ld true 2 (.s 8)⟩,
    ⟨some 77, some (75, false), .ld true 7 (.s 6)⟩,
    ⟨some 78, some (75, false), .fa 4 (.s 7)⟩,
    ⟨some 79, some (75, false), .ld false 1 (.s 78)⟩,
    ⟨some 80, some (75, false), .call 64 [(.s 79), (.c (.t (.str [114, 101, 113, 117, 105, 114, 101, 115])))]⟩,
    ⟨some 81, some (75, false), .call 86 [(.s 76), (.s 77), (.s 80)]⟩,
    ⟨some 82, some (75, false), .un .not (.s 81)⟩,
    ⟨some 83, some (59, true), .pick (.s 75) (.c (.t (.bool true))) (.s 82)⟩,
    ⟨some 84, none, .pick (.s 59) (.s 83) (.c (.t (.bool false)))⟩,
    ⟨some 85, none, .ld true 2 (.s 8)⟩,
    ⟨some 86, none, .mv (.s 9)⟩,
    ⟨some 87, none, .call 82 [(.s 57), (.s 84), (.c (.t (.int .i64 43))), (.s 85), (.s 86)]⟩] [[], [], [1], [2], [3, 2, 2], [4], [4], [6, 4], [4], [8, 4], [5, 7, 9, 4, 4], [4, 10, 2], [11, 10, 2], [12], [13, 12, 12], [14, 12], [15, 12], [12, 16, 2], [17, 14, 2], [18], [18], [18], [21, 18], [22, 18, 18], [19, 20, 23, 23, 18], [24, 18], [18, 25, 2], [2, 26], [], [], [0, 27, 28, 29, 24]] [0, 1, 6, 7, 8, 9, 10, 11]) c63_5)
def c63_7 : ACode :=
  (.seq (.region true [⟨some 34, none, .mv (.s 0)⟩,
    ⟨some 35, none, .mv (.s 10)⟩,
    ⟨some 36, none, .mv (.s 35)⟩,
    ⟨some 37, some (36, true), .ld true 2 (.s 8)⟩,
    ⟨some 38, some (36, true), .ld true 7 (.s 6)⟩,
    ⟨some 39, some (36, true), .fa 0 (.s 7)⟩,
    ⟨some 40, some (36, true), .ld false 1 (.s 39)⟩,
    ⟨some 41, some (36, true), .call 83 [(.s 37), (.s 38), (.s 40)]⟩,
    ⟨some 42, some (36, true), .un .not (.s 41)⟩,
    ⟨some 43, some (36, true), .mv (.s 42)⟩,
    ⟨some 44, some (43, false), .mv (.s 0)⟩,
    ⟨some 45, some (43, false), .mv (.s 1)⟩,
    ⟨some 46, some (43, false), .fa 1 (.s 6)⟩,
    ⟨some 47, some (43, false), .ld false 1 (.s 46)⟩,
    ⟨some 48, some (43, false), .fa 0 (.s 7)⟩,
    ⟨some 49, some (43, false), .ld false 1 (.s 48)⟩,
    ⟨some 50, some (43, false), .call 84 [(.s 44), (.s 45), (.s 47), (.s 49)]⟩,
    ⟨some 51, some (43, false), .un .not (.s 50)⟩,
    ⟨some 52, some (36, true), .pick (.s 43) (.c (.t (.bool true))) (.s 51)⟩,
    ⟨some 53, none, .pick (.s 36) (.s 52) (.c (.t (.bool false)))⟩,
    ⟨some 54, none, .ld true 2 (.s 8)⟩,
    ⟨some 55, none, .mv (.s 9)⟩,
    ⟨some 56, none, .call 82 [(.s 34), (.s 53), (.c (.t (.int .i64 42))), (.s 54), (.s 55)]⟩] [[], [], [1], [2], [2], [2], [5, 2], [3, 4, 6, 2, 2], [7, 2], [8, 7, 2], [9], [9], [9], [12, 9], [9], [14, 9], [10, 11, 13, 15, 9, 9], [16, 9], [9, 17, 2], [2, 18], [], [], [0, 19, 20, 21, 16]] [0, 1, 6, 7, 8, 9, 10, 11]) c63_6)
def c63_8 : ACode :=
  (.seq (.region false [⟨some 31, none, .fa 4 (.s 7)⟩,
    ⟨some 32, none, .ld false 1 (.s 31)⟩,
    ⟨some 33, none, .call 25 [(.s 32), (.c (.t (.str [114, 101, 113, 117, 105, 114, 101, 115])))]⟩,
    ⟨some 11, none, .mv (.s 33)⟩] [] [0, 1, 6, 7, 8, 9, 10, 11]) c63_7)
def c63_9 : ACode :=
  (.seq (.region false [⟨some 28, none, .fa 4 (.s 7)⟩,
    ⟨some 29, none, .ld false 1 (.s 28)⟩,
    ⟨some 30, none, .call 25 [(.s 29), (.c (.t (.str [101, 120, 116, 101, 114, 110, 97, 108])))]⟩,
    ⟨some 10, none, .mv (.s 30)⟩] [] [0, 1, 6, 7, 8, 9, 10]) c63_8)
def c63_10 : ACode :=
  (.seq (.region true [⟨some 15, none, .mv (.s 0)⟩,
    ⟨some 16, none, .nilck (.s 15)⟩,
    ⟨some 17, none, .fa 0 (.s 16)⟩,
    ⟨some 18, none, .ld false 1 (.s 17)⟩,
    ⟨some 19, none, .mv (.s 1)⟩,
    ⟨some 20, none, .ia 2 (.s 18) (.s 19)⟩,
    ⟨some 21, none, .ld true 2 (.s 20)⟩,
    ⟨some 22, none, .fa 1 (.s 6)⟩,
    ⟨some 23, none, .ld false 1 (.s 22)⟩,
    ⟨some 24, none, .bin .add (.s 23) (.c (.t (.str [46])))⟩,
    ⟨some 25, none, .fa 0 (.s 7)⟩,
    ⟨some 26, none, .ld false 1 (.s 25)⟩,
    ⟨some 27, none, .bin .add (.s 24) (.s 26)⟩,
    ⟨some 8, none, .alloc [.t (.str []), .nils]⟩,
    ⟨none, none, .st 2 (.s 8) (.s 21)⟩,
    ⟨some 9, none, .mv (.s 27)⟩] [[], [0], [1], [2], [], [3, 4], [5], [], [7], [8], [], [10], [9, 11], [], [13, 6, 0, 1, 2, 3, 4, 5, 6, 13], [12, 14, 0, 1, 2, 3, 4, 5, 6, 7, 8, 9, 10, 11, 12, 13, 14]] [0, 1, 6, 7, 8, 9]) c63_9)
def c63 : ACode :=
  (.seq (.region false [⟨some 6, none, .box 7 (.s 2)⟩,
    ⟨some 7, none, .box 5 (.s 3)⟩] [] [0, 1, 6, 7]) c63_10)
def r63 : List ARes := []
def n63 : Nat := 151
/- 64 supergraph moves.set -/
def c64_0 : ACode :=
  (.seq (.region false [⟨some 23, none, .mv (.s 7)⟩,
    ⟨some 4, none, .mv (.s 23)⟩] [] [4]) .ret)
def c64_1 : ACode :=
  (.seq (.region false [⟨some 4, none, .cst (.nils)⟩] [] [4]) .ret)
def c64_2 : ACode :=
  (.cond (.s 22) c64_1 .skip)
def c64_3 : ACode :=
  (.seq (.seq (.region false [⟨some 21, none, .mv (.s 8)⟩,
    ⟨some 22, none, .bin .neq (.s 21) (.c (.t (.int .i64 0)))⟩] [] [7, 22]) c64_2) c64_0)
def c64_4 : ACode :=
  (.seq (.region false [⟨some 16, none, .fa 2 (.s 5)⟩,
    ⟨some 17, none, .ld false 1 (.s 16)⟩,
    ⟨some 18, none, .call 13 [(.s 17)]⟩,
    ⟨some 15, none, .mv (.s 18)⟩,
    ⟨some 19, none, .ext (.s 15) 0⟩,
    ⟨some 20, none, .ext (.s 15) 1⟩,
    ⟨some 7, none, .mv (.s 19)⟩,
    ⟨some 8, none, .mv (.s 20)⟩] [] [7, 8]) c64_3)
def c64_5 : ACode :=
  (.seq (.region false [⟨some 10, none, .mv (.s 0)⟩,
    ⟨some 11, none, .mv (.s 1)⟩,
    ⟨some 12, none, .call 23 [(.s 10), (.s 11), (.c (.t (.str [102, 105, 101, 108, 100, 115])))]⟩,
    ⟨some 9, none, .mv (.s 12)⟩,
    ⟨some 13, none, .ext (.s 9) 0⟩,
    ⟨some 14, none, .ext (.s 9) 1⟩,
    ⟨some 5, none, .alloc [.t (.int .i64 0), .t (.int .i64 0), .t (.str []), .nils, .nils]⟩,
    ⟨none, none, .st 5 (.s 5) (.s 13)⟩,
    ⟨some 6, none, .mv (.s 14)⟩] [] [5]) c64_4)
def c64 : ACode :=
  (.seq (.region false [⟨some 4, none, .cst (.nils)⟩] [] [0, 1]) c64_5)
def r64 : List ARes := [.tmp 4]
def n64 : Nat := 24
/- 65 supergraph schema.Find -/
def c65_0 : ACode :=
  (.seq (.region false [⟨some 21, none, .build [.t (.int .i64 0), .t (.str []), .nils, .nils, .nils, .nils, .nils] []⟩,
    ⟨none, none, .st 7 (.s 4) (.s 21)⟩,
    ⟨some 5, none, .cst (.t (.bool false))⟩] [] [4, 5]) .ret)
def c65_1 : ACode :=
  (.region false [⟨some 20, none, .bin .add (.s 11) (.c (.t (.int .i64 1)))⟩,
    ⟨some 11, none, .mv (.s 20)⟩] [] [1, 4, 9, 10, 11])
def c65_2 : ACode :=
  (.seq (.region false [⟨some 19, none, .ld true 7 (.s 7)⟩,
    ⟨none, none, .st 7 (.s 4) (.s 19)⟩,
    ⟨some 5, none, .cst (.t (.bool true))⟩] [] [4, 5]) .ret)
def c65_3 : ACode :=
  (.cond (.s 18) c65_2 .skip)
def c65_4 : ACode :=
  (.seq (.region false [⟨some 15, none, .fa 1 (.s 7)⟩,
    ⟨some 16, none, .ld false 1 (.s 15)⟩,
    ⟨some 17, none, .mv (.s 1)⟩,
    ⟨some 18, none, .bin .eql (.s 16) (.s 17)⟩] [] [1, 4, 7, 9, 10, 11, 18]) c65_3)
def c65_5 : ACode :=
  (.seq (.region false [⟨some 13, none, .ia 7 (.s 9) (.s 11)⟩,
    ⟨some 14, none, .ld true 7 (.s 13)⟩,
    ⟨some 7, none, .alloc [.t (.int .i64 0), .t (.str []), .nils, .nils, .nils, .nils, .nils]⟩,
    ⟨none, none, .st 7 (.s 7) (.s 14)⟩] [] [1, 4, 7, 9, 10, 11]) c65_4)
def c65_6 : ACode :=
  (.seq (.block 1 c65_5) c65_1)
def c65_7 : ACode :=
  (.seq (.cond (.s 12) .skip (.exit 0)) c65_6)
def c65_8 : ACode :=
  (.seq (.region false [⟨some 12, none, .bin .lss (.s 11) (.s 10)⟩] [] [1, 4, 9, 10, 11, 12]) c65_7)
def c65_9 : ACode :=
  (.loop c65_8)
def c65_10 : ACode :=
  (.block 0 c65_9)
def c65_11 : ACode :=
  (.seq (.seq (.region false [⟨some 8, none, .fa 0 (.s 2)⟩,
    ⟨some 9, none, .ld false 1 (.s 8)⟩,
    ⟨some 10, none, .len (.s 9)⟩,
    ⟨some 11, none, .cst (.t (.int .i64 0))⟩] [] [1, 4, 9, 10, 11]) c65_10) c65_0)
def c65 : ACode :=
  (.seq (.region false [⟨some 2, none, .box 1 (.s 0)⟩,
    ⟨some 4, none, .alloc [.t (.int .i64 0), .t (.str []), .nils, .nils, .nils, .nils, .nils]⟩,
    ⟨some 5, none, .cst (.t (.bool false))⟩] [] [1, 2, 4]) c65_11)
def r65 : List ARes := [.cell 4 true 7, .tmp 5]
def n65 : Nat := 22
/- 66 supergraph schema.FieldOf -/
def c66_0 : ACode :=
  (.seq (.region false [⟨some 21, none, .build [.t (.str []), .nils, .t (.str []), .nils, .nils] []⟩,
    ⟨none, none, .st 5 (.s 4) (.s 21)⟩,
    ⟨some 5, none, .cst (.t (.bool false))⟩] [] [4, 5]) .ret)
def c66_1 : ACode :=
  (.region false [⟨some 20, none, .bin .add (.s 11) (.c (.t (.int .i64 1)))⟩,
    ⟨some 11, none, .mv (.s 20)⟩] [] [1, 4, 9, 10, 11])
def c66_2 : ACode :=
  (.seq (.region false [⟨some 19, none, .ld true 5 (.s 7)⟩,
    ⟨none, none, .st 5 (.s 4) (.s 19)⟩,
    ⟨some 5, none, .cst (.t (.bool true))⟩] [] [4, 5]) .ret)
def c66_3 : ACode :=
  (.cond (.s 18) c66_2 .skip)
def c66_4 : ACode :=
  (.seq (.region false [⟨some 15, none, .fa 0 (.s 7)⟩,
    ⟨some 16, none, .ld false 1 (.s 15)⟩,
    ⟨some 17, none, .mv (.s 1)⟩,
    ⟨some 18, none, .bin .eql (.s 16) (.s 17)⟩] [] [1, 4, 7, 9, 10, 11, 18]) c66_3)
def c66_5 : ACode :=
  (.seq (.region false [⟨some 13, none, .ia 5 (.s 9) (.s 11)⟩,
    ⟨some 14, none, .ld true 5 (.s 13)⟩,
    ⟨some 7, none, .alloc [.t (.str []), .nils, .t (.str []), .nils, .nils]⟩,
    ⟨none, none, .st 5 (.s 7) (.s 14)⟩] [] [1, 4, 7, 9, 10, 11]) c66_4)
def c66_6 : ACode :=
  (.seq (.block 1 c66_5) c66_1)
def c66_7 : ACode :=
  (.seq (.cond (.s 12) .skip (.exit 0)) c66_6)
def c66_8 : ACode :=
  (.seq (.region false [⟨some 12, none, .bin .lss (.s 11) (.s 10)⟩] [] [1, 4, 9, 10, 11, 12]) c66_7)
def c66_9 : ACode :=
  (.loop c66_8)
def c66_10 : ACode :=
  (.block 0 c66_9)
def c66_11 : ACode :=
  (.seq (.seq (.region false [⟨some 8, none, .fa 4 (.s 2)⟩,
    ⟨some 9, none, .ld false 1 (.s 8)⟩,
    ⟨some 10, none, .len (.s 9)⟩,
    ⟨some 11, none, .cst (.t (.int .i64 0))⟩] [] [1, 4, 9, 10, 11]) c66_10) c66_0)
def c66 : ACode :=
  (.seq (.region false [⟨some 2, none, .box 7 (.s 0)⟩,
    ⟨some 4, none, .alloc [.t (.str []), .nils, .t (.str []), .nils, .nils]⟩,
    ⟨some 5, none, .cst (.t (.bool false))⟩] [] [1, 2, 4]) c66_11)
def r66 : List ARes := [.cell 4 true 5, .tmp 5]
def n66 : Nat := 22
/- 67 supergraph supergraphref25.bareInputs -/
/- 68 slices.Clone[[]string,string] -/
def c68_0 : ACode :=
  (.seq (.region false [⟨some 5, none, .bsl true 1 [] []⟩,
    ⟨some 6, none, .mv (.s 0)⟩,
    ⟨some 7, none, .app 1 16 (.s 5) (.s 6)⟩,
    ⟨some 2, none, .mv (.s 7)⟩] [] [2]) .ret)
def c68_1 : ACode :=
  (.seq (.region false [⟨some 2, none, .cst (.nils)⟩] [] [2]) .ret)
def c68_2 : ACode :=
  (.cond (.s 4) c68_1 .skip)
def c68_3 : ACode :=
  (.seq (.seq (.region false [⟨some 3, none, .mv (.s 0)⟩,
    ⟨some 4, none, .nw (.eqn false (.s 3))⟩] [] [0, 4]) c68_2) c68_0)
def c68 : ACode :=
  (.seq (.region false [⟨some 2, none, .cst (.nils)⟩] [] [0]) c68_3)
def r68 : List ARes := [.tmp 2]
def n68 : Nat := 8
/- 69 strings.genSplit -/
def c69_0 : ACode :=
  (.seq (.region false [⟨some 62, none, .mv (.s 9)⟩,
    ⟨some 63, none, .mv (.s 10)⟩,
    ⟨some 64, none, .bin .add (.s 63) (.c (.t (.int .i64 1)))⟩,
    ⟨some 65, none, .sll 1 (.s 62) none (some (.s 64))⟩,
    ⟨some 8, none, .mv (.s 65)⟩] [] [8]) .ret)
def c69_1 : ACode :=
  (.seq (.region false [⟨some 58, none, .mv (.s 9)⟩,
    ⟨some 59, none, .mv (.s 10)⟩,
    ⟨some 60, none, .mv (.s 0)⟩,
    ⟨some 61, none, .ia 1 (.s 58) (.s 59)⟩,
    ⟨none, none, .st 1 (.s 61) (.s 60)⟩] [] [9, 10]) c69_0)
def c69_2 : ACode :=
  (.region false [⟨some 56, none, .mv (.s 10)⟩,
    ⟨some 57, none, .bin .add (.s 56) (.c (.t (.int .i64 1)))⟩,
    ⟨some 10, none, .mv (.s 57)⟩] [] [0, 1, 2, 3, 9, 10])
def c69_3 : ACode :=
  (.seq (.region false [⟨some 50, none, .mv (.s 0)⟩,
    ⟨some 51, none, .mv (.s 11)⟩,
    ⟨some 52, none, .mv (.s 1)⟩,
    ⟨some 53, none, .lens (.s 52)⟩,
    ⟨some 54, none, .bin .add (.s 51) (.s 53)⟩,
    ⟨some 55, none, .sls (.s 50) (some (.s 54)) none⟩,
    ⟨some 0, none, .mv (.s 55)⟩] [] [0, 1, 2, 3, 9, 10]) c69_2)
def c69_4 : ACode :=
  (.seq (.region false [⟨some 42, none, .mv (.s 9)⟩,
    ⟨some 43, none, .mv (.s 10)⟩,
    ⟨some 44, none, .mv (.s 0)⟩,
    ⟨some 45, none, .mv (.s 11)⟩,
    ⟨some 46, none, .mv (.s 2)⟩,
    ⟨some 47, none, .bin .add (.s 45) (.s 46)⟩,
    ⟨some 48, none, .sls (.s 44) none (some (.s 47))⟩,
    ⟨some 49, none, .ia 1 (.s 42) (.s 43)⟩,
    ⟨none, none, .st 1 (.s 49) (.s 48)⟩] [] [0, 1, 2, 3, 9, 10, 11]) c69_3)
def c69_5 : ACode :=
  (.cond (.s 41) (.exit 0) .skip)
def c69_6 : ACode :=
  (.seq (.seq (.region false [⟨some 40, none, .mv (.s 11)⟩,
    ⟨some 41, none, .bin .lss (.s 40) (.c (.t (.int .i64 0)))⟩] [] [0, 1, 2, 3, 9, 10, 11, 41]) c69_5) c69_4)
def c69_7 : ACode :=
  (.seq (.region false [⟨some 37, none, .mv (.s 0)⟩,
    ⟨some 38, none, .mv (.s 1)⟩,
    ⟨some 39, none, .call 90 [(.s 37), (.s 38)]⟩,
    ⟨some 11, none, .mv (.s 39)⟩] [] [0, 1, 2, 3, 9, 10, 11]) c69_6)
def c69_8 : ACode :=
  (.block 1 c69_7)
def c69_9 : ACode :=
  (.cond (.s 36) .skip (.exit 0))
def c69_10 : ACode :=
  (.seq (.seq (.region false [⟨some 34, none, .mv (.s 10)⟩,
    ⟨some 35, none, .mv (.s 3)⟩,
    ⟨some 36, none, .bin .lss (.s 34) (.s 35)⟩] [] [0, 1, 2, 3, 9, 10, 36]) c69_9) c69_8)
def c69_11 : ACode :=
  (.loop c69_10)
def c69_12 : ACode :=
  (.seq (.block 0 c69_11) c69_1)
def c69_13 : ACode :=
  (.seq (.region false [⟨some 10, none, .cst (.t (.int .i64 0))⟩] [] [0, 1, 2, 3, 9, 10]) c69_12)
def c69_14 : ACode :=
  (.seq (.region false [⟨some 32, none, .mv (.s 3)⟩,
    ⟨some 33, none, .bin .sub (.s 32) (.c (.t (.int .i64 1)))⟩,
    ⟨some 3, none, .mv (.s 33)⟩] [] [0, 1, 2, 3, 9]) c69_13)
def c69_15 : ACode :=
  (.seq (.region false [⟨some 30, none, .mv (.s 3)⟩,
    ⟨some 31, none, .mksl 1 16 [.t (.str [])] (.s 30)⟩,
    ⟨some 9, none, .mv (.s 31)⟩] [] [0, 1, 2, 3, 9]) c69_14)
def c69_16 : ACode :=
  (.seq (.region false [⟨some 25, none, .mv (.s 3)⟩,
    ⟨some 26, none, .mv (.s 0)⟩,
    ⟨some 27, none, .lens (.s 26)⟩,
    ⟨some 28, none, .bin .add (.s 27) (.c (.t (.int .i64 1)))⟩,
    ⟨some 29, none, .mini (.s 25) (.s 28)⟩,
    ⟨some 3, none, .mv (.s 29)⟩] [] [0, 1, 2, 3]) c69_15)
def c69_17 : ACode :=
  (.region false [⟨some 21, none, .mv (.s 0)⟩,
    ⟨some 22, none, .mv (.s 1)⟩,
    ⟨some 23, none, .call 89 [(.s 21), (.s 22)]⟩,
    ⟨some 24, none, .bin .add (.s 23) (.c (.t (.int .i64 1)))⟩,
    ⟨some 3, none, .mv (.s 24)⟩] [] [0, 1, 2, 3])
def c69_18 : ACode :=
  (.cond (.s 20) c69_17 .skip)
def c69_19 : ACode :=
  (.seq (.seq (.region false [⟨some 19, none, .mv (.s 3)⟩,
    ⟨some 20, none, .bin .lss (.s 19) (.c (.t (.int .i64 0)))⟩] [] [0, 1, 2, 3, 20]) c69_18) c69_16)
def c69_20 : ACode :=
  (.seq (.region false [⟨some 16, none, .mv (.s 0)⟩,
    ⟨some 17, none, .mv (.s 3)⟩,
    ⟨some 18, none, .call 88 [(.s 16), (.s 17)]⟩,
    ⟨some 8, none, .mv (.s 18)⟩] [] [8]) .ret)
def c69_21 : ACode :=
  (.cond (.s 15) c69_20 .skip)
def c69_22 : ACode :=
  (.seq (.seq (.region false [⟨some 14, none, .mv (.s 1)⟩,
    ⟨some 15, none, .bin .eql (.s 14) (.c (.t (.str [])))⟩] [] [0, 1, 2, 3, 15]) c69_21) c69_19)
def c69_23 : ACode :=
  (.seq (.region false [⟨some 8, none, .cst (.nils)⟩] [] [8]) .ret)
def c69_24 : ACode :=
  (.cond (.s 13) c69_23 .skip)
def c69_25 : ACode :=
  (.seq (.seq (.region false [⟨some 12, none, .mv (.s 3)⟩,
    ⟨some 13, none, .bin .eql (.s 12) (.c (.t (.int .i64 0)))⟩] [] [0, 1, 2, 3, 13]) c69_24) c69_22)
def c69 : ACode :=
  (.seq (.region false [⟨some 8, none, .cst (.nils)⟩] [] [0, 1, 2, 3]) c69_25)
def r69 : List ARes := [.tmp 8]
def n69 : Nat := 66
/- 70 strings.HasPrefix -/
def c70_0 : ACode :=
  (.seq (.region false [⟨some 5, none, .mv (.s 0)⟩,
    ⟨some 6, none, .mv (.s 1)⟩,
    ⟨some 7, none, .call 91 [(.s 5), (.s 6)]⟩,
    ⟨some 4, none, .mv (.s 7)⟩] [] [4]) .ret)
def c70 : ACode :=
  (.seq (.region false [⟨some 4, none, .cst (.t (.bool false))⟩] [] [0, 1]) c70_0)
def r70 : List ARes := [.tmp 4]
def n70 : Nat := 8
/- 71 supergraph supergraphref01.letter -/
/- 72 supergraph supergraphref01.digit -/
/- 73 supergraph directives.judge -/
/- 74 supergraph supergraphref23.arguments -/
/- 75 supergraph supergraphref23.may -/
/- 76 supergraph supergraphref10.whole -/
/- 77 supergraph supergraphref10.fields -/
/- 78 supergraph supergraphref10.members -/
/- 79 supergraph supergraphref10.inputs -/
/- 80 supergraph supergraphref10.Find -/
/- 81 supergraph schema.Leaf -/
def c81_0 : ACode :=
  (.seq (.region false [⟨some 5, none, .mv (.s 1)⟩,
    ⟨some 6, none, .call 105 [(.s 5)]⟩,
    ⟨some 7, none, .mv (.s 6)⟩,
    ⟨some 8, some (7, false), .ld true 1 (.s 2)⟩,
    ⟨some 9, some (7, false), .mv (.s 1)⟩,
    ⟨some 10, some (7, false), .call 106 [(.s 8), (.s 9)]⟩,
    ⟨some 11, some (7, false), .bin .eql (.s 10) (.c (.t (.int .i64 4)))⟩,
    ⟨some 12, none, .pick (.s 7) (.c (.t (.bool true))) (.s 11)⟩,
    ⟨some 4, none, .mv (.s 12)⟩] [] [4]) .ret)
def c81 : ACode :=
  (.seq (.region false [⟨some 2, none, .box 1 (.s 0)⟩,
    ⟨some 4, none, .cst (.t (.bool false))⟩] [] [1, 2]) c81_0)
def r81 : List ARes := [.tmp 4]
def n81 : Nat := 13
/- 82 (*supergraph moves.judge).add -/
def c82_0 : ACode :=
  (.region true [⟨some 11, none, .mv (.s 0)⟩,
    ⟨some 12, none, .mv (.s 0)⟩,
    ⟨some 13, none, .nilck (.s 12)⟩,
    ⟨some 14, none, .fa 1 (.s 13)⟩,
    ⟨some 15, none, .ld false 1 (.s 14)⟩,
    ⟨some 16, none, .mv (.s 2)⟩,
    ⟨some 17, none, .fa 0 (.s 8)⟩,
    ⟨some 18, none, .ld false 1 (.s 17)⟩,
    ⟨some 19, none, .bin .add (.s 18) (.c (.t (.str [58])))⟩,
    ⟨some 20, none, .mv (.s 4)⟩,
    ⟨some 21, none, .bin .add (.s 19) (.s 20)⟩,
    ⟨some 22, none, .build [.t (.int .i64 0), .t (.str [])] [(0, 1, (.s 16)), (1, 1, (.s 21))]⟩,
    ⟨some 23, none, .bsl false 2 [[.int .i64 0, .str []]] [(0, (.s 22))]⟩,
    ⟨some 24, none, .app 2 24 (.s 15) (.s 23)⟩,
    ⟨some 25, none, .nilck (.s 11)⟩,
    ⟨some 26, none, .fa 1 (.s 25)⟩,
    ⟨none, none, .st 1 (.s 26) (.s 24)⟩] [[], [], [1], [2], [3], [], [], [6], [7], [], [8, 9], [5, 10], [11], [4, 12], [0, 0, 1, 2, 3, 4, 5, 6, 7, 8, 9, 10, 11, 12, 13], [14, 0, 1, 2, 3, 4, 5, 6, 7, 8, 9, 10, 11, 12, 13], [15, 13, 13, 0, 1, 2, 3, 4, 5, 6, 7, 8, 9, 10, 11, 12, 13]] [])
def c82_1 : ACode :=
  (.cond (.s 10) c82_0 .skip)
def c82_2 : ACode :=
  (.seq (.region false [⟨some 10, none, .mv (.s 1)⟩] [] [0, 2, 4, 8, 10]) c82_1)
def c82 : ACode :=
  (.seq (.region false [⟨some 8, none, .box 2 (.s 3)⟩] [] [0, 1, 2, 4, 8]) c82_2)
def r82 : List ARes := []
def n82 : Nat := 27
/- 83 supergraph moves.mentioned -/
def c83_0 : ACode :=
  (.seq (.region false [⟨some 6, none, .cst (.t (.bool false))⟩] [] [6]) .ret)
def c83_1 : ACode :=
  (.region false [⟨some 63, none, .bin .add (.s 33) (.c (.t (.int .i64 1)))⟩,
    ⟨some 33, none, .mv (.s 63)⟩] [] [2, 4, 31, 32, 33])
def c83_2 : ACode :=
  (.region false [⟨some 62, none, .bin .add (.s 40) (.c (.t (.int .i64 1)))⟩,
    ⟨some 40, none, .mv (.s 62)⟩] [] [2, 4, 10, 31, 32, 33, 38, 39, 40])
def c83_3 : ACode :=
  (.seq (.region false [⟨some 6, none, .cst (.t (.bool true))⟩] [] [6]) .ret)
def c83_4 : ACode :=
  (.cond (.s 61) c83_3 .skip)
def c83_5 : ACode :=
  (.seq (.region false [⟨some 44, none, .fa 0 (.s 10)⟩,
    ⟨some 45, none, .ld false 1 (.s 44)⟩,
    ⟨some 46, none, .bin .eql (.s 45) (.c (.t (.int .i64 1)))⟩,
    ⟨some 47, none, .mv (.s 46)⟩,
    ⟨some 48, some (47, true), .fa 2 (.s 12)⟩,
    ⟨some 49, some (47, true), .fa 0 (.s 48)⟩,
    ⟨some 50, some (47, true), .ld false 1 (.s 49)⟩,
    ⟨some 51, some (47, true), .fa 1 (.s 4)⟩,
    ⟨some 52, some (47, true), .ld false 1 (.s 51)⟩,
    ⟨some 53, some (47, true), .bin .eql (.s 50) (.s 52)⟩,
    ⟨some 54, none, .pick (.s 47) (.s 53) (.c (.t (.bool false)))⟩,
    ⟨some 55, none, .mv (.s 54)⟩,
    ⟨some 56, some (55, true), .fa 4 (.s 12)⟩,
    ⟨some 57, some (55, true), .ld false 1 (.s 56)⟩,
    ⟨some 58, some (55, true), .call 64 [(.s 57), (.c (.t (.str [112, 114, 111, 118, 105, 100, 101, 115])))]⟩,
    ⟨some 59, some (55, true), .mv (.s 2)⟩,
    ⟨some 60, some (55, true), .call 107 [(.s 58), (.s 59)]⟩,
    ⟨some 61, none, .pick (.s 55) (.s 60) (.c (.t (.bool false)))⟩] [] [2, 4, 10, 31, 32, 33, 38, 39, 40, 61]) c83_4)
def c83_6 : ACode :=
  (.seq (.region false [⟨some 42, none, .ia 5 (.s 38) (.s 40)⟩,
    ⟨some 43, none, .ld true 5 (.s 42)⟩,
    ⟨some 12, none, .alloc [.t (.str []), .nils, .t (.str []), .nils, .nils]⟩,
    ⟨none, none, .st 5 (.s 12) (.s 43)⟩] [] [2, 4, 10, 12, 31, 32, 33, 38, 39, 40]) c83_5)
def c83_7 : ACode :=
  (.seq (.block 5 c83_6) c83_2)
def c83_8 : ACode :=
  (.seq (.cond (.s 41) .skip (.exit 4)) c83_7)
def c83_9 : ACode :=
  (.seq (.region false [⟨some 41, none, .bin .lss (.s 40) (.s 39)⟩] [] [2, 4, 10, 31, 32, 33, 38, 39, 40, 41]) c83_8)
def c83_10 : ACode :=
  (.loop c83_9)
def c83_11 : ACode :=
  (.block 4 c83_10)
def c83_12 : ACode :=
  (.seq (.region false [⟨some 37, none, .fa 4 (.s 10)⟩,
    ⟨some 38, none, .ld false 1 (.s 37)⟩,
    ⟨some 39, none, .len (.s 38)⟩,
    ⟨some 40, none, .cst (.t (.int .i64 0))⟩] [] [2, 4, 10, 31, 32, 33, 38, 39, 40]) c83_11)
def c83_13 : ACode :=
  (.seq (.region false [⟨some 35, none, .ia 7 (.s 31) (.s 33)⟩,
    ⟨some 36, none, .ld true 7 (.s 35)⟩,
    ⟨some 10, none, .alloc [.t (.int .i64 0), .t (.str []), .nils, .nils, .nils, .nils, .nils]⟩,
    ⟨none, none, .st 7 (.s 10) (.s 36)⟩] [] [2, 4, 10, 31, 32, 33]) c83_12)
def c83_14 : ACode :=
  (.seq (.block 3 c83_13) c83_1)
def c83_15 : ACode :=
  (.seq (.cond (.s 34) .skip (.exit 2)) c83_14)
def c83_16 : ACode :=
  (.seq (.region false [⟨some 34, none, .bin .lss (.s 33) (.s 32)⟩] [] [2, 4, 31, 32, 33, 34]) c83_15)
def c83_17 : ACode :=
  (.loop c83_16)
def c83_18 : ACode :=
  (.block 2 c83_17)
def c83_19 : ACode :=
  (.seq (.seq (.region false [⟨some 29, none, .fa 1 (.s 3)⟩,
    ⟨some 30, none, .fa 0 (.s 29)⟩,
    ⟨some 31, none, .ld false 1 (.s 30)⟩,
    ⟨some 32, none, .len (.s 31)⟩,
    ⟨some 33, none, .cst (.t (.int .i64 0))⟩] [] [2, 4, 31, 32, 33]) c83_18) c83_0)
def c83_20 : ACode :=
  (.region false [⟨some 28, none, .bin .add (.s 19) (.c (.t (.int .i64 1)))⟩,
    ⟨some 19, none, .mv (.s 28)⟩] [] [2, 3, 4, 17, 18, 19])
def c83_21 : ACode :=
  (.seq (.region false [⟨some 6, none, .cst (.t (.bool true))⟩] [] [6]) .ret)
def c83_22 : ACode :=
  (.cond (.s 27) c83_21 .skip)
def c83_23 : ACode :=
  (.seq (.region false [⟨some 23, none, .fa 4 (.s 8)⟩,
    ⟨some 24, none, .ld false 1 (.s 23)⟩,
    ⟨some 25, none, .call 64 [(.s 24), (.c (.t (.str [114, 101, 113, 117, 105, 114, 101, 115])))]⟩,
    ⟨some 26, none, .mv (.s 2)⟩,
    ⟨some 27, none, .call 107 [(.s 25), (.s 26)]⟩] [] [2, 3, 4, 17, 18, 19, 27]) c83_22)
def c83_24 : ACode :=
  (.seq (.region false [⟨some 21, none, .ia 5 (.s 17) (.s 19)⟩,
    ⟨some 22, none, .ld true 5 (.s 21)⟩,
    ⟨some 8, none, .alloc [.t (.str []), .nils, .t (.str []), .nils, .nils]⟩,
    ⟨none, none, .st 5 (.s 8) (.s 22)⟩] [] [2, 3, 4, 8, 17, 18, 19]) c83_23)
def c83_25 : ACode :=
  (.seq (.block 1 c83_24) c83_20)
def c83_26 : ACode :=
  (.seq (.cond (.s 20) .skip (.exit 0)) c83_25)
def c83_27 : ACode :=
  (.seq (.region false [⟨some 20, none, .bin .lss (.s 19) (.s 18)⟩] [] [2, 3, 4, 17, 18, 19, 20]) c83_26)
def c83_28 : ACode :=
  (.loop c83_27)
def c83_29 : ACode :=
  (.block 0 c83_28)
def c83_30 : ACode :=
  (.seq (.seq (.region false [⟨some 16, none, .fa 4 (.s 4)⟩,
    ⟨some 17, none, .ld false 1 (.s 16)⟩,
    ⟨some 18, none, .len (.s 17)⟩,
    ⟨some 19, none, .cst (.t (.int .i64 0))⟩] [] [2, 3, 4, 17, 18, 19]) c83_29) c83_19)
def c83_31 : ACode :=
  (.seq (.region false [⟨some 6, none, .cst (.t (.bool true))⟩] [] [6]) .ret)
def c83_32 : ACode :=
  (.cond (.s 15) c83_31 .skip)
def c83_33 : ACode :=
  (.seq (.seq (.region false [⟨some 13, none, .ld true 7 (.s 4)⟩,
    ⟨some 14, none, .mv (.s 2)⟩,
    ⟨some 15, none, .call 87 [(.s 13), (.s 14)]⟩] [] [2, 3, 4, 15]) c83_32) c83_30)
def c83 : ACode :=
  (.seq (.region false [⟨some 3, none, .box 2 (.s 0)⟩,
    ⟨some 4, none, .box 7 (.s 1)⟩,
    ⟨some 6, none, .cst (.t (.bool false))⟩] [] [2, 3, 4]) c83_33)
def r83 : List ARes := [.tmp 6]
def n83 : Nat := 64
/- 84 (*supergraph moves.judge).others -/
def c84_0 : ACode :=
  (.seq (.region false [⟨some 8, none, .cst (.t (.bool false))⟩] [] [8]) .ret)
def c84_1 : ACode :=
  (.region false [⟨some 30, none, .bin .add (.s 16) (.c (.t (.int .i64 1)))⟩,
    ⟨some 16, none, .mv (.s 30)⟩] [] [1, 2, 3, 14, 15, 16])
def c84_2 : ACode :=
  (.seq (.region false [⟨some 8, none, .cst (.t (.bool true))⟩] [] [8]) .ret)
def c84_3 : ACode :=
  (.cond (.s 29) c84_2 .skip)
def c84_4 : ACode :=
  (.seq (.region false [⟨some 21, none, .mv (.s 9)⟩,
    ⟨some 22, none, .mv (.s 1)⟩,
    ⟨some 23, none, .bin .neq (.s 21) (.s 22)⟩,
    ⟨some 24, none, .mv (.s 23)⟩,
    ⟨some 25, some (24, true), .ld true 2 (.s 10)⟩,
    ⟨some 26, some (24, true), .mv (.s 2)⟩,
    ⟨some 27, some (24, true), .mv (.s 3)⟩,
    ⟨some 28, some (24, true), .call 108 [(.s 25), (.s 26), (.s 27)]⟩,
    ⟨some 29, none, .pick (.s 24) (.s 28) (.c (.t (.bool false)))⟩] [] [1, 2, 3, 14, 15, 16, 29]) c84_3)
def c84_5 : ACode :=
  (.seq (.region false [⟨some 18, none, .mv (.s 16)⟩,
    ⟨some 19, none, .ia 2 (.s 14) (.s 16)⟩,
    ⟨some 20, none, .ld true 2 (.s 19)⟩,
    ⟨some 10, none, .alloc [.t (.str []), .nils]⟩,
    ⟨some 9, none, .mv (.s 18)⟩,
    ⟨none, none, .st 2 (.s 10) (.s 20)⟩] [] [1, 2, 3, 9, 10, 14, 15, 16]) c84_4)
def c84_6 : ACode :=
  (.seq (.block 1 c84_5) c84_1)
def c84_7 : ACode :=
  (.seq (.cond (.s 17) .skip (.exit 0)) c84_6)
def c84_8 : ACode :=
  (.seq (.region false [⟨some 17, none, .bin .lss (.s 16) (.s 15)⟩] [] [1, 2, 3, 14, 15, 16, 17]) c84_7)
def c84_9 : ACode :=
  (.loop c84_8)
def c84_10 : ACode :=
  (.block 0 c84_9)
def c84_11 : ACode :=
  (.seq (.seq (.region false [⟨some 11, none, .mv (.s 0)⟩,
    ⟨some 12, none, .nilck (.s 11)⟩,
    ⟨some 13, none, .fa 0 (.s 12)⟩,
    ⟨some 14, none, .ld false 1 (.s 13)⟩,
    ⟨some 15, none, .len (.s 14)⟩,
    ⟨some 16, none, .cst (.t (.int .i64 0))⟩] [] [1, 2, 3, 14, 15, 16]) c84_10) c84_0)
def c84 : ACode :=
  (.seq (.region false [⟨some 8, none, .cst (.t (.bool false))⟩] [] [0, 1, 2, 3]) c84_11)
def r84 : List ARes := [.tmp 8]
def n84 : Nat := 31
/- 85 (*supergraph moves.judge).leant -/
def c85_0 : ACode :=
  (.seq (.region false [⟨some 6, none, .cst (.t (.bool false))⟩] [] [6]) .ret)
def c85_1 : ACode :=
  (.region false [⟨some 39, none, .bin .add (.s 16) (.c (.t (.int .i64 1)))⟩,
    ⟨some 16, none, .mv (.s 39)⟩] [] [1, 5, 14, 15, 16])
def c85_2 : ACode :=
  (.seq (.region false [⟨some 6, none, .cst (.t (.bool true))⟩] [] [6]) .ret)
def c85_3 : ACode :=
  (.cond (.s 38) c85_2 .skip)
def c85_4 : ACode :=
  (.seq (.region false [⟨some 30, none, .ld true 7 (.s 9)⟩,
    ⟨some 31, none, .ld false 1 (.s 5)⟩,
    ⟨some 32, none, .call 87 [(.s 30), (.s 31)]⟩,
    ⟨some 33, none, .mv (.s 32)⟩,
    ⟨some 34, some (33, false), .fa 4 (.s 9)⟩,
    ⟨some 35, some (33, false), .ld false 1 (.s 34)⟩,
    ⟨some 36, some (33, false), .mkfn 110 [(.s 5)]⟩,
    ⟨some 37, some (33, false), .call 109 [(.s 35), (.s 36)]⟩,
    ⟨some 38, none, .pick (.s 33) (.c (.t (.bool true))) (.s 37)⟩] [] [1, 5, 14, 15, 16, 38]) c85_3)
def c85_5 : ACode :=
  (.cond (.s 29) (.exit 1) .skip)
def c85_6 : ACode :=
  (.seq (.seq (.region false [⟨some 27, none, .fa 0 (.s 9)⟩,
    ⟨some 28, none, .ld false 1 (.s 27)⟩,
    ⟨some 29, none, .bin .neq (.s 28) (.c (.t (.int .i64 1)))⟩] [] [1, 5, 9, 14, 15, 16, 29]) c85_5) c85_4)
def c85_7 : ACode :=
  (.seq (.region false [⟨some 21, none, .fa 1 (.s 8)⟩,
    ⟨some 22, none, .ld true 1 (.s 21)⟩,
    ⟨some 23, none, .mv (.s 1)⟩,
    ⟨some 24, none, .call 65 [(.s 22), (.s 23)]⟩,
    ⟨some 20, none, .mv (.s 24)⟩,
    ⟨some 25, none, .ext (.s 20) 0⟩,
    ⟨some 26, none, .ext (.s 20) 1⟩,
    ⟨some 9, none, .alloc [.t (.int .i64 0), .t (.str []), .nils, .nils, .nils, .nils, .nils]⟩,
    ⟨none, none, .st 7 (.s 9) (.s 25)⟩,
    ⟨some 10, none, .mv (.s 26)⟩] [] [1, 5, 9, 14, 15, 16]) c85_6)
def c85_8 : ACode :=
  (.seq (.region false [⟨some 18, none, .ia 2 (.s 14) (.s 16)⟩,
    ⟨some 19, none, .ld true 2 (.s 18)⟩,
    ⟨some 8, none, .alloc [.t (.str []), .nils]⟩,
    ⟨none, none, .st 2 (.s 8) (.s 19)⟩] [] [1, 5, 8, 14, 15, 16]) c85_7)
def c85_9 : ACode :=
  (.seq (.block 1 c85_8) c85_1)
def c85_10 : ACode :=
  (.seq (.cond (.s 17) .skip (.exit 0)) c85_9)
def c85_11 : ACode :=
  (.seq (.region false [⟨some 17, none, .bin .lss (.s 16) (.s 15)⟩] [] [1, 5, 14, 15, 16, 17]) c85_10)
def c85_12 : ACode :=
  (.loop c85_11)
def c85_13 : ACode :=
  (.block 0 c85_12)
def c85_14 : ACode :=
  (.seq (.seq (.region false [⟨some 11, none, .mv (.s 0)⟩,
    ⟨some 12, none, .nilck (.s 11)⟩,
    ⟨some 13, none, .fa 0 (.s 12)⟩,
    ⟨some 14, none, .ld false 1 (.s 13)⟩,
    ⟨some 15, none, .len (.s 14)⟩,
    ⟨some 16, none, .cst (.t (.int .i64 0))⟩] [] [1, 5, 14, 15, 16]) c85_13) c85_0)
def c85 : ACode :=
  (.seq (.region false [⟨some 5, none, .box 1 (.s 2)⟩,
    ⟨some 6, none, .cst (.t (.bool false))⟩] [] [0, 1, 5]) c85_14)
def r85 : List ARes := [.tmp 6]
def n85 : Nat := 40
/- 86 supergraph moves.outside -/
def c86_0 : ACode :=
  (.seq (.region false [⟨some 47, none, .mv (.s 2)⟩,
    ⟨some 48, none, .len (.s 47)⟩,
    ⟨some 49, none, .bin .gtr (.s 48) (.c (.t (.int .i64 0)))⟩,
    ⟨some 6, none, .mv (.s 49)⟩] [] [6]) .ret)
def c86_1 : ACode :=
  (.region false [⟨some 46, none, .bin .add (.s 13) (.c (.t (.int .i64 1)))⟩,
    ⟨some 13, none, .mv (.s 46)⟩] [] [2, 3, 4, 11, 12, 13])
def c86_2 : ACode :=
  (.seq (.region false [⟨some 6, none, .cst (.t (.bool false))⟩] [] [6]) .ret)
def c86_3 : ACode :=
  (.cond (.s 45) c86_2 .skip)
def c86_4 : ACode :=
  (.seq (.region false [⟨some 23, none, .mv (.s 10)⟩,
    ⟨some 24, none, .un .not (.s 23)⟩,
    ⟨some 25, none, .mv (.s 24)⟩,
    ⟨some 26, some (25, false), .fa 4 (.s 9)⟩,
    ⟨some 27, some (25, false), .ld false 1 (.s 26)⟩,
    ⟨some 28, some (25, false), .call 25 [(.s 27), (.c (.t (.str [101, 120, 116, 101, 114, 110, 97, 108])))]⟩,
    ⟨some 29, some (25, false), .un .not (.s 28)⟩,
    ⟨some 30, none, .pick (.s 25) (.c (.t (.bool true))) (.s 29)⟩,
    ⟨some 31, none, .mv (.s 30)⟩,
    ⟨some 32, some (31, false), .fa 1 (.s 9)⟩,
    ⟨some 33, some (31, false), .ld false 1 (.s 32)⟩,
    ⟨some 34, some (31, false), .len (.s 33)⟩,
    ⟨some 35, some (31, false), .bin .gtr (.s 34) (.c (.t (.int .i64 0)))⟩,
    ⟨some 36, none, .pick (.s 31) (.c (.t (.bool true))) (.s 35)⟩,
    ⟨some 37, none, .mv (.s 36)⟩,
    ⟨some 38, some (37, false), .fa 1 (.s 3)⟩,
    ⟨some 39, some (37, false), .ld true 1 (.s 38)⟩,
    ⟨some 40, some (37, false), .fa 2 (.s 9)⟩,
    ⟨some 41, some (37, false), .fa 0 (.s 40)⟩,
    ⟨some 42, some (37, false), .ld false 1 (.s 41)⟩,
    ⟨some 43, some (37, false), .call 81 [(.s 39), (.s 42)]⟩,
    ⟨some 44, some (37, false), .un .not (.s 43)⟩,
    ⟨some 45, none, .pick (.s 37) (.c (.t (.bool true))) (.s 44)⟩] [] [2, 3, 4, 11, 12, 13, 45]) c86_3)
def c86_5 : ACode :=
  (.seq (.region false [⟨some 18, none, .ld true 7 (.s 4)⟩,
    ⟨some 19, none, .mv (.s 8)⟩,
    ⟨some 20, none, .call 66 [(.s 18), (.s 19)]⟩,
    ⟨some 17, none, .mv (.s 20)⟩,
    ⟨some 21, none, .ext (.s 17) 0⟩,
    ⟨some 22, none, .ext (.s 17) 1⟩,
    ⟨some 9, none, .alloc [.t (.str []), .nils, .t (.str []), .nils, .nils]⟩,
    ⟨none, none, .st 5 (.s 9) (.s 21)⟩,
    ⟨some 10, none, .mv (.s 22)⟩] [] [2, 3, 4, 9, 10, 11, 12, 13]) c86_4)
def c86_6 : ACode :=
  (.seq (.region false [⟨some 15, none, .ia 1 (.s 11) (.s 13)⟩,
    ⟨some 16, none, .ld false 1 (.s 15)⟩,
    ⟨some 8, none, .mv (.s 16)⟩] [] [2, 3, 4, 8, 11, 12, 13]) c86_5)
def c86_7 : ACode :=
  (.seq (.block 1 c86_6) c86_1)
def c86_8 : ACode :=
  (.seq (.cond (.s 14) .skip (.exit 0)) c86_7)
def c86_9 : ACode :=
  (.seq (.region false [⟨some 14, none, .bin .lss (.s 13) (.s 12)⟩] [] [2, 3, 4, 11, 12, 13, 14]) c86_8)
def c86_10 : ACode :=
  (.loop c86_9)
def c86_11 : ACode :=
  (.block 0 c86_10)
def c86_12 : ACode :=
  (.seq (.seq (.region false [⟨some 11, none, .mv (.s 2)⟩,
    ⟨some 12, none, .len (.s 11)⟩,
    ⟨some 13, none, .cst (.t (.int .i64 0))⟩] [] [2, 3, 4, 11, 12, 13]) c86_11) c86_0)
def c86 : ACode :=
  (.seq (.region false [⟨some 3, none, .box 2 (.s 0)⟩,
    ⟨some 4, none, .box 7 (.s 1)⟩,
    ⟨some 6, none, .cst (.t (.bool false))⟩] [] [2, 3, 4]) c86_12)
def r86 : List ARes := [.tmp 6]
def n86 : Nat := 50
/- 87 supergraph moves.isKey -/
def c87_0 : ACode :=
  (.seq (.region false [⟨some 5, none, .ld true 7 (.s 2)⟩,
    ⟨some 6, none, .call 62 [(.s 5)]⟩,
    ⟨some 7, none, .mkfn 112 [(.s 3)]⟩,
    ⟨some 8, none, .call 111 [(.s 6), (.s 7)]⟩,
    ⟨some 4, none, .mv (.s 8)⟩] [] [4]) .ret)
def c87 : ACode :=
  (.seq (.region false [⟨some 2, none, .box 7 (.s 0)⟩,
    ⟨some 3, none, .box 1 (.s 1)⟩,
    ⟨some 4, none, .cst (.t (.bool false))⟩] [] [2, 3]) c87_0)
def r87 : List ARes := [.tmp 4]
def n87 : Nat := 9
/- 88 strings.explode -/
/- 89 strings.Count -/
def c89_0 : ACode :=
  (.region false [⟨some 28, none, .mv (.s 0)⟩,
    ⟨some 29, none, .mv (.s 6)⟩,
    ⟨some 30, none, .mv (.s 1)⟩,
    ⟨some 31, none, .lens (.s 30)⟩,
    ⟨some 32, none, .bin .add (.s 29) (.s 31)⟩,
    ⟨some 33, none, .sls (.s 28) (some (.s 32)) none⟩,
    ⟨some 0, none, .mv (.s 33)⟩] [] [0, 1, 5])
def c89_1 : ACode :=
  (.seq (.region false [⟨some 26, none, .mv (.s 5)⟩,
    ⟨some 27, none, .bin .add (.s 26) (.c (.t (.int .i64 1)))⟩,
    ⟨some 5, none, .mv (.s 27)⟩] [] [0, 1, 5, 6]) c89_0)
def c89_2 : ACode :=
  (.seq (.region false [⟨some 25, none, .mv (.s 5)⟩,
    ⟨some 4, none, .mv (.s 25)⟩] [] [4]) .ret)
def c89_3 : ACode :=
  (.cond (.s 24) c89_2 .skip)
def c89_4 : ACode :=
  (.seq (.seq (.region false [⟨some 23, none, .mv (.s 6)⟩,
    ⟨some 24, none, .bin .eql (.s 23) (.c (.t (.int .i64 (-1))))⟩] [] [0, 1, 5, 6, 24]) c89_3) c89_1)
def c89_5 : ACode :=
  (.seq (.region false [⟨some 20, none, .mv (.s 0)⟩,
    ⟨some 21, none, .mv (.s 1)⟩,
    ⟨some 22, none, .call 90 [(.s 20), (.s 21)]⟩,
    ⟨some 6, none, .mv (.s 22)⟩] [] [0, 1, 5, 6]) c89_4)
def c89_6 : ACode :=
  (.block 1 c89_5)
def c89_7 : ACode :=
  (.loop c89_6)
def c89_8 : ACode :=
  (.block 0 c89_7)
def c89_9 : ACode :=
  (.seq (.region false [⟨some 5, none, .cst (.t (.int .i64 0))⟩] [] [0, 1, 5]) c89_8)
def c89_10 : ACode :=
  (.seq (.region false [⟨some 16, none, .mv (.s 0)⟩,
    ⟨some 17, none, .mv (.s 1)⟩,
    ⟨some 18, none, .ixs (.s 17) (.c (.t (.int .i64 0)))⟩,
    ⟨some 19, none, .nw (.xtr true (.s 16) (.s 18))⟩,
    ⟨some 4, none, .mv (.s 19)⟩] [] [4]) .ret)
def c89_11 : ACode :=
  (.cond (.s 15) c89_10 .skip)
def c89_12 : ACode :=
  (.seq (.seq (.region false [⟨some 13, none, .mv (.s 1)⟩,
    ⟨some 14, none, .lens (.s 13)⟩,
    ⟨some 15, none, .bin .eql (.s 14) (.c (.t (.int .i64 1)))⟩] [] [0, 1, 15]) c89_11) c89_9)
def c89_13 : ACode :=
  (.seq (.region false [⟨some 10, none, .mv (.s 0)⟩,
    ⟨some 11, none, .call 113 [(.s 10)]⟩,
    ⟨some 12, none, .bin .add (.s 11) (.c (.t (.int .i64 1)))⟩,
    ⟨some 4, none, .mv (.s 12)⟩] [] [4]) .ret)
def c89_14 : ACode :=
  (.cond (.s 9) c89_13 .skip)
def c89_15 : ACode :=
  (.seq (.seq (.region false [⟨some 7, none, .mv (.s 1)⟩,
    ⟨some 8, none, .lens (.s 7)⟩,
    ⟨some 9, none, .bin .eql (.s 8) (.c (.t (.int .i64 0)))⟩] [] [0, 1, 9]) c89_14) c89_12)
def c89 : ACode :=
  (.seq (.region false [⟨some 4, none, .cst (.t (.int .i64 0))⟩] [] [0, 1]) c89_15)
def r89 : List ARes := [.tmp 4]
def n89 : Nat := 34
/- 90 strings.Index -/
def c90_0 : ACode :=
  (.seq (.region false [⟨some 5, none, .mv (.s 0)⟩,
    ⟨some 6, none, .mv (.s 1)⟩,
    ⟨some 7, none, .call 116 [(.s 5), (.s 6)]⟩,
    ⟨some 4, none, .mv (.s 7)⟩] [] [4]) .ret)
def c90 : ACode :=
  (.seq (.region false [⟨some 4, none, .cst (.t (.int .i64 0))⟩] [] [0, 1]) c90_0)
def r90 : List ARes := [.tmp 4]
def n90 : Nat := 8
/- 91 internal stringslite.HasPrefix -/
def c91_0 : ACode :=
  (.seq (.region false [⟨some 5, none, .mv (.s 0)⟩,
    ⟨some 6, none, .lens (.s 5)⟩,
    ⟨some 7, none, .mv (.s 1)⟩,
    ⟨some 8, none, .lens (.s 7)⟩,
    ⟨some 9, none, .bin .geq (.s 6) (.s 8)⟩,
    ⟨some 10, none, .mv (.s 9)⟩,
    ⟨some 11, some (10, true), .mv (.s 0)⟩,
    ⟨some 12, some (10, true), .mv (.s 1)⟩,
    ⟨some 13, some (10, true), .lens (.s 12)⟩,
    ⟨some 14, some (10, true), .sls (.s 11) none (some (.s 13))⟩,
    ⟨some 15, some (10, true), .mv (.s 1)⟩,
    ⟨some 16, some (10, true), .bin .eql (.s 14) (.s 15)⟩,
    ⟨some 17, none, .pick (.s 10) (.s 16) (.c (.t (.bool false)))⟩,
    ⟨some 4, none, .mv (.s 17)⟩] [] [4]) .ret)
def c91 : ACode :=
  (.seq (.region false [⟨some 4, none, .cst (.t (.bool false))⟩] [] [0, 1]) c91_0)
def r91 : List ARes := [.tmp 4]
def n91 : Nat := 18
/- 92 supergraph directives.ruleOf -/
/- 93 (supergraph directives.rule).param -/
/- 94 supergraph supergraphref23.kind -/
/- 95 supergraph supergraphref23.needed -/
/- 96 supergraph supergraphref23.fits -/
/- 97 supergraph supergraphref10.Scalar -/
/- 98 supergraph supergraphref10.names -/
/- 99 supergraph supergraphref10.empty -/
/- 100 supergraph supergraphref10.circular -/
/- 101 supergraph supergraphref10.FieldOf -/
/- 102 supergraph supergraphref10.known -/
/- 103 supergraph supergraphref10.InputOf -/
/- 104 supergraph supergraphref10.IsInput -/
/- 105 supergraph schema.Scalar -/
def c105_0 : ACode :=
  (.seq (.region false [⟨some 3, none, .mv (.s 0)⟩,
    ⟨some 4, none, .bin .eql (.s 3) (.c (.t (.str [73, 110, 116])))⟩,
    ⟨some 5, none, .mv (.s 4)⟩,
    ⟨some 6, some (5, false), .mv (.s 0)⟩,
    ⟨some 7, some (5, false), .bin .eql (.s 6) (.c (.t (.str [83, 116, 114, 105, 110, 103])))⟩,
    ⟨some 8, none, .pick (.s 5) (.c (.t (.bool true))) (.s 7)⟩,
    ⟨some 9, none, .mv (.s 8)⟩,
    ⟨some 10, some (9, false), .mv (.s 0)⟩,
    ⟨some 11, some (9, false), .bin .eql (.s 10) (.c (.t (.str [66, 111, 111, 108, 101, 97, 110])))⟩,
    ⟨some 12, none, .pick (.s 9) (.c (.t (.bool true))) (.s 11)⟩,
    ⟨some 13, none, .mv (.s 12)⟩,
    ⟨some 14, some (13, false), .mv (.s 0)⟩,
    ⟨some 15, some (13, false), .bin .eql (.s 14) (.c (.t (.str [73, 68])))⟩,
    ⟨some 16, none, .pick (.s 13) (.c (.t (.bool true))) (.s 15)⟩,
    ⟨some 2, none, .mv (.s 16)⟩] [] [2]) .ret)
def c105 : ACode :=
  (.seq (.region false [⟨some 2, none, .cst (.t (.bool false))⟩] [] [0]) c105_0)
def r105 : List ARes := [.tmp 2]
def n105 : Nat := 17
/- 106 supergraph schema.kind -/
def c106_0 : ACode :=
  (.seq (.region false [⟨some 13, none, .fa 0 (.s 5)⟩,
    ⟨some 14, none, .ld false 1 (.s 13)⟩,
    ⟨some 4, none, .mv (.s 14)⟩] [] [4]) .ret)
def c106_1 : ACode :=
  (.seq (.region false [⟨some 8, none, .ld true 1 (.s 2)⟩,
    ⟨some 9, none, .mv (.s 1)⟩,
    ⟨some 10, none, .call 65 [(.s 8), (.s 9)]⟩,
    ⟨some 7, none, .mv (.s 10)⟩,
    ⟨some 11, none, .ext (.s 7) 0⟩,
    ⟨some 12, none, .ext (.s 7) 1⟩,
    ⟨some 5, none, .alloc [.t (.int .i64 0), .t (.str []), .nils, .nils, .nils, .nils, .nils]⟩,
    ⟨none, none, .st 7 (.s 5) (.s 11)⟩,
    ⟨some 6, none, .mv (.s 12)⟩] [] [5]) c106_0)
def c106 : ACode :=
  (.seq (.region false [⟨some 2, none, .box 1 (.s 0)⟩,
    ⟨some 4, none, .cst (.t (.int .i64 0))⟩] [] [1, 2]) c106_1)
def r106 : List ARes := [.tmp 4]
def n106 : Nat := 15
/- 107 slices.Contains[[]string,string] -/
def c107_0 : ACode :=
  (.seq (.region false [⟨some 5, none, .mv (.s 0)⟩,
    ⟨some 6, none, .mv (.s 1)⟩,
    ⟨some 7, none, .call 126 [(.s 5), (.s 6)]⟩,
    ⟨some 8, none, .bin .geq (.s 7) (.c (.t (.int .i64 0)))⟩,
    ⟨some 4, none, .mv (.s 8)⟩] [] [4]) .ret)
def c107 : ACode :=
  (.seq (.region false [⟨some 4, none, .cst (.t (.bool false))⟩] [] [0, 1]) c107_0)
def r107 : List ARes := [.tmp 4]
def n107 : Nat := 9
/- 108 supergraph moves.resolves -/
def c108_0 : ACode :=
  (.seq (.region false [⟨some 24, none, .mv (.s 8)⟩,
    ⟨some 25, none, .mv (.s 24)⟩,
    ⟨some 26, some (25, true), .mv (.s 10)⟩,
    ⟨some 27, none, .pick (.s 25) (.s 26) (.c (.t (.bool false)))⟩,
    ⟨some 28, none, .mv (.s 27)⟩,
    ⟨some 29, some (28, true), .fa 0 (.s 7)⟩,
    ⟨some 30, some (28, true), .ld false 1 (.s 29)⟩,
    ⟨some 31, some (28, true), .bin .eql (.s 30) (.c (.t (.int .i64 1)))⟩,
    ⟨some 32, none, .pick (.s 28) (.s 31) (.c (.t (.bool false)))⟩,
    ⟨some 33, none, .mv (.s 32)⟩,
    ⟨some 34, some (33, true), .fa 4 (.s 9)⟩,
    ⟨some 35, some (33, true), .ld false 1 (.s 34)⟩,
    ⟨some 36, some (33, true), .call 25 [(.s 35), (.c (.t (.str [101, 120, 116, 101, 114, 110, 97, 108])))]⟩,
    ⟨some 37, some (33, true), .un .not (.s 36)⟩,
    ⟨some 38, none, .pick (.s 33) (.s 37) (.c (.t (.bool false)))⟩,
    ⟨some 6, none, .mv (.s 38)⟩] [] [6]) .ret)
def c108_1 : ACode :=
  (.seq (.region false [⟨some 19, none, .ld true 7 (.s 7)⟩,
    ⟨some 20, none, .mv (.s 2)⟩,
    ⟨some 21, none, .call 66 [(.s 19), (.s 20)]⟩,
    ⟨some 18, none, .mv (.s 21)⟩,
    ⟨some 22, none, .ext (.s 18) 0⟩,
    ⟨some 23, none, .ext (.s 18) 1⟩,
    ⟨some 9, none, .alloc [.t (.str []), .nils, .t (.str []), .nils, .nils]⟩,
    ⟨none, none, .st 5 (.s 9) (.s 22)⟩,
    ⟨some 10, none, .mv (.s 23)⟩] [] [7, 8, 9, 10]) c108_0)
def c108_2 : ACode :=
  (.seq (.region false [⟨some 12, none, .fa 1 (.s 3)⟩,
    ⟨some 13, none, .ld true 1 (.s 12)⟩,
    ⟨some 14, none, .mv (.s 1)⟩,
    ⟨some 15, none, .call 65 [(.s 13), (.s 14)]⟩,
    ⟨some 11, none, .mv (.s 15)⟩,
    ⟨some 16, none, .ext (.s 11) 0⟩,
    ⟨some 17, none, .ext (.s 11) 1⟩,
    ⟨some 7, none, .alloc [.t (.int .i64 0), .t (.str []), .nils, .nils, .nils, .nils, .nils]⟩,
    ⟨none, none, .st 7 (.s 7) (.s 16)⟩,
    ⟨some 8, none, .mv (.s 17)⟩] [] [2, 7, 8]) c108_1)
def c108 : ACode :=
  (.seq (.region false [⟨some 3, none, .box 2 (.s 0)⟩,
    ⟨some 6, none, .cst (.t (.bool false))⟩] [] [1, 2, 3]) c108_2)
def r108 : List ARes := [.tmp 6]
def n108 : Nat := 39
/- 109 slices.ContainsFunc[[]supergraph api.Field,supergraph api.Field] -/
def c109_0 : ACode :=
  (.seq (.region false [⟨some 5, none, .mv (.s 0)⟩,
    ⟨some 6, none, .mv (.s 1)⟩,
    ⟨some 7, none, .call 127 [(.s 5), (.s 6)]⟩,
    ⟨some 8, none, .bin .geq (.s 7) (.c (.t (.int .i64 0)))⟩,
    ⟨some 4, none, .mv (.s 8)⟩] [] [4]) .ret)
def c109 : ACode :=
  (.seq (.region false [⟨some 4, none, .cst (.t (.bool false))⟩] [] [0, 1]) c109_0)
def r109 : List ARes := [.tmp 4]
def n109 : Nat := 9
/- 110 (*supergraph moves.judge).leant 1 -/
def c110_0 : ACode :=
  (.seq (.region true [⟨some 4, none, .fa 4 (.s 2)⟩,
    ⟨some 5, none, .ld false 1 (.s 4)⟩,
    ⟨some 6, none, .call 64 [(.s 5), (.c (.t (.str [114, 101, 113, 117, 105, 114, 101, 115])))]⟩,
    ⟨some 7, none, .ld false 1 (.s 1)⟩,
    ⟨some 8, none, .call 107 [(.s 6), (.s 7)]⟩,
    ⟨some 3, none, .mv (.s 8)⟩] [[], [0], [1], [], [2, 3, 2], [4, 4, 0, 1, 2, 3, 4]] [3]) .ret)
def c110 : ACode :=
  (.seq (.region false [⟨some 2, none, .box 5 (.s 0)⟩,
    ⟨some 3, none, .cst (.t (.bool false))⟩] [] [1, 2]) c110_0)
def r110 : List ARes := [.tmp 3]
def n110 : Nat := 9
/- 111 slices.ContainsFunc[[][]string,[]string] -/
def c111_0 : ACode :=
  (.seq (.region false [⟨some 5, none, .mv (.s 0)⟩,
    ⟨some 6, none, .mv (.s 1)⟩,
    ⟨some 7, none, .call 128 [(.s 5), (.s 6)]⟩,
    ⟨some 8, none, .bin .geq (.s 7) (.c (.t (.int .i64 0)))⟩,
    ⟨some 4, none, .mv (.s 8)⟩] [] [4]) .ret)
def c111 : ACode :=
  (.seq (.region false [⟨some 4, none, .cst (.t (.bool false))⟩] [] [0, 1]) c111_0)
def r111 : List ARes := [.tmp 4]
def n111 : Nat := 9
/- 112 supergraph moves.isKey 1 -/
def c112_0 : ACode :=
  (.seq (.region false [⟨some 4, none, .mv (.s 0)⟩,
    ⟨some 5, none, .ld false 1 (.s 1)⟩,
    ⟨some 6, none, .call 107 [(.s 4), (.s 5)]⟩,
    ⟨some 3, none, .mv (.s 6)⟩] [] [3]) .ret)
def c112 : ACode :=
  (.seq (.region false [⟨some 3, none, .cst (.t (.bool false))⟩] [] [0, 1]) c112_0)
def r112 : List ARes := [.tmp 3]
def n112 : Nat := 7
/- 113 unicode utf8.RuneCountInString -/
/- 114 unicode utf8.DecodeRuneInString -/
/- 116 internal stringslite.Index -/
def c116_0 : ACode :=
  (.seq (.region false [⟨some 4, none, .cst (.t (.int .i64 (-1)))⟩] [] [4]) .ret)
def c116_1 : ACode :=
  (.seq (.region false [⟨some 4, none, .cst (.t (.int .i64 (-1)))⟩] [] [4]) .ret)
def c116_2 : ACode :=
  (.seq (.region false [⟨some 115, none, .mv (.s 12)⟩,
    ⟨some 116, none, .mv (.s 8)⟩,
    ⟨some 117, none, .bin .add (.s 115) (.s 116)⟩,
    ⟨some 4, none, .mv (.s 117)⟩] [] [4]) .ret)
def c116_3 : ACode :=
  (.cond (.s 114) c116_2 .skip)
def c116_4 : ACode :=
  (.seq (.seq (.region false [⟨some 113, none, .mv (.s 12)⟩,
    ⟨some 114, none, .bin .geq (.s 113) (.c (.t (.int .i64 0)))⟩] [] [8, 12, 114]) c116_3) c116_1)
def c116_5 : ACode :=
  (.seq (.region false [⟨some 108, none, .mv (.s 0)⟩,
    ⟨some 109, none, .mv (.s 8)⟩,
    ⟨some 110, none, .sls (.s 108) (some (.s 109)) none⟩,
    ⟨some 111, none, .mv (.s 1)⟩,
    ⟨some 112, none, .call 131 [(.s 110), (.s 111)]⟩,
    ⟨some 12, none, .mv (.s 112)⟩] [] [8, 12]) c116_4)
def c116_6 : ACode :=
  (.seq (.region false [⟨some 140, none, .mv (.s 8)⟩,
    ⟨some 141, none, .mv (.s 13)⟩,
    ⟨some 142, none, .bin .add (.s 140) (.s 141)⟩,
    ⟨some 4, none, .mv (.s 142)⟩] [] [4]) .ret)
def c116_7 : ACode :=
  (.seq (.region false [⟨some 4, none, .cst (.t (.int .i64 (-1)))⟩] [] [4]) .ret)
def c116_8 : ACode :=
  (.cond (.s 139) c116_7 .skip)
def c116_9 : ACode :=
  (.seq (.seq (.region false [⟨some 138, none, .mv (.s 13)⟩,
    ⟨some 139, none, .bin .lss (.s 138) (.c (.t (.int .i64 0)))⟩] [] [8, 13, 139]) c116_8) c116_6)
def c116_10 : ACode :=
  (.seq (.region false [⟨some 133, none, .mv (.s 0)⟩,
    ⟨some 134, none, .mv (.s 8)⟩,
    ⟨some 135, none, .sls (.s 133) (some (.s 134)) none⟩,
    ⟨some 136, none, .mv (.s 1)⟩,
    ⟨some 137, none, .call 133 [(.s 135), (.s 136)]⟩,
    ⟨some 13, none, .mv (.s 137)⟩] [] [8, 13]) c116_9)
def c116_11 : ACode :=
  (.cond (.s 132) c116_10 .skip)
def c116_12 : ACode :=
  (.seq (.region false [⟨some 118, none, .mv (.s 5)⟩,
    ⟨some 119, none, .nw (.bad)⟩,
    ⟨some 120, none, .bin .gtr (.s 118) (.s 119)⟩,
    ⟨some 121, none, .mv (.s 120)⟩,
    ⟨some 122, some (121, true), .mv (.s 10)⟩,
    ⟨some 123, some (121, true), .mv (.s 8)⟩,
    ⟨some 124, some (121, true), .bin .shr (.s 123) (.c (.t (.int .u64 4)))⟩,
    ⟨some 125, some (121, true), .bin .add (.c (.t (.int .i64 4))) (.s 124)⟩,
    ⟨some 126, some (121, true), .bin .geq (.s 122) (.s 125)⟩,
    ⟨some 127, none, .pick (.s 121) (.s 126) (.c (.t (.bool false)))⟩,
    ⟨some 128, none, .mv (.s 127)⟩,
    ⟨some 129, some (128, true), .mv (.s 8)⟩,
    ⟨some 130, some (128, true), .mv (.s 9)⟩,
    ⟨some 131, some (128, true), .bin .lss (.s 129) (.s 130)⟩,
    ⟨some 132, none, .pick (.s 128) (.s 131) (.c (.t (.bool false)))⟩] [] [0, 1, 5, 6, 7, 8, 9, 10, 132]) c116_11)
def c116_13 : ACode :=
  (.cond (.s 107) c116_5 c116_12)
def c116_14 : ACode :=
  (.seq (.region false [⟨some 99, none, .mv (.s 5)⟩,
    ⟨some 100, none, .nw (.bad)⟩,
    ⟨some 101, none, .bin .leq (.s 99) (.s 100)⟩,
    ⟨some 102, none, .mv (.s 101)⟩,
    ⟨some 103, some (102, true), .mv (.s 10)⟩,
    ⟨some 104, some (102, true), .mv (.s 8)⟩,
    ⟨some 105, some (102, true), .call 132 [(.s 104)]⟩,
    ⟨some 106, some (102, true), .bin .gtr (.s 103) (.s 105)⟩,
    ⟨some 107, none, .pick (.s 102) (.s 106) (.c (.t (.bool false)))⟩] [] [0, 1, 5, 6, 7, 8, 9, 10, 107]) c116_13)
def c116_15 : ACode :=
  (.seq (.region false [⟨some 97, none, .mv (.s 10)⟩,
    ⟨some 98, none, .bin .add (.s 97) (.c (.t (.int .i64 1)))⟩,
    ⟨some 10, none, .mv (.s 98)⟩] [] [0, 1, 5, 6, 7, 8, 9, 10]) c116_14)
def c116_16 : ACode :=
  (.seq (.region false [⟨some 95, none, .mv (.s 8)⟩,
    ⟨some 96, none, .bin .add (.s 95) (.c (.t (.int .i64 1)))⟩,
    ⟨some 8, none, .mv (.s 96)⟩] [] [0, 1, 5, 6, 7, 8, 9, 10]) c116_15)
def c116_17 : ACode :=
  (.seq (.region false [⟨some 94, none, .mv (.s 8)⟩,
    ⟨some 4, none, .mv (.s 94)⟩] [] [4]) .ret)
def c116_18 : ACode :=
  (.cond (.s 93) c116_17 .skip)
def c116_19 : ACode :=
  (.seq (.seq (.region false [⟨some 78, none, .mv (.s 0)⟩,
    ⟨some 79, none, .mv (.s 8)⟩,
    ⟨some 80, none, .bin .add (.s 79) (.c (.t (.int .i64 1)))⟩,
    ⟨some 81, none, .ixs (.s 78) (.s 80)⟩,
    ⟨some 82, none, .mv (.s 7)⟩,
    ⟨some 83, none, .bin .eql (.s 81) (.s 82)⟩,
    ⟨some 84, none, .mv (.s 83)⟩,
    ⟨some 85, some (84, true), .mv (.s 0)⟩,
    ⟨some 86, some (84, true), .mv (.s 8)⟩,
    ⟨some 87, some (84, true), .mv (.s 8)⟩,
    ⟨some 88, some (84, true), .mv (.s 5)⟩,
    ⟨some 89, some (84, true), .bin .add (.s 87) (.s 88)⟩,
    ⟨some 90, some (84, true), .sls (.s 85) (some (.s 86)) (some (.s 89))⟩,
    ⟨some 91, some (84, true), .mv (.s 1)⟩,
    ⟨some 92, some (84, true), .bin .eql (.s 90) (.s 91)⟩,
    ⟨some 93, none, .pick (.s 84) (.s 92) (.c (.t (.bool false)))⟩] [] [0, 1, 5, 6, 7, 8, 9, 10, 93]) c116_18) c116_16)
def c116_20 : ACode :=
  (.region false [⟨some 74, none, .mv (.s 8)⟩,
    ⟨some 75, none, .mv (.s 11)⟩,
    ⟨some 76, none, .bin .add (.s 75) (.c (.t (.int .i64 1)))⟩,
    ⟨some 77, none, .bin .add (.s 74) (.s 76)⟩,
    ⟨some 8, none, .mv (.s 77)⟩] [] [0, 1, 5, 6, 7, 8, 9, 10])
def c116_21 : ACode :=
  (.seq (.region false [⟨some 4, none, .cst (.t (.int .i64 (-1)))⟩] [] [4]) .ret)
def c116_22 : ACode :=
  (.cond (.s 73) c116_21 .skip)
def c116_23 : ACode :=
  (.seq (.seq (.region false [⟨some 72, none, .mv (.s 11)⟩,
    ⟨some 73, none, .bin .lss (.s 72) (.c (.t (.int .i64 0)))⟩] [] [0, 1, 5, 6, 7, 8, 9, 10, 11, 73]) c116_22) c116_20)
def c116_24 : ACode :=
  (.seq (.region false [⟨some 65, none, .mv (.s 0)⟩,
    ⟨some 66, none, .mv (.s 8)⟩,
    ⟨some 67, none, .bin .add (.s 66) (.c (.t (.int .i64 1)))⟩,
    ⟨some 68, none, .mv (.s 9)⟩,
    ⟨some 69, none, .sls (.s 65) (some (.s 67)) (some (.s 68))⟩,
    ⟨some 70, none, .mv (.s 6)⟩,
    ⟨some 71, none, .call 130 [(.s 69), (.s 70)]⟩,
    ⟨some 11, none, .mv (.s 71)⟩] [] [0, 1, 5, 6, 7, 8, 9, 10, 11]) c116_23)
def c116_25 : ACode :=
  (.cond (.s 64) c116_24 .skip)
def c116_26 : ACode :=
  (.seq (.seq (.region false [⟨some 60, none, .mv (.s 0)⟩,
    ⟨some 61, none, .mv (.s 8)⟩,
    ⟨some 62, none, .ixs (.s 60) (.s 61)⟩,
    ⟨some 63, none, .mv (.s 6)⟩,
    ⟨some 64, none, .bin .neq (.s 62) (.s 63)⟩] [] [0, 1, 5, 6, 7, 8, 9, 10, 64]) c116_25) c116_19)
def c116_27 : ACode :=
  (.block 2 c116_26)
def c116_28 : ACode :=
  (.cond (.s 59) .skip (.exit 1))
def c116_29 : ACode :=
  (.seq (.seq (.region false [⟨some 57, none, .mv (.s 8)⟩,
    ⟨some 58, none, .mv (.s 9)⟩,
    ⟨some 59, none, .bin .lss (.s 57) (.s 58)⟩] [] [0, 1, 5, 6, 7, 8, 9, 10, 59]) c116_28) c116_27)
def c116_30 : ACode :=
  (.loop c116_29)
def c116_31 : ACode :=
  (.seq (.block 1 c116_30) c116_0)
def c116_32 : ACode :=
  (.seq (.region false [⟨some 10, none, .cst (.t (.int .i64 0))⟩] [] [0, 1, 5, 6, 7, 8, 9, 10]) c116_31)
def c116_33 : ACode :=
  (.seq (.region false [⟨some 52, none, .mv (.s 0)⟩,
    ⟨some 53, none, .lens (.s 52)⟩,
    ⟨some 54, none, .mv (.s 5)⟩,
    ⟨some 55, none, .bin .sub (.s 53) (.s 54)⟩,
    ⟨some 56, none, .bin .add (.s 55) (.c (.t (.int .i64 1)))⟩,
    ⟨some 9, none, .mv (.s 56)⟩] [] [0, 1, 5, 6, 7, 8, 9]) c116_32)
def c116_34 : ACode :=
  (.seq (.region false [⟨some 8, none, .cst (.t (.int .i64 0))⟩] [] [0, 1, 5, 6, 7, 8]) c116_33)
def c116_35 : ACode :=
  (.seq (.region false [⟨some 50, none, .mv (.s 1)⟩,
    ⟨some 51, none, .ixs (.s 50) (.c (.t (.int .i64 1)))⟩,
    ⟨some 7, none, .mv (.s 51)⟩] [] [0, 1, 5, 6, 7]) c116_34)
def c116_36 : ACode :=
  (.seq (.region false [⟨some 48, none, .mv (.s 1)⟩,
    ⟨some 49, none, .ixs (.s 48) (.c (.t (.int .i64 0)))⟩,
    ⟨some 6, none, .mv (.s 49)⟩] [] [0, 1, 5, 6]) c116_35)
def c116_37 : ACode :=
  (.seq (.region false [⟨some 4, none, .cst (.t (.int .i64 0))⟩] [] [4]) .ret)
def c116_38 : ACode :=
  (.seq (.region false [⟨some 27, none, .mv (.s 0)⟩,
    ⟨some 28, none, .mv (.s 1)⟩,
    ⟨some 29, none, .ixs (.s 28) (.c (.t (.int .i64 0)))⟩,
    ⟨some 30, none, .call 130 [(.s 27), (.s 29)]⟩,
    ⟨some 4, none, .mv (.s 30)⟩] [] [4]) .ret)
def c116_39 : ACode :=
  (.seq (.region false [⟨some 4, none, .cst (.t (.int .i64 (-1)))⟩] [] [4]) .ret)
def c116_40 : ACode :=
  (.seq (.region false [⟨some 45, none, .mv (.s 0)⟩,
    ⟨some 46, none, .mv (.s 1)⟩,
    ⟨some 47, none, .call 131 [(.s 45), (.s 46)]⟩,
    ⟨some 4, none, .mv (.s 47)⟩] [] [4]) .ret)
def c116_41 : ACode :=
  (.cond (.s 36) c116_40 .skip)
def c116_42 : ACode :=
  (.seq (.region false [⟨some 37, none, .mv (.s 5)⟩,
    ⟨some 38, none, .nw (.bad)⟩,
    ⟨some 39, none, .bin .leq (.s 37) (.s 38)⟩,
    ⟨some 40, none, .mv (.s 39)⟩,
    ⟨some 41, some (40, true), .mv (.s 0)⟩,
    ⟨some 42, some (40, true), .lens (.s 41)⟩,
    ⟨some 43, some (40, true), .bin .leq (.s 42) (.c (.t (.int .i64 64)))⟩,
    ⟨some 44, none, .pick (.s 40) (.s 43) (.c (.t (.bool false)))⟩,
    ⟨some 36, none, .mv (.s 44)⟩] [] [0, 1, 5, 36]) c116_41)
def c116_43 : ACode :=
  (.cond (.s 31) c116_39 c116_42)
def c116_44 : ACode :=
  (.seq (.region false [⟨some 32, none, .mv (.s 5)⟩,
    ⟨some 33, none, .mv (.s 0)⟩,
    ⟨some 34, none, .lens (.s 33)⟩,
    ⟨some 35, none, .bin .geq (.s 32) (.s 34)⟩,
    ⟨some 31, none, .mv (.s 35)⟩] [] [0, 1, 5, 31]) c116_43)
def c116_45 : ACode :=
  (.cond (.s 24) c116_38 c116_44)
def c116_46 : ACode :=
  (.seq (.region false [⟨some 25, none, .mv (.s 5)⟩,
    ⟨some 26, none, .bin .eql (.s 25) (.c (.t (.int .i64 1)))⟩,
    ⟨some 24, none, .mv (.s 26)⟩] [] [0, 1, 5, 24]) c116_45)
def c116_47 : ACode :=
  (.cond (.s 16) c116_37 c116_46)
def c116_48 : ACode :=
  (.seq (.region false [⟨some 17, none, .mv (.s 5)⟩,
    ⟨some 18, none, .bin .eql (.s 17) (.c (.t (.int .i64 0)))⟩,
    ⟨some 19, none, .mv (.s 18)⟩,
    ⟨some 20, some (19, false), .mv (.s 1)⟩,
    ⟨some 21, some (19, false), .mv (.s 0)⟩,
    ⟨some 22, some (19, false), .bin .eql (.s 20) (.s 21)⟩,
    ⟨some 23, none, .pick (.s 19) (.c (.t (.bool true))) (.s 22)⟩,
    ⟨some 16, none, .mv (.s 23)⟩] [] [0, 1, 5, 16]) c116_47)
def c116_49 : ACode :=
  (.seq (.block 0 c116_48) c116_36)
def c116_50 : ACode :=
  (.seq (.region false [⟨some 14, none, .mv (.s 1)⟩,
    ⟨some 15, none, .lens (.s 14)⟩,
    ⟨some 5, none, .mv (.s 15)⟩] [] [0, 1, 5]) c116_49)
def c116 : ACode :=
  (.seq (.region false [⟨some 4, none, .cst (.t (.int .i64 0))⟩] [] [0, 1]) c116_50)
def r116 : List ARes := [.tmp 4]
def n116 : Nat := 143
/- 117 supergraph directives.isSet -/
/- 118 supergraph directives.isText -/
/- 119 supergraph directives.isTexts -/
/- 120 supergraph directives.isNumber -/
/- 121 supergraph directives.isTruth -/
/- 122 supergraph supergraphref10.allowed -/
/- 123 supergraph supergraphref10.next -/
/- 124 supergraph supergraphref10.has -/
/- 125 supergraph supergraphref10.Leaf -/
/- 126 slices.Index[[]string,string] -/
def c126_0 : ACode :=
  (.seq (.region false [⟨some 4, none, .cst (.t (.int .i64 (-1)))⟩] [] [4]) .ret)
def c126_1 : ACode :=
  (.region false [⟨some 18, none, .bin .add (.s 8) (.c (.t (.int .i64 1)))⟩,
    ⟨some 8, none, .mv (.s 18)⟩] [] [0, 1, 7, 8])
def c126_2 : ACode :=
  (.seq (.region false [⟨some 17, none, .mv (.s 5)⟩,
    ⟨some 4, none, .mv (.s 17)⟩] [] [4]) .ret)
def c126_3 : ACode :=
  (.cond (.s 16) c126_2 .skip)
def c126_4 : ACode :=
  (.seq (.region false [⟨some 11, none, .mv (.s 1)⟩,
    ⟨some 12, none, .mv (.s 0)⟩,
    ⟨some 13, none, .mv (.s 5)⟩,
    ⟨some 14, none, .ia 1 (.s 12) (.s 13)⟩,
    ⟨some 15, none, .ld false 1 (.s 14)⟩,
    ⟨some 16, none, .bin .eql (.s 11) (.s 15)⟩] [] [0, 1, 5, 7, 8, 16]) c126_3)
def c126_5 : ACode :=
  (.seq (.region false [⟨some 10, none, .mv (.s 8)⟩,
    ⟨some 5, none, .mv (.s 10)⟩] [] [0, 1, 5, 7, 8]) c126_4)
def c126_6 : ACode :=
  (.seq (.block 1 c126_5) c126_1)
def c126_7 : ACode :=
  (.seq (.cond (.s 9) .skip (.exit 0)) c126_6)
def c126_8 : ACode :=
  (.seq (.region false [⟨some 9, none, .bin .lss (.s 8) (.s 7)⟩] [] [0, 1, 7, 8, 9]) c126_7)
def c126_9 : ACode :=
  (.loop c126_8)
def c126_10 : ACode :=
  (.block 0 c126_9)
def c126_11 : ACode :=
  (.seq (.seq (.region false [⟨some 6, none, .mv (.s 0)⟩,
    ⟨some 7, none, .len (.s 6)⟩,
    ⟨some 8, none, .cst (.t (.int .i64 0))⟩] [] [0, 1, 7, 8]) c126_10) c126_0)
def c126 : ACode :=
  (.seq (.region false [⟨some 4, none, .cst (.t (.int .i64 0))⟩] [] [0, 1]) c126_11)
def r126 : List ARes := [.tmp 4]
def n126 : Nat := 19
/- 127 slices.IndexFunc[[]supergraph api.Field,supergraph api.Field] -/
def c127_0 : ACode :=
  (.seq (.region false [⟨some 4, none, .cst (.t (.int .i64 (-1)))⟩] [] [4]) .ret)
def c127_1 : ACode :=
  (.region false [⟨some 18, none, .bin .add (.s 8) (.c (.t (.int .i64 1)))⟩,
    ⟨some 8, none, .mv (.s 18)⟩] [] [0, 1, 7, 8])
def c127_2 : ACode :=
  (.seq (.region false [⟨some 17, none, .mv (.s 5)⟩,
    ⟨some 4, none, .mv (.s 17)⟩] [] [4]) .ret)
def c127_3 : ACode :=
  (.cond (.s 16) c127_2 .skip)
def c127_4 : ACode :=
  (.seq (.region false [⟨some 11, none, .mv (.s 1)⟩,
    ⟨some 12, none, .mv (.s 0)⟩,
    ⟨some 13, none, .mv (.s 5)⟩,
    ⟨some 14, none, .ia 5 (.s 12) (.s 13)⟩,
    ⟨some 15, none, .ld true 5 (.s 14)⟩,
    ⟨some 16, none, .callv (.s 11) [(.s 15)]⟩] [] [0, 1, 5, 7, 8, 16]) c127_3)
def c127_5 : ACode :=
  (.seq (.region false [⟨some 10, none, .mv (.s 8)⟩,
    ⟨some 5, none, .mv (.s 10)⟩] [] [0, 1, 5, 7, 8]) c127_4)
def c127_6 : ACode :=
  (.seq (.block 1 c127_5) c127_1)
def c127_7 : ACode :=
  (.seq (.cond (.s 9) .skip (.exit 0)) c127_6)
def c127_8 : ACode :=
  (.seq (.region false [⟨some 9, none, .bin .lss (.s 8) (.s 7)⟩] [] [0, 1, 7, 8, 9]) c127_7)
def c127_9 : ACode :=
  (.loop c127_8)
def c127_10 : ACode :=
  (.block 0 c127_9)
def c127_11 : ACode :=
  (.seq (.seq (.region false [⟨some 6, none, .mv (.s 0)⟩,
    ⟨some 7, none, .len (.s 6)⟩,
    ⟨some 8, none, .cst (.t (.int .i64 0))⟩] [] [0, 1, 7, 8]) c127_10) c127_0)
def c127 : ACode :=
  (.seq (.region false [⟨some 4, none, .cst (.t (.int .i64 0))⟩] [] [0, 1]) c127_11)
def r127 : List ARes := [.tmp 4]
def n127 : Nat := 19
/- 128 slices.IndexFunc[[][]string,[]string] -/
def c128_0 : ACode :=
  (.seq (.region false [⟨some 4, none, .cst (.t (.int .i64 (-1)))⟩] [] [4]) .ret)
def c128_1 : ACode :=
  (.region false [⟨some 18, none, .bin .add (.s 8) (.c (.t (.int .i64 1)))⟩,
    ⟨some 8, none, .mv (.s 18)⟩] [] [0, 1, 7, 8])
def c128_2 : ACode :=
  (.seq (.region false [⟨some 17, none, .mv (.s 5)⟩,
    ⟨some 4, none, .mv (.s 17)⟩] [] [4]) .ret)
def c128_3 : ACode :=
  (.cond (.s 16) c128_2 .skip)
def c128_4 : ACode :=
  (.seq (.region false [⟨some 11, none, .mv (.s 1)⟩,
    ⟨some 12, none, .mv (.s 0)⟩,
    ⟨some 13, none, .mv (.s 5)⟩,
    ⟨some 14, none, .ia 1 (.s 12) (.s 13)⟩,
    ⟨some 15, none, .ld false 1 (.s 14)⟩,
    ⟨some 16, none, .callv (.s 11) [(.s 15)]⟩] [] [0, 1, 5, 7, 8, 16]) c128_3)
def c128_5 : ACode :=
  (.seq (.region false [⟨some 10, none, .mv (.s 8)⟩,
    ⟨some 5, none, .mv (.s 10)⟩] [] [0, 1, 5, 7, 8]) c128_4)
def c128_6 : ACode :=
  (.seq (.block 1 c128_5) c128_1)
def c128_7 : ACode :=
  (.seq (.cond (.s 9) .skip (.exit 0)) c128_6)
def c128_8 : ACode :=
  (.seq (.region false [⟨some 9, none, .bin .lss (.s 8) (.s 7)⟩] [] [0, 1, 7, 8, 9]) c128_7)
def c128_9 : ACode :=
  (.loop c128_8)
def c128_10 : ACode :=
  (.block 0 c128_9)
def c128_11 : ACode :=
  (.seq (.seq (.region false [⟨some 6, none, .mv (.s 0)⟩,
    ⟨some 7, none, .len (.s 6)⟩,
    ⟨some 8, none, .cst (.t (.int .i64 0))⟩] [] [0, 1, 7, 8]) c128_10) c128_0)
def c128 : ACode :=
  (.seq (.region false [⟨some 4, none, .cst (.t (.int .i64 0))⟩] [] [0, 1]) c128_11)
def r128 : List ARes := [.tmp 4]
def n128 : Nat := 19
/- 129 unicode utf8.decodeRuneInStringSlow -/
/- 130 internal stringslite.IndexByte -/
def c130_0 : ACode :=
  (.seq (.region false [⟨some 5, none, .mv (.s 0)⟩,
    ⟨some 6, none, .mv (.s 1)⟩,
    ⟨some 7, none, .nw (.xtr false (.s 5) (.s 6))⟩,
    ⟨some 4, none, .mv (.s 7)⟩] [] [4]) .ret)
def c130 : ACode :=
  (.seq (.region false [⟨some 4, none, .cst (.t (.int .i64 0))⟩] [] [0, 1]) c130_0)
def r130 : List ARes := [.tmp 4]
def n130 : Nat := 8
/- 132 internal bytealg.Cutover -/
/- 133 internal bytealg.IndexRabinKarp[string] -/
/- 134 supergraph supergraphref10.direct -/
/- 136 internal bytealg.hashStr[string] -/
end Go.GB.C11


/-
  D11A: contracts of chapter 11's functions: finding definitions and fields, lists of names.
-/
namespace Go.GB.C11
open Go.GB
set_option linter.unusedSimpArgs false
set_option linter.unusedVariables false
set_option maxRecDepth 100000
set_option maxHeartbeats 2000000
structure Pr (P : Program) : Prop where
  mixed : P.follows .mixedOrders = true
  i107 : fnInfo P 107 = some (n107, c107.bare, r107)
  i65 : fnInfo P 65 = some (n65, c65.bare, r65)
  i126 : fnInfo P 126 = some (n126, c126.bare, r126)
  i66 : fnInfo P 66 = some (n66, c66.bare, r66)
  i105 : fnInfo P 105 = some (n105, c105.bare, r105)

variable {P : Program}

def findDef (n : Str) : List Def → Option Def
  | [] => none
  | d :: r => if (d.name == n) = true then some d else findDef n r
theorem findDef_mem {n : Str} : ∀ {l : List Def} {d : Def}, findDef n l = some d → d ∈ l
  | [], d, h => by simp [findDef] at h
  | x :: r, d, h => by
    simp only [findDef] at h
    split at h
    · cases h; exact List.mem_cons_self ..
    · exact List.mem_cons_of_mem _ (findDef_mem h)
def findField (n : Str) : List Field → Option Field
  | [] => none
  | d :: r => if (d.name == n) = true then some d else findField n r
theorem findField_mem {n : Str} : ∀ {l : List Field} {d : Field}, findField n l = some d → d ∈ l
  | [], d, h => by simp [findField] at h
  | x :: r, d, h => by
    simp only [findField] at h
    split at h
    · cases h; exact List.mem_cons_self ..
    · exact List.mem_cons_of_mem _ (findField_mem h)
theorem find_ok (H : Pr P) (ds : List Def) (hl : ds.length ≤ 140737488355328) (n : Str) : FnOk P 65 [docV ds, .t (.str n)] ⟨[], 0⟩ { v := .tup [((findDef n ds).getD Def.zero).v, .t (.bool (findDef n ds).isSome)] } := by
  refine FnOk.run H.i65 H.mixed rfl rfl ?_
  refine fR rfl ?_
  refine lM rfl rfl rfl ?_
  refine fM rfl ?_
  refine rList ds (fun i (_ : Unit) => { env := [(1, .t (.str n)), (4, .ptr 1 0), (9, .t (.lst (ds.map Def.enc))), (10, .t (.int .i64 ds.length)), (11, .t (.int .i64 i))], s := ⟨[(1, .cells [.t (.int .i64 0), .t (.str []), .nils, .nils, .nils, .nils, .nils])], 2⟩ }) (fun r i _ => findDef n ds = findDef n r) 2 () rfl rfl rfl rfl rfl ?_ ?_
  · intro _ hinv
    refine fR rfl ?_
    refine Run.condF rfl rfl (by simp) ?_
    refine fR rfl ?_
    have e : findDef n ds = none := by rw [hinv]; rfl
    rw [e]
    refine Run.fin rfl (EndOk.go ?_); exact .tup2 (.agg (.cons (.t rfl) (.cons (.t rfl) (.cons (.nil rfl) (.cons (.nil rfl) (.cons (.nil rfl) (.cons (.nil rfl) (.cons (.nil rfl) .nil)))))))) (.t rfl)
  · intro i x r _ h1 hi hd hinv ih
    refine fR rfl ?_
    refine Run.condT rfl rfl (by simp; omega) ?_
    refine fR rfl ?_
    refine Mid.elemMap rfl rfl rfl h1 rfl rfl ?_
    refine fM rfl ?_
    refine Run.cond rfl rfl (fun h => ?_) (fun h => ?_)
    · refine fR rfl ?_
      have e : findDef n ds = some x := by rw [hinv]; simp only [findDef]; rw [if_pos h]
      rw [e]
      refine Run.fin rfl (EndOk.go ?_); exact .tup2 (.le (.same rfl)) (.t rfl)
    · refine fR rfl ?_
      refine aL rfl rfl rfl rfl rfl ?_
      refine fM rfl ?_
      have h' : ¬ (x.name == n) = true := by rw [h]; simp
      exact rWeak 2 rfl (ih () (by rw [hinv]; simp only [findDef]; rw [if_neg h'])) rfl rfl rfl

theorem fieldOf_ok (H : Pr P) (d : Def) (hl : d.fields.length ≤ 140737488355328) (n : Str) : FnOk P 66 [d.v, .t (.str n)] ⟨[], 0⟩ { v := .tup [((findField n d.fields).getD Field.zero).v, .t (.bool (findField n d.fields).isSome)] } := by
  refine FnOk.run H.i66 H.mixed rfl rfl ?_
  refine fR rfl ?_
  refine lM rfl rfl rfl ?_
  refine fM rfl ?_
  refine rList d.fields (fun i (_ : Unit) => { env := [(1, .t (.str n)), (4, .ptr 1 0), (9, .t (.lst ((d.fields).map Field.enc))), (10, .t (.int .i64 (d.fields).length)), (11, .t (.int .i64 i))], s := ⟨[(1, .cells [.t (.str []), .nils, .t (.str []), .nils, .nils])], 2⟩ }) (fun r i _ => findField n (d.fields) = findField n r) 2 () rfl rfl rfl rfl rfl ?_ ?_
  · intro _ hinv
    refine fR rfl ?_
    refine Run.condF rfl rfl (by simp) ?_
    refine fR rfl ?_
    have e : findField n (d.fields) = none := by rw [hinv]; rfl
    rw [e]
    refine Run.fin rfl (EndOk.go ?_); exact .tup2 (.agg (.cons (.t rfl) (.cons (.nil rfl) (.cons (.t rfl) (.cons (.nil rfl) (.cons (.nil rfl) .nil)))))) (.t rfl)
  · intro i x r _ h1 hi hd hinv ih
    refine fR rfl ?_
    refine Run.condT rfl rfl (by simp; omega) ?_
    refine fR rfl ?_
    refine Mid.elemMap rfl rfl rfl h1 rfl rfl ?_
    refine fM rfl ?_
    refine Run.cond rfl rfl (fun h => ?_) (fun h => ?_)
    · refine fR rfl ?_
      have e : findField n (d.fields) = some x := by rw [hinv]; simp only [findField]; rw [if_pos h]
      rw [e]
      refine Run.fin rfl (EndOk.go ?_); exact .tup2 (.le (.same rfl)) (.t rfl)
    · refine fR rfl ?_
      refine aL rfl rfl rfl rfl rfl ?_
      refine fM rfl ?_
      have h' : ¬ (x.name == n) = true := by rw [h]; simp
      exact rWeak 2 rfl (ih () (by rw [hinv]; simp only [findField]; rw [if_neg h'])) rfl rfl rfl

def indexS (s : Str) : List Str → Int → Int
  | [], _ => -1
  | x :: r, i => if (s == x) = true then i else indexS s r (i + 1)
theorem index_ok (H : Pr P) (l : List Str) (hl : l.length ≤ 140737488355328) (s : Str) : FnOk P 126 [.t (.lst (l.map sE)), .t (.str s)] ⟨[], 0⟩ { v := .t (.int .i64 (indexS s l 0)) } := by
  refine FnOk.run H.i126 H.mixed rfl rfl ?_
  refine fR rfl ?_
  refine lM rfl rfl rfl ?_
  refine fM rfl ?_
  refine rList l (fun i (_ : Unit) => { env := [(0, .t (.lst (l.map sE))), (1, .t (.str s)), (7, .t (.int .i64 l.length)), (8, .t (.int .i64 i))], s := ⟨[], 0⟩ }) (fun r i _ => indexS s l 0 = indexS s r i) 0 () rfl rfl rfl rfl rfl ?_ ?_
  · intro _ hinv
    refine fR rfl ?_
    refine Run.condF rfl rfl (by simp) ?_
    refine fR rfl ?_
    refine Run.fin rfl (EndOk.go ?_); exact .t (by rw [hinv]; simp [indexS])
  · intro i x r _ h1 hi hd hinv ih
    refine fR rfl ?_
    refine Run.condT rfl rfl (by simp; omega) ?_
    refine fR rfl ?_
    refine Mid.elemMap rfl rfl rfl h1 rfl rfl ?_
    refine fM rfl ?_
    refine Run.cond rfl rfl (fun h => ?_) (fun h => ?_)
    · refine fR rfl ?_
      refine Run.fin rfl (EndOk.go ?_); exact .t (by rw [hinv]; simp only [indexS]; rw [if_pos h])
    · refine fR rfl ?_
      refine aL rfl rfl rfl rfl rfl ?_
      refine fM rfl ?_
      have h' : ¬ (s == x) = true := by rw [h]; simp
      exact rWeak 0 rfl (ih () (by rw [hinv]; simp only [indexS]; rw [if_neg h']; rfl)) rfl rfl rfl

theorem index_mem (s : Str) : ∀ (l : List Str) (i : Int), 0 ≤ i → (decide (indexS s l i ≥ 0)) = decide (s ∈ l)
  | [], i, _ => by simp [indexS]
  | x :: r, i, hi => by
    by_cases h : s = x
    · subst h; simp [indexS, hi]
    · have h' : ¬ (s == x) = true := by simpa using h
      have e : indexS s (x :: r) i = indexS s r (i + 1) := by simp only [indexS]; rw [if_neg h']
      rw [e, index_mem s r (i + 1) (by omega)]; simp [h]

theorem contains_ok (H : Pr P) (l : List Str) (hl : l.length ≤ 140737488355328) (s : Str) : FnOk P 107 [.t (.lst (l.map sE)), .t (.str s)] ⟨[], 0⟩ { v := .t (.bool (decide (s ∈ l))) } := by
  refine FnOk.run H.i107 H.mixed rfl rfl ?_
  refine fR rfl ?_
  refine Mid.call (index_ok H l hl s) rfl rfl rfl rfl ?_
  refine fM rfl ?_
  refine Run.fin rfl (EndOk.go ?_); exact .t (by rw [← index_mem s l 0 (by omega)])

end Go.GB.C11


/-
  D11B: contracts of chapter 11's functions: Possible.
-/
namespace Go.GB.C11
open Go.GB
set_option linter.unusedSimpArgs false
set_option linter.unusedVariables false
set_option maxRecDepth 100000
set_option maxHeartbeats 2000000
variable {P : Program}

end Go.GB.C11


/-
  D11C: contracts of chapter 11's functions: Possible of the program.
-/
namespace Go.GB.C11
open Go.GB
set_option linter.unusedSimpArgs false
set_option linter.unusedVariables false
set_option maxRecDepth 100000
set_option maxHeartbeats 2000000
variable {P : Program}

def hasK (M : List (Str × Bool)) (k : Str) : Bool := (kget k M).isSome
/-- keys apart, all true -/
structure MOk (M : List (Str × Bool)) : Prop where
  nd : (M.map (·.1)).Nodup
  tr : ∀ e, e ∈ M → e.2 = true
theorem MOk.nil : MOk [] := ⟨by simp, by simp⟩
theorem hasK_mem {M : List (Str × Bool)} {k : Str} (h : hasK M k = true) : ∃ e, e ∈ M ∧ e.1 = k := by
  unfold hasK at h
  induction M with
  | nil => simp [kget] at h
  | cons a r ih =>
    simp only [kget] at h
    split at h
    · rename_i e; exact ⟨a, List.mem_cons_self .., e.symm⟩
    · obtain ⟨e, h1, h2⟩ := ih h; exact ⟨e, List.mem_cons_of_mem _ h1, h2⟩
theorem kdrop_at {κ ν : Type} [DecidableEq κ] {e : κ × ν} : ∀ {l : List (κ × ν)} {i : Nat}, l[i]? = some e → (l.map (·.1)).Nodup → kdrop e.1 l = l.eraseIdx i
  | [], i, h, _ => by simp at h
  | w :: r, 0, h, hn => by simp at h; subst h; simp [kdrop]
  | w :: r, i + 1, h, hn => by
    simp only [List.map_cons, List.nodup_cons] at hn
    have h' : r[i]? = some e := by simpa using h
    have hne : ¬ e.1 = w.1 := fun heq => hn.1 (List.mem_map.2 ⟨e, List.mem_of_getElem? h', heq⟩)
    simp [kdrop, hne, kdrop_at h' hn.2]
theorem hasK_erase {M : List (Str × Bool)} (hM : MOk M) {e : Str × Bool} {i : Nat} (h : M[i]? = some e) (k : Str) : hasK (M.eraseIdx i) k = (hasK M k && !(k == e.1)) := by
  unfold hasK
  rw [← kdrop_at h hM.nd, kget_kdrop hM.nd]
  by_cases hk : k = e.1
  · simp [hk]
  · simp [hk]
theorem MOk.sub {M M' : List (Str × Bool)} (h : MOk M) (hs : M'.Sublist M) : MOk M' :=
  ⟨h.nd.sublist (hs.map _), fun e he => h.tr e (hs.subset he)⟩
theorem nodup_at : ∀ {bs : List Nat} {i j s : Nat}, bs.Nodup → bs[i]? = some s → bs[j]? = some s → i = j
  | [], i, j, s, _, h, _ => by simp at h
  | b :: r, 0, 0, s, _, _, _ => rfl
  | b :: r, 0, j + 1, s, hn, h1, h2 => by
    simp at h1; subst h1
    exact absurd (List.mem_of_getElem? (by simpa using h2)) (List.nodup_cons.1 hn).1
  | b :: r, i + 1, 0, s, hn, h1, h2 => by
    simp at h2; subst h2
    exact absurd (List.mem_of_getElem? (by simpa using h1)) (List.nodup_cons.1 hn).1
  | b :: r, i + 1, j + 1, s, hn, h1, h2 => by
    exact congrArg (· + 1) (nodup_at (List.nodup_cons.1 hn).2 (by simpa using h1) (by simpa using h2))
theorem zip_erase {α β : Type} : ∀ (l : List α) (r : List β) (i : Nat), (l.eraseIdx i).zip (r.eraseIdx i) = (l.zip r).eraseIdx i
  | [], r, i => by simp
  | a :: l, [], i => by cases i <;> simp
  | a :: l, b :: r, 0 => by simp
  | a :: l, b :: r, i + 1 => by simp [zip_erase l r i]

/-- what the loop along the map keeps -/
structure Lp (M : List (Str × Bool)) (bad : Str → Bool) (b : List (Str × Bool) × List Nat × List Nat) : Prop where
  ok : MOk b.1
  len : b.2.1.length = b.1.length
  nd : b.2.1.Nodup
  i1 : ∀ k, hasK b.1 k = true → hasK M k = true
  i2 : ∀ k, hasK M k = true → bad k = false → hasK b.1 k = true
  i3 : ∀ p, p ∈ b.1.zip b.2.1 → p.2 ∈ b.2.2 → bad p.1.1 = false
theorem Lp.keep {M : List (Str × Bool)} {bad : Str → Bool} {L : List (Str × Bool)} {bs seen : List Nat} (h : Lp M bad (L, bs, seen)) {i s : Nat} {e : Str × Bool} (he : L[i]? = some e) (hs : bs[i]? = some s) (hb : bad e.1 = false) : Lp M bad (L, bs, seen ++ [s]) := by
  refine ⟨h.ok, h.len, h.nd, h.i1, h.i2, fun p hp hps => ?_⟩
  rcases List.mem_append.1 hps with hps | hps
  · exact h.i3 p hp hps
  · simp at hps
    obtain ⟨j, hj⟩ := List.mem_iff_getElem?.1 hp
    obtain ⟨h1, h2⟩ := List.getElem?_zip_eq_some.1 hj
    rw [hps] at h2
    have := nodup_at h.nd hs h2
    subst this
    simp only at h1
    rw [he] at h1; simp at h1; rw [← h1]; exact hb
theorem Lp.drop {M : List (Str × Bool)} {bad : Str → Bool} {L : List (Str × Bool)} {bs seen : List Nat} (h : Lp M bad (L, bs, seen)) {i s : Nat} {e : Str × Bool} (he : L[i]? = some e) (hs : bs[i]? = some s) (hb : bad e.1 = true) : Lp M bad (L.eraseIdx i, bs.eraseIdx i, seen ++ [s]) := by
  have hlen : bs.length = L.length := h.len
  have hok : MOk L := h.ok
  refine ⟨hok.sub (List.eraseIdx_sublist ..), by show (bs.eraseIdx i).length = (L.eraseIdx i).length; rw [List.length_eraseIdx, List.length_eraseIdx, hlen], List.Nodup.sublist (List.eraseIdx_sublist ..) h.nd, fun k hk => ?_, fun k hk hkb => ?_, fun p hp hps => ?_⟩
  · have hk' : hasK (L.eraseIdx i) k = true := hk
    rw [hasK_erase hok he] at hk'
    simp at hk'
    exact h.i1 k hk'.1
  · show hasK (L.eraseIdx i) k = true
    rw [hasK_erase hok he]
    have h1 := h.i2 k hk hkb
    have hne : ¬ k = e.1 := by rintro rfl; rw [hb] at hkb; cases hkb
    simp [hne]; exact h1
  · have hp' : p ∈ (L.zip bs).eraseIdx i := by rw [← zip_erase]; exact hp
    have hpm : p ∈ L.zip bs := (List.eraseIdx_sublist ..).subset hp'
    rcases List.mem_append.1 hps with hps | hps
    · exact h.i3 p hpm hps
    · exfalso
      simp at hps
      have hz : (bs.eraseIdx i) = ((L.zip bs).eraseIdx i).map (·.2) := by
        rw [← zip_erase]
        rw [List.map_snd_zip (by rw [List.length_eraseIdx, List.length_eraseIdx, hlen]; exact Nat.le_refl _)]
      have hmem : s ∈ bs.eraseIdx i := by rw [hz, ← hps]; exact List.mem_map.2 ⟨p, hp', rfl⟩
      obtain ⟨j, hj⟩ := List.mem_iff_getElem?.1 hmem
      rw [List.getElem?_eraseIdx] at hj
      split at hj
      · have := nodup_at h.nd hs hj; omega
      · have := nodup_at h.nd hs hj; omega
theorem Lp.last {M : List (Str × Bool)} {bad : Str → Bool} {L : List (Str × Bool)} {bs seen : List Nat} (h : Lp M bad (L, bs, seen)) (hall : ∀ s, s ∈ bs → s ∈ seen) (k : Str) : hasK L k = (hasK M k && !(bad k)) := by
  have hlen : bs.length = L.length := h.len
  by_cases hk : hasK L k = true
  · obtain ⟨e, he, rfl⟩ := hasK_mem hk
    obtain ⟨i, hi⟩ := List.mem_iff_getElem?.1 he
    have hil : i < bs.length := by rw [hlen]; exact (List.getElem?_eq_some_iff.1 hi).1
    have hz : (L.zip bs)[i]? = some (e, bs[i]) := List.getElem?_zip_eq_some.2 ⟨hi, by simp [hil]⟩
    have := h.i3 (e, bs[i]) (List.mem_of_getElem? hz) (hall _ (by simp))
    have h1 := h.i1 e.1 hk
    simp only at this
    rw [hk, h1, this]; rfl
  · have hk' : hasK L k = false := by simpa using hk
    rw [hk']
    by_cases h1 : hasK M k = true
    · by_cases h2 : bad k = false
      · exact absurd (h.i2 k h1 h2) hk
      · have : bad k = true := by simpa using h2
        simp [this]
    · have : hasK M k = false := by simpa using h1
      simp [this]
end Go.GB.C11


/-
  D11D: contracts of chapter 11's functions: Possible of the program.
-/
namespace Go.GB.C11
open Go.GB
set_option linter.unusedSimpArgs false
set_option linter.unusedVariables false
set_option maxRecDepth 100000
set_option maxHeartbeats 2000000
variable {P : Program}

end Go.GB.C11


/-
  D11E: contracts of chapter 11's functions: types of fields (typeref), Is, Sub.
-/
namespace Go.GB.C11
open Go.GB
set_option linter.unusedSimpArgs false
set_option linter.unusedVariables false
set_option maxRecDepth 100000
set_option maxHeartbeats 2000000
variable {P : Program}

/- wrappers -/
end Go.GB.C11


/-
  D11F: contracts of chapter 11's functions: lists among types, Is, Sub.
-/
namespace Go.GB.C11
open Go.GB
set_option linter.unusedSimpArgs false
set_option linter.unusedVariables false
set_option maxRecDepth 100000
set_option maxHeartbeats 2000000
variable {P : Program}

end Go.GB.C11


/-
  D11G: contracts of chapter 11's functions: Sub of the reference, Overlap, Strings.
-/
namespace Go.GB.C11
open Go.GB
set_option linter.unusedSimpArgs false
set_option linter.unusedVariables false
set_option maxRecDepth 100000
set_option maxHeartbeats 2000000
variable {P : Program}

end Go.GB.C11


/-
  D11H: contracts of chapter 11's functions: Overlap, lists that are compared, names.
-/
namespace Go.GB.C11
open Go.GB
set_option linter.unusedSimpArgs false
set_option linter.unusedVariables false
set_option maxRecDepth 100000
set_option maxHeartbeats 2000000
variable {P : Program}

/- lists that are compared -/
theorem drop_at {α : Type} {l : List α} {i : Nat} {y : α} (h : l[i]? = some y) : l.drop i = y :: l.drop (i + 1) := by
  obtain ⟨hi, hy⟩ := List.getElem?_eq_some_iff.1 h
  rw [List.drop_eq_getElem_cons hi, hy]
theorem at_of_len {α β : Type} {a : List α} {b : List β} (h : a.length = b.length) {i : Nat} (hi : i < a.length) : ∃ y, b[i]? = some y := ⟨b[i]'(by omega), by simp [show i < b.length by omega]⟩
structure Fault where
  err : Int
  at_ : Str
instance : DecidableEq Fault := fun a b => decidable_of_iff (a.err = b.err ∧ a.at_ = b.at_) (by cases a; cases b; simp)
def Fault.enc (f : Fault) : List T := [.int .i64 f.err, .str f.at_]
end Go.GB.C11


/-
  D11I: contracts of chapter 11's functions: Large, right types, Fits.
-/
namespace Go.GB.C11
open Go.GB
set_option linter.unusedSimpArgs false
set_option linter.unusedVariables false
set_option maxRecDepth 100000
set_option maxHeartbeats 2000000
variable {P : Program}

def scalF (n : Str) : Bool := n == [73, 110, 116] || n == [83, 116, 114, 105, 110, 103] || n == [66, 111, 111, 108, 101, 97, 110] || n == [73, 68]
theorem scalar_ok (H : Pr P) (n : Str) : FnOk P 105 [.t (.str n)] ⟨[], 0⟩ { v := .t (.bool (scalF n)) } := by
  refine FnOk.run H.i105 H.mixed rfl rfl ?_
  refine fR rfl ?_
  refine Run.fin rfl (EndOk.go ?_); exact .t (by simp [scalF])
/- names -/
def letF (c : Int) : Bool := (decide (c ≥ 65) && decide (c ≤ 90)) || (decide (c ≥ 97) && decide (c ≤ 122)) || c == 95
def digF (c : Int) : Bool := decide (c ≥ 48) && decide (c ≤ 57)
def nmOk (first : Bool) : List UInt8 → Bool
  | [] => true
  | c :: r => (letF c.toNat || (!first && digF c.toNat)) && nmOk false r
def nameF (s : Str) : Bool := decide (1 ≤ s.length ∧ s.length ≤ 64) && nmOk true s
/- right types -/
/- lists of lists, Fits -/
end Go.GB.C11


/-
  D11J: contracts of chapter 11's functions: Fits.
-/
namespace Go.GB.C11
open Go.GB
set_option linter.unusedSimpArgs false
set_option linter.unusedVariables false
set_option maxRecDepth 100000
set_option maxHeartbeats 2000000
variable {P : Program}

/- plain law: right types are lists of signs, one for each level -/
inductive RW : List Int → Prop
  | base : RW []
  | nn : RW [1]
  | lst {r : List Int} (h : RW r) : RW (2 :: r)
  | nnl {r : List Int} (h : RW r) : RW (1 :: 2 :: r)
end Go.GB.C11


/-
  D11K: plain law of chapter 11: Sub of right types.
-/
namespace Go.GB.C11
open Go.GB
set_option linter.unusedSimpArgs false
set_option linter.unusedVariables false

end Go.GB.C11


/-
  D11L: contracts of chapter 11's functions: the parts of Faces.
-/
namespace Go.GB.C11
open Go.GB
set_option linter.unusedSimpArgs false
set_option linter.unusedVariables false
set_option maxRecDepth 100000
set_option maxHeartbeats 2000000
variable {P : Program}

def Input.v (x : Input) : V := .agg [.t (.str x.name), .t (.str x.ty.name), .t (.lst (x.ty.wraps.map nE)), .t (.bool x.has), .t (.int .i64 x.dflt.kind), .t (.int .i64 x.dflt.int), .t (.str x.dflt.text), .t (.lst (x.dflt.items.map Val.enc)), .t (.lst (x.dflt.keys.map sE)), .t (.lst (x.dirs.map Dir.enc))]
def Input.zero : Input := ⟨[], ⟨[], []⟩, false, Val.zero, []⟩
theorem Input.zero_ok : Input.zero.Ok := ⟨⟨by decide, by decide⟩, Val.zero_ok, by decide, by simp [Input.zero], by decide⟩
end Go.GB.C11


/-
  D11M: contracts of chapter 11's functions: a type and an interface.
-/
namespace Go.GB.C11
open Go.GB
set_option linter.unusedSimpArgs false
set_option linter.unusedVariables false
set_option maxRecDepth 100000
set_option maxHeartbeats 2000000
variable {P : Program}

end Go.GB.C11


/-
  D11N: contracts of chapter 11's functions: Faces.
-/
namespace Go.GB.C11
open Go.GB
set_option linter.unusedSimpArgs false
set_option linter.unusedVariables false
set_option maxRecDepth 100000
set_option maxHeartbeats 2000000
variable {P : Program}

end Go.GB.C11


/-
  D11O: contracts of chapter 11's functions: Faces.
-/
namespace Go.GB.C11
open Go.GB
set_option linter.unusedSimpArgs false
set_option linter.unusedVariables false
set_option maxRecDepth 100000
set_option maxHeartbeats 2000000
variable {P : Program}

end Go.GB.C11


/-
  D11P: contracts of chapter 11's functions: the examples.
-/
namespace Go.GB.C11
open Go.GB
set_option linter.unusedSimpArgs false
set_option linter.unusedVariables false
set_option maxRecDepth 100000
set_option maxHeartbeats 2000000
variable {P : Program}

end Go.GB.C11


/-
  D11Q: chapter 11's laws: Possible, Sub, Order.
-/
namespace Go.GB.C11
open Go.GB
set_option linter.unusedSimpArgs false
set_option linter.unusedVariables false
set_option maxRecDepth 100000
set_option maxHeartbeats 2000000
variable {P : Program}

end Go.GB.C11


/-
  D11S: contracts of chapter 11's functions: parts of the schema's check.
-/
namespace Go.GB.C11
open Go.GB
set_option linter.unusedSimpArgs false
set_option linter.unusedVariables false
set_option maxRecDepth 100000
set_option maxHeartbeats 2000000
variable {P : Program}

def resF : Str → Bool
  | a :: b :: _ => (a.toNat : Int) == 95 && (b.toNat : Int) == 95
  | _ => false
end Go.GB.C11


/-
  F23A: directives: rules as data; what the two checks compute is the same.
-/
namespace Go.GB.C23
open Go.GB Go.GB.C11
set_option linter.unusedSimpArgs false
set_option linter.unusedVariables false
set_option maxRecDepth 100000
set_option maxHeartbeats 2000000

/- sets of fields: parts between spaces -/
def splS : Str → List Str
  | [] => [[]]
  | c :: r => if c = 32 then [] :: splS r else match splS r with
    | h :: t => (c :: h) :: t
    | [] => [[c]]
theorem splS_ne : ∀ s : Str, splS s ≠ []
  | [] => by simp [splS]
  | c :: r => by
    unfold splS
    split
    · simp
    · split <;> simp
theorem splS_none : ∀ {s : Str}, ¬ (32 : UInt8) ∈ s → splS s = [s]
  | [], _ => rfl
  | c :: r, h => by
    have h1 : ¬ c = 32 := fun e => h (by rw [e]; exact List.mem_cons_self ..)
    have h2 := splS_none (s := r) fun e => h (List.mem_cons_of_mem _ e)
    unfold splS
    rw [if_neg h1, h2]
theorem splS_app : ∀ {a b : Str}, ¬ (32 : UInt8) ∈ a → splS (a ++ 32 :: b) = a :: splS b
  | [], b, _ => by simp [splS]
  | c :: r, b, h => by
    have h1 : ¬ c = 32 := fun e => h (by rw [e]; exact List.mem_cons_self ..)
    have h2 := splS_app (a := r) (b := b) fun e => h (List.mem_cons_of_mem _ e)
    rw [List.cons_append, splS, if_neg h1, h2]
theorem splS_len : ∀ s : Str, (splS s).length = s.count 32 + 1
  | [] => rfl
  | c :: r => by
    have ih := splS_len r
    unfold splS
    split
    · rename_i h; subst h; simp [ih]
    · rename_i h
      have : ¬ (32 : UInt8) = c := fun e => h e.symm
      have hne := splS_ne r
      cases hs : splS r with
      | nil => exact absurd hs hne
      | cons x t => rw [hs] at ih; simp at ih ⊢; rw [List.count_cons_of_ne h]; omega
theorem splS_mem : ∀ {s p : Str}, p ∈ splS s → p.length ≤ s.length
  | [], p, h => by simp [splS] at h; subst h; simp
  | c :: r, p, h => by
    unfold splS at h
    split at h
    · rcases List.mem_cons.1 h with rfl | h
      · simp
      · have := splS_mem h; simp; omega
    · cases hs : splS r with
      | nil => exact absurd hs (splS_ne r)
      | cons x t =>
        rw [hs] at h
        have hx := splS_mem (s := r) (p := x) (by rw [hs]; exact List.mem_cons_self ..)
        rcases List.mem_cons.1 h with rfl | h
        · simp; omega
        · have := splS_mem (s := r) (p := p) (by rw [hs]; exact List.mem_cons_of_mem _ h); simp; omega

/- rules -/
structure PRule where
  name : Str
  may : Bool
  k : Nat
structure Rule where
  places : Int
  again : Bool
  params : List PRule
def hasD (n : Str) (l : List Dir) : Bool := l.any fun d => d.name == n
def argF (a : Str) : List Arg → Option Val
  | [] => none
  | x :: r => if x.name = a then some x.val else argF a r
def dupS : List Str → List Str → Bool
  | _, [] => false
  | pre, x :: r => decide (x ∈ pre) || dupS (pre ++ [x]) r
def setL (l : List Str) : List Str × Int :=
  if l.any (fun x => !nameF x || resF x) = true then ([], 3)
  else if l.length > 4 then ([], 4)
  else if dupS [] l = true then ([], 7)
  else (l, 0)
def setF (s : Str) : List Str × Int := setL (splS s)
/- the reference's side -/
end Go.GB.C23


/-
  F23B: directives: violations of documents, and their laws.
-/
namespace Go.GB.C23
open Go.GB Go.GB.C11
set_option linter.unusedSimpArgs false
set_option linter.unusedVariables false
set_option maxRecDepth 100000
set_option maxHeartbeats 2000000

/- without the directives of subgraphs -/
end Go.GB.C23


/-
  D11T: contracts of chapter 11's functions: inputs that contain themselves.
-/
namespace Go.GB.C11
open Go.GB
set_option linter.unusedSimpArgs false
set_option linter.unusedVariables false
set_option maxRecDepth 100000
set_option maxHeartbeats 2000000
variable {P : Program}

/- the closure -/
structure LOk (ds : List Def) (nm : Str) (l : List Str) : Prop where
  nd : l.Nodup
  mem : ∀ x, x ∈ l → x ∈ nm :: ds.map (fun o => o.name)
theorem nodup_len {α : Type} [BEq α] [LawfulBEq α] : ∀ {l m : List α}, l.Nodup → (∀ x, x ∈ l → x ∈ m) → l.length ≤ m.length
  | [], _, _, _ => by simp
  | a :: r, m, hn, hs => by
    have ha : a ∈ m := hs a (by simp)
    obtain ⟨hn1, hn2⟩ := List.nodup_cons.1 hn
    have h1 := nodup_len (l := r) (m := m.erase a) hn2 (fun x hx => by
      have hne : x ≠ a := by rintro rfl; exact hn1 hx
      exact (List.mem_erase_of_ne hne).2 (hs x (List.mem_cons_of_mem _ hx)))
    have h2 := List.length_erase_of_mem ha
    have h3 : 0 < m.length := List.length_pos_of_mem ha
    simp only [List.length_cons]; omega
theorem LOk.len {ds : List Def} {nm : Str} {l : List Str} (h : LOk ds nm l) : l.length ≤ ds.length + 1 := by
  have := nodup_len h.nd h.mem
  simpa using this
end Go.GB.C11


/-
  F23C: chapter 23's functions: parts of texts, sets of fields.
-/
namespace Go.GB.C23
open Go.GB Go.GB.C11
set_option linter.unusedSimpArgs false
set_option linter.unusedVariables false
set_option maxRecDepth 100000
set_option maxHeartbeats 2000000
variable {P : Program}

structure Pr23 (P : Program) : Prop extends Pr P where
  i3 : fnInfo P 3 = some (n3, c3.bare, r3)
  i4 : fnInfo P 4 = some (n4, c4.bare, r4)
  i13 : fnInfo P 13 = some (n13, c13.bare, r13)
  i19 : fnInfo P 19 = some (n19, c19.bare, r19)
  i23 : fnInfo P 23 = some (n23, c23.bare, r23)
  i25 : fnInfo P 25 = some (n25, c25.bare, r25)
  i46 : fnInfo P 46 = some (n46, c46.bare, r46)
  i47 : fnInfo P 47 = some (n47, c47.bare, r47)
  i48 : fnInfo P 48 = some (n48, c48.bare, r48)
  i56 : fnInfo P 56 = some (n56, c56.bare, r56)
  i57 : fnInfo P 57 = some (n57, c57.bare, r57)
  i69 : fnInfo P 69 = some (n69, c69.bare, r69)
  i70 : fnInfo P 70 = some (n70, c70.bare, r70)
  i89 : fnInfo P 89 = some (n89, c89.bare, r89)
  i90 : fnInfo P 90 = some (n90, c90.bare, r90)
  i91 : fnInfo P 91 = some (n91, c91.bare, r91)
  i116 : fnInfo P 116 = some (n116, c116.bare, r116)
  i130 : fnInfo P 130 = some (n130, c130.bare, r130)

/- names -/
def okB (b : UInt8) : Bool := letF b.toNat || digF b.toNat
theorem nmOk_all : ∀ (s : Str), nmOk false s = s.all okB
  | [] => rfl
  | c :: r => by simp [nmOk, okB, nmOk_all r]
theorem let_dig (c : Int) (h : digF c = true) : letF c = false := by
  unfold digF at h; unfold letF
  simp only [Bool.and_eq_true, decide_eq_true_eq] at h
  have h1 : ¬ c ≥ 65 := by omega
  have h2 : ¬ c ≥ 97 := by omega
  have h3 : ¬ c = 95 := by omega
  simp [h1, h2, h3]
theorem nameF_eq (s : Str) : nameF s = (decide (1 ≤ s.length ∧ s.length ≤ 64) && (!(match s with | [] => false | c :: _ => digF c.toNat) && s.all okB)) := by
  unfold nameF
  cases s with
  | nil => rfl
  | cons c r =>
    simp only [nmOk, nmOk_all, List.all_cons, okB]
    cases hd : digF c.toNat with
    | false => simp
    | true => rw [let_dig _ hd]; simp
theorem tname_ok (H : Pr23 P) (s : Str) (hs : s.length ≤ 140737488355328) : FnOk P 47 [.t (.str s)] ⟨[], 0⟩ { v := .t (.bool (nameF s)) } := by
  cases s with
  | nil =>
    refine FnOk.run H.i47 H.mixed rfl rfl ?_
    refine fR rfl ?_
    refine Mid.grdF rfl rfl rfl rfl rfl ?_
    refine Mid.grdF rfl rfl rfl rfl rfl ?_
    refine fM rfl ?_
    refine Mid.grdF rfl rfl rfl rfl rfl ?_
    refine Mid.grdF rfl rfl rfl rfl rfl ?_
    refine Mid.grdF rfl rfl rfl rfl rfl ?_
    refine fM rfl ?_
    refine Run.condT rfl rfl rfl ?_
    refine fR rfl ?_
    refine Run.fin rfl (EndOk.go ?_); exact .t rfl
  | cons c r =>
    have e := nameF_eq (c :: r)
    simp only at e
    refine FnOk.run H.i47 H.mixed rfl rfl ?_
    refine fR rfl ?_
    refine gr rfl ?_
    refine fM rfl ?_
    refine gr rfl ?_
    refine fM rfl ?_
    refine Run.cond rfl rfl (fun h => ?_) (fun h => ?_)
    · refine fR rfl ?_
      have h' : decide (((c :: r).length : Int) > 64) = true ∨ digF c.toNat = true := by
        unfold digF
        simpa using h
      refine Run.fin rfl (EndOk.go ?_); exact .t (by
        rw [e]
        rcases h' with h' | h'
        · have : ¬ (1 ≤ (c :: r).length ∧ (c :: r).length ≤ 64) := by
            have := of_decide_eq_true h'
            omega
          rw [decide_eq_false this]; rfl
        · rw [h']; simp)
    · have hl : (c :: r).length ≤ 64 ∧ digF c.toNat = false := by
        unfold digF
        simp only [Bool.or_eq_false_iff] at h
        refine ⟨?_, h.2⟩
        have := of_decide_eq_false h.1.2
        omega
      have e2 : nameF (c :: r) = (c :: r).all okB := by
        rw [e, hl.2, decide_eq_true ⟨by simp, hl.1⟩]; rfl
      refine fR rfl ?_
      refine rList (c :: r) (fun i (_ : Unit) => { env := [(0, .t (.str (c :: r))), (23, .t (.int .i64 (c :: r).length)), (24, .t (.int .i64 i))], s := ⟨[], 0⟩ }) (fun r' i _ => (c :: r).all okB = r'.all okB) 0 () rfl rfl rfl rfl rfl ?_ ?_
      · intro _ hinv
        refine fR rfl ?_
        refine Run.condF rfl rfl (by simp) ?_
        refine fR rfl ?_
        refine Run.fin rfl (EndOk.go ?_); exact .t (by rw [e2, hinv]; rfl)
      · intro i b r' _ h1 hi hd hinv ih
        refine fR rfl ?_
        refine Run.condT rfl rfl (by simp at hi ⊢; omega) ?_
        refine fR rfl ?_
        refine Mid.byte rfl rfl h1 rfl ?_
        refine fM rfl ?_
        have ho : ((((decide ((b.toNat : Int) ≥ 97) && decide ((b.toNat : Int) ≤ 122)) || (decide ((b.toNat : Int) ≥ 65) && decide ((b.toNat : Int) ≤ 90))) || (decide ((b.toNat : Int) ≥ 48) && decide ((b.toNat : Int) ≤ 57))) || (b.toNat : Int) == 95) = okB b := by
          unfold okB letF digF
          generalize (decide ((b.toNat : Int) ≥ 97) && decide ((b.toNat : Int) ≤ 122)) = x1
          generalize (decide ((b.toNat : Int) ≥ 65) && decide ((b.toNat : Int) ≤ 90)) = x2
          generalize (decide ((b.toNat : Int) ≥ 48) && decide ((b.toNat : Int) ≤ 57)) = x3
          generalize ((b.toNat : Int) == 95) = x4
          cases x1 <;> cases x2 <;> cases x3 <;> cases x4 <;> rfl
        refine Run.cond rfl rfl (fun hc => ?_) (fun hc => ?_)
        · have hc' : okB b = false := by rw [ho] at hc; simpa using hc
          refine fR rfl ?_
          refine Run.fin rfl (EndOk.go ?_); exact .t (by rw [e2, hinv, List.all_cons, hc']; rfl)
        · have hc' : okB b = true := by rw [ho] at hc; simpa using hc
          refine fR rfl ?_
          refine aL rfl rfl rfl rfl rfl ?_
          refine fM rfl ?_
          exact rWeak 0 rfl (ih () (by rw [hinv, List.all_cons, hc']; rfl)) rfl rfl rfl
theorem hasPre_ok (H : Pr23 P) (s : Str) (hs : s.length ≤ 140737488355328) : FnOk P 91 [.t (.str s), .t (.str [95, 95])] ⟨[], 0⟩ { v := .t (.bool (resF s)) } := by
  match s, hs with
  | [], _ =>
    refine FnOk.run H.i91 H.mixed rfl rfl ?_
    refine fR rfl ?_
    refine gr rfl ?_
    refine fM rfl ?_
    skip
    refine Run.fin rfl (EndOk.go ?_); exact .t rfl
  | [a], _ =>
    refine FnOk.run H.i91 H.mixed rfl rfl ?_
    refine fR rfl ?_
    refine gr rfl ?_
    refine fM rfl ?_
    skip
    refine Run.fin rfl (EndOk.go ?_); exact .t rfl
  | a :: b :: r, hs =>
    refine FnOk.run H.i91 H.mixed rfl rfl ?_
    refine fR rfl ?_
    refine gr rfl ?_
    refine fM rfl ?_
    have e : (a :: b :: r : Str).take 2 = [a, b] := rfl
    refine Run.fin rfl (EndOk.go ?_); exact .t (by
      have h2 : ((a.toNat : Int) == 95) = (a == 95) := by
        rw [Bool.eq_iff_iff, beq_iff_eq, beq_iff_eq]
        exact ⟨fun h => UInt8.toNat_inj.1 (by have : a.toNat = 95 := by omega
                                              exact this), fun h => by rw [h]; rfl⟩
      have h3 : ((b.toNat : Int) == 95) = (b == 95) := by
        rw [Bool.eq_iff_iff, beq_iff_eq, beq_iff_eq]
        exact ⟨fun h => UInt8.toNat_inj.1 (by have : b.toNat = 95 := by omega
                                              exact this), fun h => by rw [h]; rfl⟩
      refine congrArg T.bool ?_
      show (_ && ([a, b] == ([95, 95] : Str))) = ((a.toNat : Int) == 95 && (b.toNat : Int) == 95)
      rw [h2, h3]
      have h4 : decide (((a :: b :: r : Str).length : Int) ≥ (([95, 95] : Str).length : Int)) = true := by simp; omega
      rw [h4]
      simp)
theorem strPre_ok (H : Pr23 P) (s : Str) (hs : s.length ≤ 140737488355328) : FnOk P 70 [.t (.str s), .t (.str [95, 95])] ⟨[], 0⟩ { v := .t (.bool (resF s)) } := by
  refine FnOk.run H.i70 H.mixed rfl rfl ?_
  refine fR rfl ?_
  refine Mid.call (hasPre_ok H s hs) rfl rfl rfl rfl ?_
  refine fM rfl ?_
  refine Run.fin rfl (EndOk.go ?_); exact .t rfl
theorem treserved_ok (H : Pr23 P) (s : Str) (hs : s.length ≤ 140737488355328) : FnOk P 48 [.t (.str s)] ⟨[], 0⟩ { v := .t (.bool (resF s)) } := by
  refine FnOk.run H.i48 H.mixed rfl rfl ?_
  refine fR rfl ?_
  refine Mid.call (strPre_ok H s hs) rfl rfl rfl rfl ?_
  refine fM rfl ?_
  refine Run.fin rfl (EndOk.go ?_); exact .t rfl

/- parts -/
theorem idxByte_ok (H : Pr23 P) (s : Str) (hs : s.length ≤ 140737488355328) : FnOk P 130 [.t (.str s), .t (.int .u8 32)] ⟨[], 0⟩ { v := .t (.int .i64 (Go.Lib.indexByte s 32)) } := by
  refine FnOk.run H.i130 H.mixed rfl rfl ?_
  refine fR rfl ?_
  refine p0 rfl ?_
  refine fM rfl ?_
  refine Run.fin rfl (EndOk.go ?_); exact .t rfl
theorem sIndex_ok (H : Pr23 P) (s : Str) (hs : s.length ≤ 140737488355328) : FnOk P 116 [.t (.str s), .t (.str [32])] ⟨[], 0⟩ { v := .t (.int .i64 (Go.Lib.indexByte s 32)) } := by
  refine FnOk.run H.i116 H.mixed rfl rfl ?_
  refine fR rfl ?_
  refine Run.cond rfl rfl (fun h => ?_) (fun h => ?_)
  · have h' : s = [32] := by
      have h2 : [32] = s := by simpa using h
      exact h2.symm
    subst h'
    refine fR rfl ?_
    refine Run.fin rfl (EndOk.go ?_); exact .t rfl
  · refine fR rfl ?_
    refine Run.condT rfl rfl rfl ?_
    refine fR rfl ?_
    refine pu rfl ?_
    refine Mid.call (idxByte_ok H s hs) rfl rfl rfl rfl ?_
    refine fM rfl ?_
    refine Run.fin rfl (EndOk.go ?_); exact .t rfl
theorem index_ok (H : Pr23 P) (s : Str) (hs : s.length ≤ 140737488355328) : FnOk P 90 [.t (.str s), .t (.str [32])] ⟨[], 0⟩ { v := .t (.int .i64 (Go.Lib.indexByte s 32)) } := by
  refine FnOk.run H.i90 H.mixed rfl rfl ?_
  refine fR rfl ?_
  refine Mid.call (sIndex_ok H s hs) rfl rfl rfl rfl ?_
  refine fM rfl ?_
  refine Run.fin rfl (EndOk.go ?_); exact .t rfl
theorem count_ok (H : Pr23 P) (s : Str) (hs : s.length ≤ 140737488355328) : FnOk P 89 [.t (.str s), .t (.str [32])] ⟨[], 0⟩ { v := .t (.int .i64 (s.count 32)) } := by
  refine FnOk.run H.i89 H.mixed rfl rfl ?_
  refine fR rfl ?_
  refine Run.condF rfl rfl rfl ?_
  refine fR rfl ?_
  refine Run.condT rfl rfl rfl ?_
  refine fR rfl ?_
  refine pu rfl ?_
  refine p0 rfl ?_
  refine fM rfl ?_
  refine Run.fin rfl (EndOk.go ?_); exact .t rfl
end Go.GB.C23

