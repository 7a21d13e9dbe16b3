/-
  YtjbpmfglccfkaaaGreatDoorP3: lemmas of this proof (part 3). No conditions.
-/
import Derived.Test.YtjbpmfglccfkaaaGreatDoorP2

/-
  ZF23Code: the code of some functions as abstract code (printed by program).
-/
namespace Go.GB.C11
open Go.GB
/- 3 supergraph supergraphlaw25.MovesJoins -/
def c3_0 : ACode :=
  (.seq (.region false [⟨some 29, none, .mv (.s 3)⟩,
    ⟨some 30, none, .mv (.s 6)⟩,
    ⟨some 31, none, .call 9 [(.s 29), (.s 30)]⟩,
    ⟨some 32, none, .mv (.s 31)⟩,
    ⟨some 33, some (32, true), .mv (.s 4)⟩,
    ⟨some 34, some (32, true), .mv (.s 7)⟩,
    ⟨some 35, some (32, true), .call 10 [(.s 33), (.s 34)]⟩,
    ⟨some 36, none, .pick (.s 32) (.s 35) (.c (.t (.bool false)))⟩,
    ⟨some 37, none, .mv (.s 36)⟩,
    ⟨some 38, some (37, true), .mv (.s 5)⟩,
    ⟨some 39, some (37, true), .mv (.s 8)⟩,
    ⟨some 40, some (37, true), .call 11 [(.s 38), (.s 39)]⟩,
    ⟨some 41, none, .pick (.s 37) (.s 40) (.c (.t (.bool false)))⟩,
    ⟨some 42, none, .mv (.s 41)⟩,
    ⟨some 43, some (42, true), .call 6 []⟩,
    ⟨some 44, none, .pick (.s 42) (.s 43) (.c (.t (.bool false)))⟩,
    ⟨some 2, none, .mv (.s 44)⟩] [] [2]) .ret)
def c3_1 : ACode :=
  (.seq (.region false [⟨some 24, none, .mv (.s 0)⟩,
    ⟨some 25, none, .call 8 [(.s 24)]⟩,
    ⟨some 23, none, .mv (.s 25)⟩,
    ⟨some 26, none, .ext (.s 23) 0⟩,
    ⟨some 27, none, .ext (.s 23) 1⟩,
    ⟨some 28, none, .ext (.s 23) 2⟩,
    ⟨some 6, none, .mv (.s 26)⟩,
    ⟨some 7, none, .mv (.s 27)⟩,
    ⟨some 8, none, .mv (.s 28)⟩] [] [3, 4, 5, 6, 7, 8]) c3_0)
def c3_2 : ACode :=
  (.seq (.region false [⟨some 18, none, .mv (.s 0)⟩,
    ⟨some 19, none, .call 7 [(.s 18)]⟩,
    ⟨some 17, none, .mv (.s 19)⟩,
    ⟨some 20, none, .ext (.s 17) 0⟩,
    ⟨some 21, none, .ext (.s 17) 1⟩,
    ⟨some 22, none, .ext (.s 17) 2⟩,
    ⟨some 3, none, .mv (.s 20)⟩,
    ⟨some 4, none, .mv (.s 21)⟩,
    ⟨some 5, none, .mv (.s 22)⟩] [] [0, 3, 4, 5]) c3_1)
def c3_3 : ACode :=
  (.seq (.region false [⟨some 16, none, .call 6 []⟩,
    ⟨some 2, none, .mv (.s 16)⟩] [] [2]) .ret)
def c3_4 : ACode :=
  (.cond (.s 15) c3_3 .skip)
def c3_5 : ACode :=
  (.seq (.seq (.region false [⟨some 9, none, .mv (.s 0)⟩,
    ⟨some 10, none, .call 4 [(.s 9)]⟩,
    ⟨some 11, none, .mv (.s 10)⟩,
    ⟨some 12, some (11, false), .mv (.s 0)⟩,
    ⟨some 13, some (11, false), .call 5 [(.s 12)]⟩,
    ⟨some 14, some (11, false), .un .not (.s 13)⟩,
    ⟨some 15, none, .pick (.s 11) (.c (.t (.bool true))) (.s 14)⟩] [] [0, 15]) c3_4) c3_2)
def c3 : ACode :=
  (.seq (.region false [⟨some 2, none, .cst (.t (.bool false))⟩] [] [0]) c3_5)
def r3 : List ARes := [.tmp 2]
def n3 : Nat := 45
/- 4 supergraph supergraphlaw25.large -/
def c4_0 : ACode :=
  (.seq (.region false [⟨some 2, none, .cst (.t (.bool false))⟩] [] [2]) .ret)
def c4_1 : ACode :=
  (.region false [⟨some 11, none, .mv (.s 3)⟩,
    ⟨some 12, none, .bin .add (.s 11) (.c (.t (.int .i64 1)))⟩,
    ⟨some 3, none, .mv (.s 12)⟩] [] [0, 3])
def c4_2 : ACode :=
  (.seq (.region false [⟨some 2, none, .cst (.t (.bool true))⟩] [] [2]) .ret)
def c4_3 : ACode :=
  (.cond (.s 19) c4_2 .skip)
def c4_4 : ACode :=
  (.seq (.region false [⟨some 13, none, .mv (.s 0)⟩,
    ⟨some 14, none, .mv (.s 3)⟩,
    ⟨some 15, none, .ia 2 (.s 13) (.s 14)⟩,
    ⟨some 16, none, .fa 1 (.s 15)⟩,
    ⟨some 17, none, .ld true 1 (.s 16)⟩,
    ⟨some 18, none, .call 12 [(.s 17), (.c (.t (.int .i64 400)))]⟩,
    ⟨some 19, none, .bin .gtr (.s 18) (.c (.t (.int .i64 400)))⟩] [] [0, 3, 19]) c4_3)
def c4_5 : ACode :=
  (.seq (.block 1 c4_4) c4_1)
def c4_6 : ACode :=
  (.cond (.s 10) .skip (.exit 0))
def c4_7 : ACode :=
  (.seq (.seq (.region false [⟨some 7, none, .mv (.s 3)⟩,
    ⟨some 8, none, .mv (.s 0)⟩,
    ⟨some 9, none, .len (.s 8)⟩,
    ⟨some 10, none, .bin .lss (.s 7) (.s 9)⟩] [] [0, 3, 10]) c4_6) c4_5)
def c4_8 : ACode :=
  (.loop c4_7)
def c4_9 : ACode :=
  (.block 0 c4_8)
def c4_10 : ACode :=
  (.seq (.seq (.region false [⟨some 3, none, .cst (.t (.int .i64 0))⟩] [] [0, 3]) c4_9) c4_0)
def c4_11 : ACode :=
  (.seq (.region false [⟨some 2, none, .cst (.t (.bool true))⟩] [] [2]) .ret)
def c4_12 : ACode :=
  (.cond (.s 6) c4_11 .skip)
def c4_13 : ACode :=
  (.seq (.seq (.region false [⟨some 4, none, .mv (.s 0)⟩,
    ⟨some 5, none, .len (.s 4)⟩,
    ⟨some 6, none, .bin .gtr (.s 5) (.c (.t (.int .i64 8)))⟩] [] [0, 6]) c4_12) c4_10)
def c4 : ACode :=
  (.seq (.region false [⟨some 2, none, .cst (.t (.bool false))⟩] [] [0]) c4_13)
def r4 : List ARes := [.tmp 2]
def n4 : Nat := 20
/- 5 supergraph supergraphref25.Right -/
def c5_0 : ACode :=
  (.seq (.region false [⟨some 2, none, .cst (.t (.bool true))⟩] [] [2]) .ret)
def c5_1 : ACode :=
  (.region false [⟨some 16, none, .mv (.s 3)⟩,
    ⟨some 17, none, .bin .add (.s 16) (.c (.t (.int .i64 1)))⟩,
    ⟨some 3, none, .mv (.s 17)⟩] [] [0, 3])
def c5_2 : ACode :=
  (.seq (.region false [⟨some 2, none, .cst (.t (.bool false))⟩] [] [2]) .ret)
def c5_3 : ACode :=
  (.cond (.s 35) c5_2 .skip)
def c5_4 : ACode :=
  (.seq (.region false [⟨some 18, none, .mv (.s 0)⟩,
    ⟨some 19, none, .mv (.s 3)⟩,
    ⟨some 20, none, .ia 2 (.s 18) (.s 19)⟩,
    ⟨some 21, none, .fa 1 (.s 20)⟩,
    ⟨some 22, none, .ld true 1 (.s 21)⟩,
    ⟨some 23, none, .call 13 [(.s 22), (.c (.t (.bool false)))]⟩,
    ⟨some 24, none, .len (.s 23)⟩,
    ⟨some 25, none, .bin .gtr (.s 24) (.c (.t (.int .i64 0)))⟩,
    ⟨some 26, none, .mv (.s 25)⟩,
    ⟨some 27, some (26, false), .mv (.s 0)⟩,
    ⟨some 28, some (26, false), .mv (.s 3)⟩,
    ⟨some 29, some (26, false), .ia 2 (.s 27) (.s 28)⟩,
    ⟨some 30, some (26, false), .fa 1 (.s 29)⟩,
    ⟨some 31, some (26, false), .ld true 1 (.s 30)⟩,
    ⟨some 32, some (26, false), .call 14 [(.s 31)]⟩,
    ⟨some 33, some (26, false), .len (.s 32)⟩,
    ⟨some 34, some (26, false), .bin .gtr (.s 33) (.c (.t (.int .i64 0)))⟩,
    ⟨some 35, none, .pick (.s 26) (.c (.t (.bool true))) (.s 34)⟩] [] [0, 3, 35]) c5_3)
def c5_5 : ACode :=
  (.seq (.block 1 c5_4) c5_1)
def c5_6 : ACode :=
  (.cond (.s 15) .skip (.exit 0))
def c5_7 : ACode :=
  (.seq (.seq (.region false [⟨some 12, none, .mv (.s 3)⟩,
    ⟨some 13, none, .mv (.s 0)⟩,
    ⟨some 14, none, .len (.s 13)⟩,
    ⟨some 15, none, .bin .lss (.s 12) (.s 14)⟩] [] [0, 3, 15]) c5_6) c5_5)
def c5_8 : ACode :=
  (.loop c5_7)
def c5_9 : ACode :=
  (.block 0 c5_8)
def c5_10 : ACode :=
  (.seq (.seq (.region false [⟨some 3, none, .cst (.t (.int .i64 0))⟩] [] [0, 3]) c5_9) c5_0)
def c5_11 : ACode :=
  (.seq (.region false [⟨some 2, none, .cst (.t (.bool false))⟩] [] [2]) .ret)
def c5_12 : ACode :=
  (.cond (.s 11) c5_11 .skip)
def c5_13 : ACode :=
  (.seq (.seq (.region false [⟨some 4, none, .mv (.s 0)⟩,
    ⟨some 5, none, .len (.s 4)⟩,
    ⟨some 6, none, .bin .eql (.s 5) (.c (.t (.int .i64 0)))⟩,
    ⟨some 7, none, .mv (.s 6)⟩,
    ⟨some 8, some (7, false), .mv (.s 0)⟩,
    ⟨some 9, some (7, false), .len (.s 8)⟩,
    ⟨some 10, some (7, false), .bin .gtr (.s 9) (.c (.t (.int .i64 8)))⟩,
    ⟨some 11, none, .pick (.s 7) (.c (.t (.bool true))) (.s 10)⟩] [] [0, 11]) c5_12) c5_10)
def c5 : ACode :=
  (.seq (.region false [⟨some 2, none, .cst (.t (.bool false))⟩] [] [0]) c5_13)
def r5 : List ARes := [.tmp 2]
def n5 : Nat := 36
/- 6 supergraph supergraphlaw25.exampleHolds -/
def c6_0 : ACode :=
  (.seq (.region false [⟨some 59, none, .mv (.s 9)⟩,
    ⟨some 60, none, .mv (.s 59)⟩,
    ⟨some 61, some (60, true), .mv (.s 11)⟩,
    ⟨some 62, some (60, true), .un .not (.s 61)⟩,
    ⟨some 63, none, .pick (.s 60) (.s 62) (.c (.t (.bool false)))⟩,
    ⟨some 64, none, .mv (.s 63)⟩,
    ⟨some 65, some (64, true), .ld true 4 (.s 7)⟩,
    ⟨some 66, some (64, true), .call 17 [(.s 65), (.c (.t (.str [85, 115, 101, 114]))), (.c (.t (.int .i64 1)))]⟩,
    ⟨some 67, some (64, true), .len (.s 66)⟩,
    ⟨some 68, some (64, true), .bin .eql (.s 67) (.c (.t (.int .i64 1)))⟩,
    ⟨some 69, none, .pick (.s 64) (.s 68) (.c (.t (.bool false)))⟩,
    ⟨some 70, none, .mv (.s 69)⟩,
    ⟨some 71, some (70, true), .mv (.s 6)⟩,
    ⟨some 72, some (70, true), .ia 2 (.s 71) (.c (.t (.int .i64 0)))⟩,
    ⟨some 73, some (70, true), .ld true 2 (.s 72)⟩,
    ⟨some 74, some (70, true), .build [.t (.int .i64 0), .t (.str [])] [(0, 1, (.c (.t (.int .i64 40)))), (1, 1, (.c (.t (.str [97, 58, 85, 115, 101, 114, 46, 110, 97, 109, 101]))))]⟩,
    ⟨some 75, some (70, true), .nw (.eqst false [.int .i64, .str] (.s 73) (.s 74))⟩,
    ⟨some 76, none, .pick (.s 70) (.s 75) (.c (.t (.bool false)))⟩,
    ⟨some 77, none, .mv (.s 76)⟩,
    ⟨some 78, some (77, true), .mv (.s 6)⟩,
    ⟨some 79, some (77, true), .ia 2 (.s 78) (.c (.t (.int .i64 1)))⟩,
    ⟨some 80, some (77, true), .ld true 2 (.s 79)⟩,
    ⟨some 81, some (77, true), .build [.t (.int .i64 0), .t (.str [])] [(0, 1, (.c (.t (.int .i64 40)))), (1, 1, (.c (.t (.str [98, 58, 85, 115, 101, 114, 46, 110, 97, 109, 101]))))]⟩,
    ⟨some 82, some (77, true), .nw (.eqst false [.int .i64, .str] (.s 80) (.s 81))⟩,
    ⟨some 83, none, .pick (.s 77) (.s 82) (.c (.t (.bool false)))⟩,
    ⟨some 0, none, .mv (.s 83)⟩] [] [0]) .ret)
def c6_1 : ACode :=
  (.seq (.region false [⟨some 55, none, .ld true 4 (.s 7)⟩,
    ⟨some 56, none, .call 16 [(.s 55), (.c (.t (.str [85, 115, 101, 114]))), (.c (.t (.str [110, 97, 109, 101]))), (.c (.t (.int .i64 1)))]⟩,
    ⟨some 54, none, .mv (.s 56)⟩,
    ⟨some 57, none, .ext (.s 54) 0⟩,
    ⟨some 58, none, .ext (.s 54) 1⟩,
    ⟨some 10, none, .alloc [.t (.str []), .t (.str []), .t (.int .i64 0), .t (.bool false), .nils, .nils]⟩,
    ⟨none, none, .st 6 (.s 10) (.s 57)⟩,
    ⟨some 11, none, .mv (.s 58)⟩] [] [6, 7, 9, 11]) c6_0)
def c6_2 : ACode :=
  (.seq (.region false [⟨some 50, none, .ld true 4 (.s 7)⟩,
    ⟨some 51, none, .call 16 [(.s 50), (.c (.t (.str [85, 115, 101, 114]))), (.c (.t (.str [110, 97, 109, 101]))), (.c (.t (.int .i64 0)))]⟩,
    ⟨some 49, none, .mv (.s 51)⟩,
    ⟨some 52, none, .ext (.s 49) 0⟩,
    ⟨some 53, none, .ext (.s 49) 1⟩,
    ⟨some 8, none, .alloc [.t (.str []), .t (.str []), .t (.int .i64 0), .t (.bool false), .nils, .nils]⟩,
    ⟨none, none, .st 6 (.s 8) (.s 52)⟩,
    ⟨some 9, none, .mv (.s 53)⟩] [] [6, 7, 9]) c6_1)
def c6_3 : ACode :=
  (.seq (.region false [⟨some 46, none, .mv (.s 1)⟩,
    ⟨some 47, none, .mv (.s 2)⟩,
    ⟨some 48, none, .build [.nils, .nils, .nils, .nils] [(2, 1, (.s 46)), (3, 1, (.s 47))]⟩,
    ⟨some 7, none, .alloc [.nils, .nils, .nils, .nils]⟩,
    ⟨none, none, .st 4 (.s 7) (.s 48)⟩] [] [6, 7]) c6_2)
def c6_4 : ACode :=
  (.seq (.region false [⟨some 0, none, .cst (.t (.bool false))⟩] [] [0]) .ret)
def c6_5 : ACode :=
  (.cond (.s 45) c6_4 .skip)
def c6_6 : ACode :=
  (.seq (.seq (.region false [⟨some 28, none, .mv (.s 1)⟩,
    ⟨some 29, none, .len (.s 28)⟩,
    ⟨some 30, none, .bin .neq (.s 29) (.c (.t (.int .i64 2)))⟩,
    ⟨some 31, none, .mv (.s 30)⟩,
    ⟨some 32, some (31, false), .mv (.s 2)⟩,
    ⟨some 33, some (31, false), .len (.s 32)⟩,
    ⟨some 34, some (31, false), .bin .neq (.s 33) (.c (.t (.int .i64 4)))⟩,
    ⟨some 35, none, .pick (.s 31) (.c (.t (.bool true))) (.s 34)⟩,
    ⟨some 36, none, .mv (.s 35)⟩,
    ⟨some 37, some (36, false), .mv (.s 3)⟩,
    ⟨some 38, some (36, false), .len (.s 37)⟩,
    ⟨some 39, some (36, false), .bin .neq (.s 38) (.c (.t (.int .i64 0)))⟩,
    ⟨some 40, none, .pick (.s 36) (.c (.t (.bool true))) (.s 39)⟩,
    ⟨some 41, none, .mv (.s 40)⟩,
    ⟨some 42, some (41, false), .mv (.s 6)⟩,
    ⟨some 43, some (41, false), .len (.s 42)⟩,
    ⟨some 44, some (41, false), .bin .neq (.s 43) (.c (.t (.int .i64 2)))⟩,
    ⟨some 45, none, .pick (.s 41) (.c (.t (.bool true))) (.s 44)⟩] [] [1, 2, 6, 45]) c6_5) c6_3)
def c6_7 : ACode :=
  (.seq (.region false [⟨some 21, none, .call 15 [(.c (.t (.str [97]))), (.c (.t (.str [110, 97, 109, 101])))]⟩,
    ⟨some 22, none, .call 15 [(.c (.t (.str [98]))), (.c (.t (.str [110, 97, 109, 101])))]⟩,
    ⟨some 23, none, .bsl true 2 [[.str [], .lst []], [.str [], .lst []]] [(0, (.s 21)), (1, (.s 22))]⟩,
    ⟨some 24, none, .call 7 [(.s 23)]⟩,
    ⟨some 20, none, .mv (.s 24)⟩,
    ⟨some 25, none, .ext (.s 20) 0⟩,
    ⟨some 26, none, .ext (.s 20) 1⟩,
    ⟨some 27, none, .ext (.s 20) 2⟩,
    ⟨some 4, none, .mv (.s 25)⟩,
    ⟨some 5, none, .mv (.s 26)⟩,
    ⟨some 6, none, .mv (.s 27)⟩] [] [1, 2, 3, 6]) c6_6)
def c6_8 : ACode :=
  (.seq (.region false [⟨some 13, none, .call 15 [(.c (.t (.str [97]))), (.c (.t (.str [110, 97, 109, 101])))]⟩,
    ⟨some 14, none, .call 15 [(.c (.t (.str [98]))), (.c (.t (.str [112, 111, 115, 116, 115])))]⟩,
    ⟨some 15, none, .bsl true 2 [[.str [], .lst []], [.str [], .lst []]] [(0, (.s 13)), (1, (.s 14))]⟩,
    ⟨some 16, none, .call 7 [(.s 15)]⟩,
    ⟨some 12, none, .mv (.s 16)⟩,
    ⟨some 17, none, .ext (.s 12) 0⟩,
    ⟨some 18, none, .ext (.s 12) 1⟩,
    ⟨some 19, none, .ext (.s 12) 2⟩,
    ⟨some 1, none, .mv (.s 17)⟩,
    ⟨some 2, none, .mv (.s 18)⟩,
    ⟨some 3, none, .mv (.s 19)⟩] [] [1, 2, 3]) c6_7)
def c6 : ACode :=
  (.seq (.region false [⟨some 0, none, .cst (.t (.bool false))⟩] [] []) c6_8)
def r6 : List ARes := [.tmp 0]
def n6 : Nat := 84
/- 7 supergraph moves.Joins -/
def c7_0 : ACode :=
  (.seq (.region false [⟨some 100, none, .mv (.s 5)⟩,
    ⟨some 101, none, .mv (.s 6)⟩,
    ⟨some 2, none, .mv (.s 100)⟩,
    ⟨some 3, none, .mv (.s 101)⟩,
    ⟨some 4, none, .cst (.nils)⟩] [] [2, 3, 4]) .ret)
def c7_1 : ACode :=
  (.seq (.region true [⟨some 96, none, .mv (.s 7)⟩,
    ⟨some 97, none, .nilck (.s 96)⟩,
    ⟨some 98, none, .fa 1 (.s 97)⟩,
    ⟨some 99, none, .ld false 1 (.s 98)⟩,
    ⟨some 2, none, .cst (.nils)⟩,
    ⟨some 3, none, .cst (.nils)⟩,
    ⟨some 4, none, .mv (.s 99)⟩] [[], [0], [1], [2], [], [4, 4], [3, 5, 0, 1, 2, 3, 4, 5]] [2, 3, 4]) .ret)
def c7_2 : ACode :=
  (.cond (.s 95) c7_1 .skip)
def c7_3 : ACode :=
  (.seq (.seq (.region false [⟨some 90, none, .mv (.s 7)⟩,
    ⟨some 91, none, .nilck (.s 90)⟩,
    ⟨some 92, none, .fa 1 (.s 91)⟩,
    ⟨some 93, none, .ld false 1 (.s 92)⟩,
    ⟨some 94, none, .len (.s 93)⟩,
    ⟨some 95, none, .bin .gtr (.s 94) (.c (.t (.int .i64 0)))⟩] [] [5, 6, 7, 95]) c7_2) c7_0)
def c7_4 : ACode :=
  (.region false [⟨some 89, none, .bin .add (.s 21) (.c (.t (.int .i64 1)))⟩,
    ⟨some 21, none, .mv (.s 89)⟩] [] [5, 6, 7, 19, 20, 21])
def c7_5 : ACode :=
  (.region false [⟨some 88, none, .bin .add (.s 30) (.c (.t (.int .i64 1)))⟩,
    ⟨some 30, none, .mv (.s 88)⟩] [] [5, 6, 7, 8, 9, 19, 20, 21, 28, 29, 30])
def c7_6 : ACode :=
  (.region false [⟨some 87, none, .bin .add (.s 60) (.c (.t (.int .i64 1)))⟩,
    ⟨some 60, none, .mv (.s 87)⟩] [] [5, 6, 7, 8, 9, 11, 19, 20, 21, 28, 29, 30, 58, 59, 60])
def c7_7 : ACode :=
  (.region true [⟨some 69, none, .mv (.s 6)⟩,
    ⟨some 70, none, .fa 1 (.s 11)⟩,
    ⟨some 71, none, .ld false 1 (.s 70)⟩,
    ⟨some 72, none, .fa 0 (.s 15)⟩,
    ⟨some 73, none, .ld false 1 (.s 72)⟩,
    ⟨some 74, none, .mv (.s 8)⟩,
    ⟨some 75, none, .fa 4 (.s 15)⟩,
    ⟨some 76, none, .ld false 1 (.s 75)⟩,
    ⟨some 77, none, .call 21 [(.s 76), (.c (.t (.str [101, 120, 116, 101, 114, 110, 97, 108])))]⟩,
    ⟨some 78, none, .fa 4 (.s 15)⟩,
    ⟨some 79, none, .ld false 1 (.s 78)⟩,
    ⟨some 80, none, .call 22 [(.s 79), (.c (.t (.str [114, 101, 113, 117, 105, 114, 101, 115])))]⟩,
    ⟨some 81, none, .fa 4 (.s 15)⟩,
    ⟨some 82, none, .ld false 1 (.s 81)⟩,
    ⟨some 83, none, .call 22 [(.s 82), (.c (.t (.str [112, 114, 111, 118, 105, 100, 101, 115])))]⟩,
    ⟨some 84, none, .build [.t (.str []), .t (.str []), .t (.int .i64 0), .t (.bool false), .nils, .nils] [(0, 1, (.s 71)), (1, 1, (.s 73)), (2, 1, (.s 74)), (3, 1, (.s 77)), (4, 1, (.s 80)), (5, 1, (.s 83))]⟩,
    ⟨some 85, none, .bsl false 6 [[.str [], .str [], .int .i64 0, .bool false, .lst [], .lst []]] [(0, (.s 84))]⟩,
    ⟨some 86, none, .app 6 96 (.s 69) (.s 85)⟩,
    ⟨some 6, none, .mv (.s 86)⟩] [[], [], [1], [], [3], [], [], [6], [7], [], [9], [10, 8], [], [12], [13, 11], [2, 4, 5, 8, 11, 14], [15], [0, 16, 14], [17, 17, 0, 1, 2, 3, 4, 5, 6, 7, 8, 9, 10, 11, 12, 13, 14, 15, 16, 17]] [5, 6, 7, 8, 9, 11, 19, 20, 21, 28, 29, 30, 58, 59, 60])
def c7_8 : ACode :=
  (.seq (.region false [⟨some 64, none, .mv (.s 7)⟩,
    ⟨some 65, none, .mv (.s 8)⟩,
    ⟨some 66, none, .ld true 7 (.s 11)⟩,
    ⟨some 67, none, .ld true 5 (.s 15)⟩,
    ⟨some 68, none, .call 20 [(.s 64), (.s 65), (.s 66), (.s 67)]⟩] [] [5, 6, 7, 8, 9, 11, 15, 19, 20, 21, 28, 29, 30, 58, 59, 60]) c7_7)
def c7_9 : ACode :=
  (.seq (.region false [⟨some 62, none, .ia 5 (.s 58) (.s 60)⟩,
    ⟨some 63, none, .ld true 5 (.s 62)⟩,
    ⟨some 15, none, .alloc [.t (.str []), .nils, .t (.str []), .nils, .nils]⟩,
    ⟨none, none, .st 5 (.s 15) (.s 63)⟩] [] [5, 6, 7, 8, 9, 11, 15, 19, 20, 21, 28, 29, 30, 58, 59, 60]) c7_8)
def c7_10 : ACode :=
  (.seq (.block 7 c7_9) c7_6)
def c7_11 : ACode :=
  (.seq (.cond (.s 61) .skip (.exit 6)) c7_10)
def c7_12 : ACode :=
  (.seq (.region false [⟨some 61, none, .bin .lss (.s 60) (.s 59)⟩] [] [5, 6, 7, 8, 9, 11, 19, 20, 21, 28, 29, 30, 58, 59, 60, 61]) c7_11)
def c7_13 : ACode :=
  (.loop c7_12)
def c7_14 : ACode :=
  (.block 6 c7_13)
def c7_15 : ACode :=
  (.seq (.region false [⟨some 57, none, .fa 4 (.s 11)⟩,
    ⟨some 58, none, .ld false 1 (.s 57)⟩,
    ⟨some 59, none, .len (.s 58)⟩,
    ⟨some 60, none, .cst (.t (.int .i64 0))⟩] [] [5, 6, 7, 8, 9, 11, 19, 20, 21, 28, 29, 30, 58, 59, 60]) c7_14)
def c7_16 : ACode :=
  (.region false [⟨some 56, none, .bin .add (.s 44) (.c (.t (.int .i64 1)))⟩,
    ⟨some 44, none, .mv (.s 56)⟩] [] [5, 6, 7, 8, 9, 11, 19, 20, 21, 28, 29, 30, 42, 43, 44])
def c7_17 : ACode :=
  (.region false [⟨some 48, none, .mv (.s 5)⟩,
    ⟨some 49, none, .fa 1 (.s 11)⟩,
    ⟨some 50, none, .ld false 1 (.s 49)⟩,
    ⟨some 51, none, .mv (.s 8)⟩,
    ⟨some 52, none, .mv (.s 13)⟩,
    ⟨some 53, none, .build [.t (.str []), .t (.int .i64 0), .nils] [(0, 1, (.s 50)), (1, 1, (.s 51)), (2, 1, (.s 52))]⟩,
    ⟨some 54, none, .bsl false 3 [[.str [], .int .i64 0, .lst []]] [(0, (.s 53))]⟩,
    ⟨some 55, none, .app 3 48 (.s 48) (.s 54)⟩,
    ⟨some 5, none, .mv (.s 55)⟩] [] [5, 6, 7, 8, 9, 11, 19, 20, 21, 28, 29, 30, 42, 43, 44])
def c7_18 : ACode :=
  (.seq (.region false [⟨some 46, none, .ia 1 (.s 42) (.s 44)⟩,
    ⟨some 47, none, .ld false 1 (.s 46)⟩,
    ⟨some 13, none, .mv (.s 47)⟩] [] [5, 6, 7, 8, 9, 11, 13, 19, 20, 21, 28, 29, 30, 42, 43, 44]) c7_17)
def c7_19 : ACode :=
  (.seq (.block 5 c7_18) c7_16)
def c7_20 : ACode :=
  (.seq (.cond (.s 45) .skip (.exit 4)) c7_19)
def c7_21 : ACode :=
  (.seq (.region false [⟨some 45, none, .bin .lss (.s 44) (.s 43)⟩] [] [5, 6, 7, 8, 9, 11, 19, 20, 21, 28, 29, 30, 42, 43, 44, 45]) c7_20)
def c7_22 : ACode :=
  (.loop c7_21)
def c7_23 : ACode :=
  (.block 4 c7_22)
def c7_24 : ACode :=
  (.seq (.seq (.region false [⟨some 41, none, .ld true 7 (.s 11)⟩,
    ⟨some 42, none, .call 19 [(.s 41)]⟩,
    ⟨some 43, none, .len (.s 42)⟩,
    ⟨some 44, none, .cst (.t (.int .i64 0))⟩] [] [5, 6, 7, 8, 9, 11, 19, 20, 21, 28, 29, 30, 42, 43, 44]) c7_23) c7_15)
def c7_25 : ACode :=
  (.seq (.region false [⟨some 37, none, .mv (.s 7)⟩,
    ⟨some 38, none, .ld true 2 (.s 9)⟩,
    ⟨some 39, none, .ld true 7 (.s 11)⟩,
    ⟨some 40, none, .call 18 [(.s 37), (.s 38), (.s 39)]⟩] [] [5, 6, 7, 8, 9, 11, 19, 20, 21, 28, 29, 30]) c7_24)
def c7_26 : ACode :=
  (.cond (.s 36) (.exit 3) .skip)
def c7_27 : ACode :=
  (.seq (.seq (.region false [⟨some 34, none, .fa 0 (.s 11)⟩,
    ⟨some 35, none, .ld false 1 (.s 34)⟩,
    ⟨some 36, none, .bin .neq (.s 35) (.c (.t (.int .i64 1)))⟩] [] [5, 6, 7, 8, 9, 11, 19, 20, 21, 28, 29, 30, 36]) c7_26) c7_25)
def c7_28 : ACode :=
  (.seq (.region false [⟨some 32, none, .ia 7 (.s 28) (.s 30)⟩,
    ⟨some 33, none, .ld true 7 (.s 32)⟩,
    ⟨some 11, none, .alloc [.t (.int .i64 0), .t (.str []), .nils, .nils, .nils, .nils, .nils]⟩,
    ⟨none, none, .st 7 (.s 11) (.s 33)⟩] [] [5, 6, 7, 8, 9, 11, 19, 20, 21, 28, 29, 30]) c7_27)
def c7_29 : ACode :=
  (.seq (.block 3 c7_28) c7_5)
def c7_30 : ACode :=
  (.seq (.cond (.s 31) .skip (.exit 2)) c7_29)
def c7_31 : ACode :=
  (.seq (.region false [⟨some 31, none, .bin .lss (.s 30) (.s 29)⟩] [] [5, 6, 7, 8, 9, 19, 20, 21, 28, 29, 30, 31]) c7_30)
def c7_32 : ACode :=
  (.loop c7_31)
def c7_33 : ACode :=
  (.block 2 c7_32)
def c7_34 : ACode :=
  (.seq (.region false [⟨some 26, none, .fa 1 (.s 9)⟩,
    ⟨some 27, none, .fa 0 (.s 26)⟩,
    ⟨some 28, none, .ld false 1 (.s 27)⟩,
    ⟨some 29, none, .len (.s 28)⟩,
    ⟨some 30, none, .cst (.t (.int .i64 0))⟩] [] [5, 6, 7, 8, 9, 19, 20, 21, 28, 29, 30]) c7_33)
def c7_35 : ACode :=
  (.seq (.region false [⟨some 23, none, .mv (.s 21)⟩,
    ⟨some 24, none, .ia 2 (.s 19) (.s 21)⟩,
    ⟨some 25, none, .ld true 2 (.s 24)⟩,
    ⟨some 9, none, .alloc [.t (.str []), .nils]⟩,
    ⟨some 8, none, .mv (.s 23)⟩,
    ⟨none, none, .st 2 (.s 9) (.s 25)⟩] [] [5, 6, 7, 8, 9, 19, 20, 21]) c7_34)
def c7_36 : ACode :=
  (.seq (.block 1 c7_35) c7_4)
def c7_37 : ACode :=
  (.seq (.cond (.s 22) .skip (.exit 0)) c7_36)
def c7_38 : ACode :=
  (.seq (.region false [⟨some 22, none, .bin .lss (.s 21) (.s 20)⟩] [] [5, 6, 7, 19, 20, 21, 22]) c7_37)
def c7_39 : ACode :=
  (.loop c7_38)
def c7_40 : ACode :=
  (.block 0 c7_39)
def c7_41 : ACode :=
  (.seq (.seq (.region false [⟨some 19, none, .mv (.s 0)⟩,
    ⟨some 20, none, .len (.s 19)⟩,
    ⟨some 21, none, .cst (.t (.int .i64 0))⟩] [] [5, 6, 7, 19, 20, 21]) c7_40) c7_3)
def c7_42 : ACode :=
  (.seq (.region false [⟨some 16, none, .mv (.s 0)⟩,
    ⟨some 17, none, .build [.nils, .nils] [(0, 1, (.s 16))]⟩,
    ⟨some 18, none, .box 2 (.s 17)⟩,
    ⟨some 7, none, .mv (.s 18)⟩] [] [0, 5, 6, 7]) c7_41)
def c7_43 : ACode :=
  (.seq (.region false [⟨some 6, none, .cst (.nils)⟩] [] [0, 5, 6]) c7_42)
def c7_44 : ACode :=
  (.seq (.region false [⟨some 5, none, .cst (.nils)⟩] [] [0, 5]) c7_43)
def c7 : ACode :=
  (.seq (.region false [⟨some 2, none, .cst (.nils)⟩,
    ⟨some 3, none, .cst (.nils)⟩,
    ⟨some 4, none, .cst (.nils)⟩] [] [0]) c7_44)
def r7 : List ARes := [.tmp 2, .tmp 3, .tmp 4]
def n7 : Nat := 102
/- 8 supergraph supergraphref25.Joins -/
def c8_0 : ACode :=
  (.seq (.region false [⟨some 104, none, .mv (.s 5)⟩,
    ⟨some 105, none, .mv (.s 6)⟩,
    ⟨some 2, none, .mv (.s 104)⟩,
    ⟨some 3, none, .mv (.s 105)⟩,
    ⟨some 4, none, .cst (.nils)⟩] [] [2, 3, 4]) .ret)
def c8_1 : ACode :=
  (.seq (.region false [⟨some 103, none, .mv (.s 7)⟩,
    ⟨some 2, none, .cst (.nils)⟩,
    ⟨some 3, none, .cst (.nils)⟩,
    ⟨some 4, none, .mv (.s 103)⟩] [] [2, 3, 4]) .ret)
def c8_2 : ACode :=
  (.cond (.s 102) c8_1 .skip)
def c8_3 : ACode :=
  (.seq (.seq (.region false [⟨some 100, none, .mv (.s 7)⟩,
    ⟨some 101, none, .len (.s 100)⟩,
    ⟨some 102, none, .bin .gtr (.s 101) (.c (.t (.int .i64 0)))⟩] [] [5, 6, 7, 102]) c8_2) c8_0)
def c8_4 : ACode :=
  (.region false [⟨some 19, none, .mv (.s 8)⟩,
    ⟨some 20, none, .bin .add (.s 19) (.c (.t (.int .i64 1)))⟩,
    ⟨some 8, none, .mv (.s 20)⟩] [] [0, 5, 6, 7, 8])
def c8_5 : ACode :=
  (.region false [⟨some 30, none, .mv (.s 9)⟩,
    ⟨some 31, none, .bin .add (.s 30) (.c (.t (.int .i64 1)))⟩,
    ⟨some 9, none, .mv (.s 31)⟩] [] [0, 5, 6, 7, 8, 9])
def c8_6 : ACode :=
  (.region false [⟨some 75, none, .mv (.s 13)⟩,
    ⟨some 76, none, .bin .add (.s 75) (.c (.t (.int .i64 1)))⟩,
    ⟨some 13, none, .mv (.s 76)⟩] [] [0, 5, 6, 7, 8, 9, 10, 13])
def c8_7 : ACode :=
  (.region true [⟨some 82, none, .mv (.s 6)⟩,
    ⟨some 83, none, .fa 1 (.s 10)⟩,
    ⟨some 84, none, .ld false 1 (.s 83)⟩,
    ⟨some 85, none, .fa 0 (.s 14)⟩,
    ⟨some 86, none, .ld false 1 (.s 85)⟩,
    ⟨some 87, none, .mv (.s 8)⟩,
    ⟨some 88, none, .fa 4 (.s 14)⟩,
    ⟨some 89, none, .ld false 1 (.s 88)⟩,
    ⟨some 90, none, .call 25 [(.s 89), (.c (.t (.str [101, 120, 116, 101, 114, 110, 97, 108])))]⟩,
    ⟨some 91, none, .fa 4 (.s 14)⟩,
    ⟨some 92, none, .ld false 1 (.s 91)⟩,
    ⟨some 93, none, .call 26 [(.s 92), (.c (.t (.str [114, 101, 113, 117, 105, 114, 101, 115])))]⟩,
    ⟨some 94, none, .fa 4 (.s 14)⟩,
    ⟨some 95, none, .ld false 1 (.s 94)⟩,
    ⟨some 96, none, .call 26 [(.s 95), (.c (.t (.str [112, 114, 111, 118, 105, 100, 101, 115])))]⟩,
    ⟨some 97, none, .build [.t (.str []), .t (.str []), .t (.int .i64 0), .t (.bool false), .nils, .nils] [(0, 1, (.s 84)), (1, 1, (.s 86)), (2, 1, (.s 87)), (3, 1, (.s 90)), (4, 1, (.s 93)), (5, 1, (.s 96))]⟩,
    ⟨some 98, none, .bsl false 6 [[.str [], .str [], .int .i64 0, .bool false, .lst [], .lst []]] [(0, (.s 97))]⟩,
    ⟨some 99, none, .app 6 96 (.s 82) (.s 98)⟩,
    ⟨some 6, none, .mv (.s 99)⟩] [[], [], [1], [], [3], [], [], [6], [7], [], [9], [10, 8], [], [12], [13, 11], [2, 4, 5, 8, 11, 14], [15], [0, 16, 14], [17, 17, 0, 1, 2, 3, 4, 5, 6, 7, 8, 9, 10, 11, 12, 13, 14, 15, 16, 17]] [0, 5, 6, 7, 8, 9, 10, 13])
def c8_8 : ACode :=
  (.seq (.region false [⟨some 77, none, .fa 4 (.s 10)⟩,
    ⟨some 78, none, .ld false 1 (.s 77)⟩,
    ⟨some 79, none, .mv (.s 13)⟩,
    ⟨some 80, none, .ia 5 (.s 78) (.s 79)⟩,
    ⟨some 81, none, .ld true 5 (.s 80)⟩,
    ⟨some 14, none, .alloc [.t (.str []), .nils, .t (.str []), .nils, .nils]⟩,
    ⟨none, none, .st 5 (.s 14) (.s 81)⟩] [] [0, 5, 6, 7, 8, 9, 10, 13, 14]) c8_7)
def c8_9 : ACode :=
  (.seq (.block 7 c8_8) c8_6)
def c8_10 : ACode :=
  (.cond (.s 74) .skip (.exit 6))
def c8_11 : ACode :=
  (.seq (.seq (.region false [⟨some 70, none, .mv (.s 13)⟩,
    ⟨some 71, none, .fa 4 (.s 10)⟩,
    ⟨some 72, none, .ld false 1 (.s 71)⟩,
    ⟨some 73, none, .len (.s 72)⟩,
    ⟨some 74, none, .bin .lss (.s 70) (.s 73)⟩] [] [0, 5, 6, 7, 8, 9, 10, 13, 74]) c8_10) c8_9)
def c8_12 : ACode :=
  (.loop c8_11)
def c8_13 : ACode :=
  (.block 6 c8_12)
def c8_14 : ACode :=
  (.seq (.region false [⟨some 13, none, .cst (.t (.int .i64 0))⟩] [] [0, 5, 6, 7, 8, 9, 10, 13]) c8_13)
def c8_15 : ACode :=
  (.region false [⟨some 57, none, .mv (.s 12)⟩,
    ⟨some 58, none, .bin .add (.s 57) (.c (.t (.int .i64 1)))⟩,
    ⟨some 12, none, .mv (.s 58)⟩] [] [0, 5, 6, 7, 8, 9, 10, 11, 12])
def c8_16 : ACode :=
  (.region true [⟨some 59, none, .mv (.s 5)⟩,
    ⟨some 60, none, .fa 1 (.s 10)⟩,
    ⟨some 61, none, .ld false 1 (.s 60)⟩,
    ⟨some 62, none, .mv (.s 8)⟩,
    ⟨some 63, none, .mv (.s 11)⟩,
    ⟨some 64, none, .mv (.s 12)⟩,
    ⟨some 65, none, .ia 1 (.s 63) (.s 64)⟩,
    ⟨some 66, none, .ld false 1 (.s 65)⟩,
    ⟨some 67, none, .build [.t (.str []), .t (.int .i64 0), .nils] [(0, 1, (.s 61)), (1, 1, (.s 62)), (2, 1, (.s 66))]⟩,
    ⟨some 68, none, .bsl false 3 [[.str [], .int .i64 0, .lst []]] [(0, (.s 67))]⟩,
    ⟨some 69, none, .app 3 48 (.s 59) (.s 68)⟩,
    ⟨some 5, none, .mv (.s 69)⟩] [[], [], [1], [], [], [], [4, 5], [6], [2, 3, 7], [8], [0, 9], [10, 10, 0, 1, 2, 3, 4, 5, 6, 7, 8, 9, 10]] [0, 5, 6, 7, 8, 9, 10, 11, 12])
def c8_17 : ACode :=
  (.seq (.block 5 c8_16) c8_15)
def c8_18 : ACode :=
  (.cond (.s 56) .skip (.exit 4))
def c8_19 : ACode :=
  (.seq (.seq (.region false [⟨some 53, none, .mv (.s 12)⟩,
    ⟨some 54, none, .mv (.s 11)⟩,
    ⟨some 55, none, .len (.s 54)⟩,
    ⟨some 56, none, .bin .lss (.s 53) (.s 55)⟩] [] [0, 5, 6, 7, 8, 9, 10, 11, 12, 56]) c8_18) c8_17)
def c8_20 : ACode :=
  (.loop c8_19)
def c8_21 : ACode :=
  (.block 4 c8_20)
def c8_22 : ACode :=
  (.seq (.seq (.region false [⟨some 12, none, .cst (.t (.int .i64 0))⟩] [] [0, 5, 6, 7, 8, 9, 10, 11, 12]) c8_21) c8_14)
def c8_23 : ACode :=
  (.seq (.region false [⟨some 50, none, .fa 3 (.s 10)⟩,
    ⟨some 51, none, .ld false 1 (.s 50)⟩,
    ⟨some 52, none, .call 24 [(.s 51), (.c (.t (.str [107, 101, 121])))]⟩,
    ⟨some 11, none, .mv (.s 52)⟩] [] [0, 5, 6, 7, 8, 9, 10, 11]) c8_22)
def c8_24 : ACode :=
  (.seq (.region false [⟨some 44, none, .mv (.s 7)⟩,
    ⟨some 45, none, .mv (.s 0)⟩,
    ⟨some 46, none, .mv (.s 8)⟩,
    ⟨some 47, none, .ld true 7 (.s 10)⟩,
    ⟨some 48, none, .call 23 [(.s 45), (.s 46), (.s 47)]⟩,
    ⟨some 49, none, .app 2 24 (.s 44) (.s 48)⟩,
    ⟨some 7, none, .mv (.s 49)⟩] [] [0, 5, 6, 7, 8, 9, 10]) c8_23)
def c8_25 : ACode :=
  (.cond (.s 43) (.exit 3) .skip)
def c8_26 : ACode :=
  (.seq (.seq (.region false [⟨some 41, none, .fa 0 (.s 10)⟩,
    ⟨some 42, none, .ld false 1 (.s 41)⟩,
    ⟨some 43, none, .bin .neq (.s 42) (.c (.t (.int .i64 1)))⟩] [] [0, 5, 6, 7, 8, 9, 10, 43]) c8_25) c8_24)
def c8_27 : ACode :=
  (.seq (.region false [⟨some 32, none, .mv (.s 0)⟩,
    ⟨some 33, none, .mv (.s 8)⟩,
    ⟨some 34, none, .ia 2 (.s 32) (.s 33)⟩,
    ⟨some 35, none, .fa 1 (.s 34)⟩,
    ⟨some 36, none, .fa 0 (.s 35)⟩,
    ⟨some 37, none, .ld false 1 (.s 36)⟩,
    ⟨some 38, none, .mv (.s 9)⟩,
    ⟨some 39, none, .ia 7 (.s 37) (.s 38)⟩,
    ⟨some 40, none, .ld true 7 (.s 39)⟩,
    ⟨some 10, none, .alloc [.t (.int .i64 0), .t (.str []), .nils, .nils, .nils, .nils, .nils]⟩,
    ⟨none, none, .st 7 (.s 10) (.s 40)⟩] [] [0, 5, 6, 7, 8, 9, 10]) c8_26)
def c8_28 : ACode :=
  (.seq (.block 3 c8_27) c8_5)
def c8_29 : ACode :=
  (.cond (.s 29) .skip (.exit 2))
def c8_30 : ACode :=
  (.seq (.seq (.region false [⟨some 21, none, .mv (.s 9)⟩,
    ⟨some 22, none, .mv (.s 0)⟩,
    ⟨some 23, none, .mv (.s 8)⟩,
    ⟨some 24, none, .ia 2 (.s 22) (.s 23)⟩,
    ⟨some 25, none, .fa 1 (.s 24)⟩,
    ⟨some 26, none, .fa 0 (.s 25)⟩,
    ⟨some 27, none, .ld false 1 (.s 26)⟩,
    ⟨some 28, none, .len (.s 27)⟩,
    ⟨some 29, none, .bin .lss (.s 21) (.s 28)⟩] [] [0, 5, 6, 7, 8, 9, 29]) c8_29) c8_28)
def c8_31 : ACode :=
  (.loop c8_30)
def c8_32 : ACode :=
  (.block 2 c8_31)
def c8_33 : ACode :=
  (.seq (.region false [⟨some 9, none, .cst (.t (.int .i64 0))⟩] [] [0, 5, 6, 7, 8, 9]) c8_32)
def c8_34 : ACode :=
  (.seq (.block 1 c8_33) c8_4)
def c8_35 : ACode :=
  (.cond (.s 18) .skip (.exit 0))
def c8_36 : ACode :=
  (.seq (.seq (.region false [⟨some 15, none, .mv (.s 8)⟩,
    ⟨some 16, none, .mv (.s 0)⟩,
    ⟨some 17, none, .len (.s 16)⟩,
    ⟨some 18, none, .bin .lss (.s 15) (.s 17)⟩] [] [0, 5, 6, 7, 8, 18]) c8_35) c8_34)
def c8_37 : ACode :=
  (.loop c8_36)
def c8_38 : ACode :=
  (.block 0 c8_37)
def c8_39 : ACode :=
  (.seq (.seq (.region false [⟨some 8, none, .cst (.t (.int .i64 0))⟩] [] [0, 5, 6, 7, 8]) c8_38) c8_3)
def c8_40 : ACode :=
  (.seq (.region false [⟨some 7, none, .cst (.nils)⟩] [] [0, 5, 6, 7]) c8_39)
def c8_41 : ACode :=
  (.seq (.region false [⟨some 6, none, .cst (.nils)⟩] [] [0, 5, 6]) c8_40)
def c8_42 : ACode :=
  (.seq (.region false [⟨some 5, none, .cst (.nils)⟩] [] [0, 5]) c8_41)
def c8 : ACode :=
  (.seq (.region false [⟨some 2, none, .cst (.nils)⟩,
    ⟨some 3, none, .cst (.nils)⟩,
    ⟨some 4, none, .cst (.nils)⟩] [] [0]) c8_42)
def r8 : List ARes := [.tmp 2, .tmp 3, .tmp 4]
def n8 : Nat := 106
/- 9 supergraph supergraphref25.SameKeys -/
def c9_0 : ACode :=
  (.seq (.region false [⟨some 4, none, .cst (.t (.bool true))⟩] [] [4]) .ret)
def c9_1 : ACode :=
  (.region false [⟨some 15, none, .mv (.s 5)⟩,
    ⟨some 16, none, .bin .add (.s 15) (.c (.t (.int .i64 1)))⟩,
    ⟨some 5, none, .mv (.s 16)⟩] [] [0, 1, 5])
def c9_2 : ACode :=
  (.seq (.region false [⟨some 4, none, .cst (.t (.bool false))⟩] [] [4]) .ret)
def c9_3 : ACode :=
  (.cond (.s 54) c9_2 .skip)
def c9_4 : ACode :=
  (.seq (.region true [⟨some 17, none, .mv (.s 0)⟩,
    ⟨some 18, none, .mv (.s 5)⟩,
    ⟨some 19, none, .ia 3 (.s 17) (.s 18)⟩,
    ⟨some 20, none, .fa 0 (.s 19)⟩,
    ⟨some 21, none, .ld false 1 (.s 20)⟩,
    ⟨some 22, none, .mv (.s 1)⟩,
    ⟨some 23, none, .mv (.s 5)⟩,
    ⟨some 24, none, .ia 3 (.s 22) (.s 23)⟩,
    ⟨some 25, none, .fa 0 (.s 24)⟩,
    ⟨some 26, none, .ld false 1 (.s 25)⟩,
    ⟨some 27, none, .bin .neq (.s 21) (.s 26)⟩,
    ⟨some 28, none, .mv (.s 27)⟩,
    ⟨some 29, some (28, false), .mv (.s 0)⟩,
    ⟨some 30, some (28, false), .mv (.s 5)⟩,
    ⟨some 31, some (28, false), .ia 3 (.s 29) (.s 30)⟩,
    ⟨some 32, some (28, false), .fa 1 (.s 31)⟩,
    ⟨some 33, some (28, false), .ld false 1 (.s 32)⟩,
    ⟨some 34, some (28, false), .mv (.s 1)⟩,
    ⟨some 35, some (28, false), .mv (.s 5)⟩,
    ⟨some 36, some (28, false), .ia 3 (.s 34) (.s 35)⟩,
    ⟨some 37, some (28, false), .fa 1 (.s 36)⟩,
    ⟨some 38, some (28, false), .ld false 1 (.s 37)⟩,
    ⟨some 39, some (28, false), .bin .neq (.s 33) (.s 38)⟩,
    ⟨some 40, none, .pick (.s 28) (.c (.t (.bool true))) (.s 39)⟩,
    ⟨some 41, none, .mv (.s 40)⟩,
    ⟨some 42, some (41, false), .mv (.s 0)⟩,
    ⟨some 43, some (41, false), .mv (.s 5)⟩,
    ⟨some 44, some (41, false), .ia 3 (.s 42) (.s 43)⟩,
    ⟨some 45, some (41, false), .fa 2 (.s 44)⟩,
    ⟨some 46, some (41, false), .ld false 1 (.s 45)⟩,
    ⟨some 47, some (41, false), .mv (.s 1)⟩,
    ⟨some 48, some (41, false), .mv (.s 5)⟩,
    ⟨some 49, some (41, false), .ia 3 (.s 47) (.s 48)⟩,
    ⟨some 50, some (41, false), .fa 2 (.s 49)⟩,
    ⟨some 51, some (41, false), .ld false 1 (.s 50)⟩,
    ⟨some 52, some (41, false), .call 27 [(.s 46), (.s 51)]⟩,
    ⟨some 53, some (41, false), .un .not (.s 52)⟩,
    ⟨some 54, none, .pick (.s 41) (.c (.t (.bool true))) (.s 53)⟩] [[], [], [0, 1], [2], [3], [], [], [5, 6], [7], [8], [4, 9], [10], [11], [11], [12, 13, 11], [14, 11], [15, 11], [11], [11], [17, 18, 11], [19, 11], [20, 11], [16, 21, 11], [11, 22], [23, 11], [24], [24], [25, 26, 24], [27, 24], [28, 24], [24], [24], [30, 31, 24], [32, 24], [33, 24], [29, 34, 24, 24], [35, 24], [24, 36]] [0, 1, 5, 54]) c9_3)
def c9_5 : ACode :=
  (.seq (.block 1 c9_4) c9_1)
def c9_6 : ACode :=
  (.cond (.s 14) .skip (.exit 0))
def c9_7 : ACode :=
  (.seq (.seq (.region false [⟨some 11, none, .mv (.s 5)⟩,
    ⟨some 12, none, .mv (.s 0)⟩,
    ⟨some 13, none, .len (.s 12)⟩,
    ⟨some 14, none, .bin .lss (.s 11) (.s 13)⟩] [] [0, 1, 5, 14]) c9_6) c9_5)
def c9_8 : ACode :=
  (.loop c9_7)
def c9_9 : ACode :=
  (.block 0 c9_8)
def c9_10 : ACode :=
  (.seq (.seq (.region false [⟨some 5, none, .cst (.t (.int .i64 0))⟩] [] [0, 1, 5]) c9_9) c9_0)
def c9_11 : ACode :=
  (.seq (.region false [⟨some 4, none, .cst (.t (.bool false))⟩] [] [4]) .ret)
def c9_12 : ACode :=
  (.cond (.s 10) c9_11 .skip)
def c9_13 : ACode :=
  (.seq (.seq (.region false [⟨some 6, none, .mv (.s 0)⟩,
    ⟨some 7, none, .len (.s 6)⟩,
    ⟨some 8, none, .mv (.s 1)⟩,
    ⟨some 9, none, .len (.s 8)⟩,
    ⟨some 10, none, .bin .neq (.s 7) (.s 9)⟩] [] [0, 1, 10]) c9_12) c9_10)
def c9 : ACode :=
  (.seq (.region false [⟨some 4, none, .cst (.t (.bool false))⟩] [] [0, 1]) c9_13)
def r9 : List ARes := [.tmp 4]
def n9 : Nat := 55
/- 10 supergraph supergraphref25.SameJoins -/
def c10_0 : ACode :=
  (.seq (.region false [⟨some 4, none, .cst (.t (.bool true))⟩] [] [4]) .ret)
def c10_1 : ACode :=
  (.region false [⟨some 15, none, .mv (.s 5)⟩,
    ⟨some 16, none, .bin .add (.s 15) (.c (.t (.int .i64 1)))⟩,
    ⟨some 5, none, .mv (.s 16)⟩] [] [0, 1, 5])
def c10_2 : ACode :=
  (.seq (.region false [⟨some 4, none, .cst (.t (.bool false))⟩] [] [4]) .ret)
def c10_3 : ACode :=
  (.cond (.s 26) c10_2 .skip)
def c10_4 : ACode :=
  (.seq (.region true [⟨some 17, none, .mv (.s 0)⟩,
    ⟨some 18, none, .mv (.s 5)⟩,
    ⟨some 19, none, .ia 6 (.s 17) (.s 18)⟩,
    ⟨some 20, none, .ld true 6 (.s 19)⟩,
    ⟨some 21, none, .mv (.s 1)⟩,
    ⟨some 22, none, .mv (.s 5)⟩,
    ⟨some 23, none, .ia 6 (.s 21) (.s 22)⟩,
    ⟨some 24, none, .ld true 6 (.s 23)⟩,
    ⟨some 25, none, .call 28 [(.s 20), (.s 24)]⟩,
    ⟨some 26, none, .un .not (.s 25)⟩] [[], [], [0, 1], [2], [], [], [4, 5], [6], [3, 7], [8]] [0, 1, 5, 26]) c10_3)
def c10_5 : ACode :=
  (.seq (.block 1 c10_4) c10_1)
def c10_6 : ACode :=
  (.cond (.s 14) .skip (.exit 0))
def c10_7 : ACode :=
  (.seq (.seq (.region false [⟨some 11, none, .mv (.s 5)⟩,
    ⟨some 12, none, .mv (.s 0)⟩,
    ⟨some 13, none, .len (.s 12)⟩,
    ⟨some 14, none, .bin .lss (.s 11) (.s 13)⟩] [] [0, 1, 5, 14]) c10_6) c10_5)
def c10_8 : ACode :=
  (.loop c10_7)
def c10_9 : ACode :=
  (.block 0 c10_8)
def c10_10 : ACode :=
  (.seq (.seq (.region false [⟨some 5, none, .cst (.t (.int .i64 0))⟩] [] [0, 1, 5]) c10_9) c10_0)
def c10_11 : ACode :=
  (.seq (.region false [⟨some 4, none, .cst (.t (.bool false))⟩] [] [4]) .ret)
def c10_12 : ACode :=
  (.cond (.s 10) c10_11 .skip)
def c10_13 : ACode :=
  (.seq (.seq (.region false [⟨some 6, none, .mv (.s 0)⟩,
    ⟨some 7, none, .len (.s 6)⟩,
    ⟨some 8, none, .mv (.s 1)⟩,
    ⟨some 9, none, .len (.s 8)⟩,
    ⟨some 10, none, .bin .neq (.s 7) (.s 9)⟩] [] [0, 1, 10]) c10_12) c10_10)
def c10 : ACode :=
  (.seq (.region false [⟨some 4, none, .cst (.t (.bool false))⟩] [] [0, 1]) c10_13)
def r10 : List ARes := [.tmp 4]
def n10 : Nat := 27
/- 11 supergraph supergraphref25.Faults -/
def c11_0 : ACode :=
  (.seq (.region false [⟨some 4, none, .cst (.t (.bool true))⟩] [] [4]) .ret)
def c11_1 : ACode :=
  (.region false [⟨some 15, none, .mv (.s 5)⟩,
    ⟨some 16, none, .bin .add (.s 15) (.c (.t (.int .i64 1)))⟩,
    ⟨some 5, none, .mv (.s 16)⟩] [] [0, 1, 5])
def c11_2 : ACode :=
  (.seq (.region false [⟨some 4, none, .cst (.t (.bool false))⟩] [] [4]) .ret)
def c11_3 : ACode :=
  (.cond (.s 25) c11_2 .skip)
def c11_4 : ACode :=
  (.seq (.region true [⟨some 17, none, .mv (.s 0)⟩,
    ⟨some 18, none, .mv (.s 5)⟩,
    ⟨some 19, none, .ia 2 (.s 17) (.s 18)⟩,
    ⟨some 20, none, .ld true 2 (.s 19)⟩,
    ⟨some 21, none, .mv (.s 1)⟩,
    ⟨some 22, none, .mv (.s 5)⟩,
    ⟨some 23, none, .ia 2 (.s 21) (.s 22)⟩,
    ⟨some 24, none, .ld true 2 (.s 23)⟩,
    ⟨some 25, none, .nw (.eqst true [.int .i64, .str] (.s 20) (.s 24))⟩] [[], [], [0, 1], [2], [], [], [4, 5], [6], [3, 7]] [0, 1, 5, 25]) c11_3)
def c11_5 : ACode :=
  (.seq (.block 1 c11_4) c11_1)
def c11_6 : ACode :=
  (.cond (.s 14) .skip (.exit 0))
def c11_7 : ACode :=
  (.seq (.seq (.region false [⟨some 11, none, .mv (.s 5)⟩,
    ⟨some 12, none, .mv (.s 0)⟩,
    ⟨some 13, none, .len (.s 12)⟩,
    ⟨some 14, none, .bin .lss (.s 11) (.s 13)⟩] [] [0, 1, 5, 14]) c11_6) c11_5)
def c11_8 : ACode :=
  (.loop c11_7)
def c11_9 : ACode :=
  (.block 0 c11_8)
def c11_10 : ACode :=
  (.seq (.seq (.region false [⟨some 5, none, .cst (.t (.int .i64 0))⟩] [] [0, 1, 5]) c11_9) c11_0)
def c11_11 : ACode :=
  (.seq (.region false [⟨some 4, none, .cst (.t (.bool false))⟩] [] [4]) .ret)
def c11_12 : ACode :=
  (.cond (.s 10) c11_11 .skip)
def c11_13 : ACode :=
  (.seq (.seq (.region false [⟨some 6, none, .mv (.s 0)⟩,
    ⟨some 7, none, .len (.s 6)⟩,
    ⟨some 8, none, .mv (.s 1)⟩,
    ⟨some 9, none, .len (.s 8)⟩,
    ⟨some 10, none, .bin .neq (.s 7) (.s 9)⟩] [] [0, 1, 10]) c11_12) c11_10)
def c11 : ACode :=
  (.seq (.region false [⟨some 4, none, .cst (.t (.bool false))⟩] [] [0, 1]) c11_13)
def r11 : List ARes := [.tmp 4]
def n11 : Nat := 26
/- 12 supergraph supergraphref25.Size -/
def c12_0 : ACode :=
  (.seq (.region false [⟨some 79, none, .mv (.s 5)⟩,
    ⟨some 4, none, .mv (.s 79)⟩] [] [4]) .ret)
def c12_1 : ACode :=
  (.region false [⟨some 22, none, .mv (.s 6)⟩,
    ⟨some 23, none, .bin .add (.s 22) (.c (.t (.int .i64 1)))⟩,
    ⟨some 6, none, .mv (.s 23)⟩] [] [1, 2, 5, 6])
def c12_2 : ACode :=
  (.region false [⟨some 60, none, .mv (.s 8)⟩,
    ⟨some 61, none, .bin .add (.s 60) (.c (.t (.int .i64 1)))⟩,
    ⟨some 8, none, .mv (.s 61)⟩] [] [1, 2, 5, 6, 7, 8])
def c12_3 : ACode :=
  (.region true [⟨some 62, none, .mv (.s 5)⟩,
    ⟨some 63, none, .fa 4 (.s 7)⟩,
    ⟨some 64, none, .ld false 1 (.s 63)⟩,
    ⟨some 65, none, .mv (.s 8)⟩,
    ⟨some 66, none, .ia 5 (.s 64) (.s 65)⟩,
    ⟨some 67, none, .fa 1 (.s 66)⟩,
    ⟨some 68, none, .ld false 1 (.s 67)⟩,
    ⟨some 69, none, .len (.s 68)⟩,
    ⟨some 70, none, .bin .add (.s 62) (.s 69)⟩,
    ⟨some 71, none, .fa 4 (.s 7)⟩,
    ⟨some 72, none, .ld false 1 (.s 71)⟩,
    ⟨some 73, none, .mv (.s 8)⟩,
    ⟨some 74, none, .ia 5 (.s 72) (.s 73)⟩,
    ⟨some 75, none, .fa 4 (.s 74)⟩,
    ⟨some 76, none, .ld false 1 (.s 75)⟩,
    ⟨some 77, none, .len (.s 76)⟩,
    ⟨some 78, none, .bin .add (.s 70) (.s 77)⟩,
    ⟨some 5, none, .mv (.s 78)⟩] [[], [], [1], [], [2, 3], [4], [5], [6], [0, 7], [], [9], [], [10, 11], [12], [13], [14], [8, 15], [16, 0, 1, 2, 3, 4, 5, 6, 7, 8, 9, 10, 11, 12, 13, 14, 15, 16]] [1, 2, 5, 6, 7, 8])
def c12_4 : ACode :=
  (.seq (.block 3 c12_3) c12_2)
def c12_5 : ACode :=
  (.cond (.s 59) .skip (.exit 2))
def c12_6 : ACode :=
  (.seq (.seq (.region false [⟨some 50, none, .mv (.s 8)⟩,
    ⟨some 51, none, .fa 4 (.s 7)⟩,
    ⟨some 52, none, .ld false 1 (.s 51)⟩,
    ⟨some 53, none, .len (.s 52)⟩,
    ⟨some 54, none, .bin .lss (.s 50) (.s 53)⟩,
    ⟨some 55, none, .mv (.s 54)⟩,
    ⟨some 56, some (55, true), .mv (.s 5)⟩,
    ⟨some 57, some (55, true), .mv (.s 1)⟩,
    ⟨some 58, some (55, true), .bin .leq (.s 56) (.s 57)⟩,
    ⟨some 59, none, .pick (.s 55) (.s 58) (.c (.t (.bool false)))⟩] [] [1, 2, 5, 6, 7, 8, 59]) c12_5) c12_4)
def c12_7 : ACode :=
  (.loop c12_6)
def c12_8 : ACode :=
  (.block 2 c12_7)
def c12_9 : ACode :=
  (.seq (.region false [⟨some 8, none, .cst (.t (.int .i64 0))⟩] [] [1, 2, 5, 6, 7, 8]) c12_8)
def c12_10 : ACode :=
  (.seq (.region false [⟨some 29, none, .mv (.s 5)⟩,
    ⟨some 30, none, .fa 2 (.s 7)⟩,
    ⟨some 31, none, .ld false 1 (.s 30)⟩,
    ⟨some 32, none, .len (.s 31)⟩,
    ⟨some 33, none, .bin .add (.s 29) (.s 32)⟩,
    ⟨some 34, none, .fa 3 (.s 7)⟩,
    ⟨some 35, none, .ld false 1 (.s 34)⟩,
    ⟨some 36, none, .len (.s 35)⟩,
    ⟨some 37, none, .bin .add (.s 33) (.s 36)⟩,
    ⟨some 38, none, .fa 4 (.s 7)⟩,
    ⟨some 39, none, .ld false 1 (.s 38)⟩,
    ⟨some 40, none, .len (.s 39)⟩,
    ⟨some 41, none, .bin .add (.s 37) (.s 40)⟩,
    ⟨some 42, none, .fa 5 (.s 7)⟩,
    ⟨some 43, none, .ld false 1 (.s 42)⟩,
    ⟨some 44, none, .len (.s 43)⟩,
    ⟨some 45, none, .bin .add (.s 41) (.s 44)⟩,
    ⟨some 46, none, .fa 6 (.s 7)⟩,
    ⟨some 47, none, .ld false 1 (.s 46)⟩,
    ⟨some 48, none, .len (.s 47)⟩,
    ⟨some 49, none, .bin .add (.s 45) (.s 48)⟩,
    ⟨some 5, none, .mv (.s 49)⟩] [] [1, 2, 5, 6, 7]) c12_9)
def c12_11 : ACode :=
  (.seq (.region false [⟨some 24, none, .fa 0 (.s 2)⟩,
    ⟨some 25, none, .ld false 1 (.s 24)⟩,
    ⟨some 26, none, .mv (.s 6)⟩,
    ⟨some 27, none, .ia 7 (.s 25) (.s 26)⟩,
    ⟨some 28, none, .ld true 7 (.s 27)⟩,
    ⟨some 7, none, .alloc [.t (.int .i64 0), .t (.str []), .nils, .nils, .nils, .nils, .nils]⟩,
    ⟨none, none, .st 7 (.s 7) (.s 28)⟩] [] [1, 2, 5, 6, 7]) c12_10)
def c12_12 : ACode :=
  (.seq (.block 1 c12_11) c12_1)
def c12_13 : ACode :=
  (.cond (.s 21) .skip (.exit 0))
def c12_14 : ACode :=
  (.seq (.seq (.region false [⟨some 12, none, .mv (.s 6)⟩,
    ⟨some 13, none, .fa 0 (.s 2)⟩,
    ⟨some 14, none, .ld false 1 (.s 13)⟩,
    ⟨some 15, none, .len (.s 14)⟩,
    ⟨some 16, none, .bin .lss (.s 12) (.s 15)⟩,
    ⟨some 17, none, .mv (.s 16)⟩,
    ⟨some 18, some (17, true), .mv (.s 5)⟩,
    ⟨some 19, some (17, true), .mv (.s 1)⟩,
    ⟨some 20, some (17, true), .bin .leq (.s 18) (.s 19)⟩,
    ⟨some 21, none, .pick (.s 17) (.s 20) (.c (.t (.bool false)))⟩] [] [1, 2, 5, 6, 21]) c12_13) c12_12)
def c12_15 : ACode :=
  (.loop c12_14)
def c12_16 : ACode :=
  (.block 0 c12_15)
def c12_17 : ACode :=
  (.seq (.seq (.region false [⟨some 6, none, .cst (.t (.int .i64 0))⟩] [] [1, 2, 5, 6]) c12_16) c12_0)
def c12_18 : ACode :=
  (.seq (.region false [⟨some 9, none, .fa 0 (.s 2)⟩,
    ⟨some 10, none, .ld false 1 (.s 9)⟩,
    ⟨some 11, none, .len (.s 10)⟩,
    ⟨some 5, none, .mv (.s 11)⟩] [] [1, 2, 5]) c12_17)
def c12 : ACode :=
  (.seq (.region false [⟨some 2, none, .box 1 (.s 0)⟩,
    ⟨some 4, none, .cst (.t (.int .i64 0))⟩] [] [1, 2]) c12_18)
def r12 : List ARes := [.tmp 4]
def n12 : Nat := 80
/- 13 supergraph supergraphref10.Check -/
def c13_0 : ACode :=
  (.seq (.region false [⟨some 68, none, .mv (.s 5)⟩,
    ⟨some 4, none, .mv (.s 68)⟩] [] [4]) .ret)
def c13_1 : ACode :=
  (.region false [⟨some 64, none, .mv (.s 5)⟩,
    ⟨some 65, none, .build [.t (.int .i64 0), .t (.str [])] [(0, 1, (.c (.t (.int .i64 30)))), (1, 1, (.c (.t (.str [81, 117, 101, 114, 121]))))]⟩,
    ⟨some 66, none, .bsl false 2 [[.int .i64 0, .str []]] [(0, (.s 65))]⟩,
    ⟨some 67, none, .app 2 24 (.s 64) (.s 66)⟩,
    ⟨some 5, none, .mv (.s 67)⟩] [] [5])
def c13_2 : ACode :=
  (.cond (.s 63) c13_1 .skip)
def c13_3 : ACode :=
  (.seq (.seq (.region false [⟨some 59, none, .mv (.s 1)⟩,
    ⟨some 60, none, .mv (.s 59)⟩,
    ⟨some 61, some (60, true), .mv (.s 9)⟩,
    ⟨some 62, some (60, true), .un .not (.s 61)⟩,
    ⟨some 63, none, .pick (.s 60) (.s 62) (.c (.t (.bool false)))⟩] [] [5, 63]) c13_2) c13_0)
def c13_4 : ACode :=
  (.seq (.region false [⟨some 55, none, .ld true 1 (.s 2)⟩,
    ⟨some 56, none, .call 33 [(.s 55), (.c (.t (.str [81, 117, 101, 114, 121])))]⟩,
    ⟨some 54, none, .mv (.s 56)⟩,
    ⟨some 57, none, .ext (.s 54) 0⟩,
    ⟨some 58, none, .ext (.s 54) 1⟩,
    ⟨some 8, none, .alloc [.t (.int .i64 0), .t (.str []), .nils, .nils, .nils, .nils, .nils]⟩,
    ⟨none, none, .st 7 (.s 8) (.s 57)⟩,
    ⟨some 9, none, .mv (.s 58)⟩] [] [1, 5, 9]) c13_3)
def c13_5 : ACode :=
  (.region false [⟨some 15, none, .mv (.s 6)⟩,
    ⟨some 16, none, .bin .add (.s 15) (.c (.t (.int .i64 1)))⟩,
    ⟨some 6, none, .mv (.s 16)⟩] [] [1, 2, 5, 6])
def c13_6 : ACode :=
  (.region false [⟨some 32, none, .mv (.s 5)⟩,
    ⟨some 33, none, .ld true 1 (.s 2)⟩,
    ⟨some 34, none, .ld true 7 (.s 7)⟩,
    ⟨some 35, none, .call 30 [(.s 33), (.s 34)]⟩,
    ⟨some 36, none, .app 2 24 (.s 32) (.s 35)⟩,
    ⟨some 5, none, .mv (.s 36)⟩] [] [1, 2, 5, 6])
def c13_7 : ACode :=
  (.region false [⟨some 39, none, .mv (.s 5)⟩,
    ⟨some 40, none, .ld true 7 (.s 7)⟩,
    ⟨some 41, none, .call 31 [(.s 40)]⟩,
    ⟨some 42, none, .app 2 24 (.s 39) (.s 41)⟩,
    ⟨some 5, none, .mv (.s 42)⟩] [] [1, 2, 5, 6])
def c13_8 : ACode :=
  (.region false [⟨some 45, none, .mv (.s 5)⟩,
    ⟨some 46, none, .ld true 1 (.s 2)⟩,
    ⟨some 47, none, .fa 6 (.s 7)⟩,
    ⟨some 48, none, .ld false 1 (.s 47)⟩,
    ⟨some 49, none, .fa 1 (.s 7)⟩,
    ⟨some 50, none, .ld false 1 (.s 49)⟩,
    ⟨some 51, none, .bin .add (.s 50) (.c (.t (.str [46])))⟩,
    ⟨some 52, none, .call 32 [(.s 46), (.s 48), (.s 51), (.c (.t (.str [])))]⟩,
    ⟨some 53, none, .app 2 24 (.s 45) (.s 52)⟩,
    ⟨some 5, none, .mv (.s 53)⟩] [] [1, 2, 5, 6])
def c13_9 : ACode :=
  (.cond (.s 43) c13_8 .skip)
def c13_10 : ACode :=
  (.seq (.region false [⟨some 44, none, .bin .eql (.s 28) (.c (.t (.int .i64 5)))⟩,
    ⟨some 43, none, .mv (.s 44)⟩] [] [1, 2, 5, 6, 7, 43]) c13_9)
def c13_11 : ACode :=
  (.cond (.s 37) c13_7 c13_10)
def c13_12 : ACode :=
  (.seq (.region false [⟨some 38, none, .bin .eql (.s 28) (.c (.t (.int .i64 4)))⟩,
    ⟨some 37, none, .mv (.s 38)⟩] [] [1, 2, 5, 6, 7, 28, 37]) c13_11)
def c13_13 : ACode :=
  (.cond (.s 29) c13_6 c13_12)
def c13_14 : ACode :=
  (.region false [⟨some 31, none, .bin .eql (.s 28) (.c (.t (.int .i64 2)))⟩,
    ⟨some 29, none, .mv (.s 31)⟩] [] [1, 2, 5, 6, 7, 28, 29])
def c13_15 : ACode :=
  (.cond (.s 29) .skip c13_14)
def c13_16 : ACode :=
  (.seq (.seq (.region false [⟨some 30, none, .bin .eql (.s 28) (.c (.t (.int .i64 1)))⟩,
    ⟨some 29, none, .mv (.s 30)⟩] [] [1, 2, 5, 6, 7, 28, 29]) c13_15) c13_13)
def c13_17 : ACode :=
  (.block 2 c13_16)
def c13_18 : ACode :=
  (.seq (.region false [⟨some 27, none, .fa 0 (.s 7)⟩,
    ⟨some 28, none, .ld false 1 (.s 27)⟩] [] [1, 2, 5, 6, 7, 28]) c13_17)
def c13_19 : ACode :=
  (.seq (.region false [⟨some 22, none, .mv (.s 5)⟩,
    ⟨some 23, none, .ld true 1 (.s 2)⟩,
    ⟨some 24, none, .mv (.s 6)⟩,
    ⟨some 25, none, .call 29 [(.s 23), (.s 24)]⟩,
    ⟨some 26, none, .app 2 24 (.s 22) (.s 25)⟩,
    ⟨some 5, none, .mv (.s 26)⟩] [] [1, 2, 5, 6, 7]) c13_18)
def c13_20 : ACode :=
  (.seq (.region false [⟨some 17, none, .fa 0 (.s 2)⟩,
    ⟨some 18, none, .ld false 1 (.s 17)⟩,
    ⟨some 19, none, .mv (.s 6)⟩,
    ⟨some 20, none, .ia 7 (.s 18) (.s 19)⟩,
    ⟨some 21, none, .ld true 7 (.s 20)⟩,
    ⟨some 7, none, .alloc [.t (.int .i64 0), .t (.str []), .nils, .nils, .nils, .nils, .nils]⟩,
    ⟨none, none, .st 7 (.s 7) (.s 21)⟩] [] [1, 2, 5, 6, 7]) c13_19)
def c13_21 : ACode :=
  (.seq (.block 1 c13_20) c13_5)
def c13_22 : ACode :=
  (.cond (.s 14) .skip (.exit 0))
def c13_23 : ACode :=
  (.seq (.seq (.region false [⟨some 10, none, .mv (.s 6)⟩,
    ⟨some 11, none, .fa 0 (.s 2)⟩,
    ⟨some 12, none, .ld false 1 (.s 11)⟩,
    ⟨some 13, none, .len (.s 12)⟩,
    ⟨some 14, none, .bin .lss (.s 10) (.s 13)⟩] [] [1, 2, 5, 6, 14]) c13_22) c13_21)
def c13_24 : ACode :=
  (.loop c13_23)
def c13_25 : ACode :=
  (.block 0 c13_24)
def c13_26 : ACode :=
  (.seq (.seq (.region false [⟨some 6, none, .cst (.t (.int .i64 0))⟩] [] [1, 2, 5, 6]) c13_25) c13_4)
def c13_27 : ACode :=
  (.seq (.region false [⟨some 5, none, .cst (.nils)⟩] [] [1, 2, 5]) c13_26)
def c13 : ACode :=
  (.seq (.region false [⟨some 2, none, .box 1 (.s 0)⟩,
    ⟨some 4, none, .cst (.nils)⟩] [] [1, 2]) c13_27)
def r13 : List ARes := [.tmp 4]
def n13 : Nat := 69
/- 14 supergraph supergraphref23.Check -/
def c14_0 : ACode :=
  (.seq (.region false [⟨some 80, none, .mv (.s 3)⟩,
    ⟨some 2, none, .mv (.s 80)⟩] [] [2]) .ret)
def c14_1 : ACode :=
  (.region false [⟨some 13, none, .mv (.s 4)⟩,
    ⟨some 14, none, .bin .add (.s 13) (.c (.t (.int .i64 1)))⟩,
    ⟨some 4, none, .mv (.s 14)⟩] [] [1, 3, 4])
def c14_2 : ACode :=
  (.region false [⟨some 36, none, .mv (.s 3)⟩,
    ⟨some 37, none, .ld true 7 (.s 5)⟩,
    ⟨some 38, none, .call 35 [(.s 37)]⟩,
    ⟨some 39, none, .app 2 24 (.s 36) (.s 38)⟩,
    ⟨some 3, none, .mv (.s 39)⟩] [] [1, 3, 4])
def c14_3 : ACode :=
  (.region false [⟨some 42, none, .mv (.s 3)⟩,
    ⟨some 43, none, .ld true 7 (.s 5)⟩,
    ⟨some 44, none, .call 36 [(.s 43), (.c (.t (.int .i64 6)))]⟩,
    ⟨some 45, none, .app 2 24 (.s 42) (.s 44)⟩,
    ⟨some 3, none, .mv (.s 45)⟩] [] [1, 3, 4])
def c14_4 : ACode :=
  (.region false [⟨some 48, none, .mv (.s 3)⟩,
    ⟨some 49, none, .ld true 7 (.s 5)⟩,
    ⟨some 50, none, .call 36 [(.s 49), (.c (.t (.int .i64 5)))]⟩,
    ⟨some 51, none, .app 2 24 (.s 48) (.s 50)⟩,
    ⟨some 3, none, .mv (.s 51)⟩] [] [1, 3, 4])
def c14_5 : ACode :=
  (.region false [⟨some 59, none, .mv (.s 7)⟩,
    ⟨some 60, none, .bin .add (.s 59) (.c (.t (.int .i64 1)))⟩,
    ⟨some 7, none, .mv (.s 60)⟩] [] [1, 3, 4, 5, 7])
def c14_6 : ACode :=
  (.region true [⟨some 61, none, .mv (.s 3)⟩,
    ⟨some 62, none, .fa 6 (.s 5)⟩,
    ⟨some 63, none, .ld false 1 (.s 62)⟩,
    ⟨some 64, none, .mv (.s 7)⟩,
    ⟨some 65, none, .ia 10 (.s 63) (.s 64)⟩,
    ⟨some 66, none, .fa 9 (.s 65)⟩,
    ⟨some 67, none, .ld false 1 (.s 66)⟩,
    ⟨some 68, none, .fa 1 (.s 5)⟩,
    ⟨some 69, none, .ld false 1 (.s 68)⟩,
    ⟨some 70, none, .bin .add (.s 69) (.c (.t (.str [46])))⟩,
    ⟨some 71, none, .fa 6 (.s 5)⟩,
    ⟨some 72, none, .ld false 1 (.s 71)⟩,
    ⟨some 73, none, .mv (.s 7)⟩,
    ⟨some 74, none, .ia 10 (.s 72) (.s 73)⟩,
    ⟨some 75, none, .fa 0 (.s 74)⟩,
    ⟨some 76, none, .ld false 1 (.s 75)⟩,
    ⟨some 77, none, .bin .add (.s 70) (.s 76)⟩,
    ⟨some 78, none, .call 34 [(.s 67), (.c (.t (.int .i64 6))), (.s 77)]⟩,
    ⟨some 79, none, .app 2 24 (.s 61) (.s 78)⟩,
    ⟨some 3, none, .mv (.s 79)⟩] [[], [], [1], [], [2, 3], [4], [5], [], [7], [8], [], [10], [], [11, 12], [13], [14], [9, 15], [6, 16], [0, 17, 17], [18, 18, 0, 1, 2, 3, 4, 5, 6, 7, 8, 9, 10, 11, 12, 13, 14, 15, 16, 17, 18]] [1, 3, 4, 5, 7])
def c14_7 : ACode :=
  (.seq (.block 4 c14_6) c14_5)
def c14_8 : ACode :=
  (.cond (.s 58) .skip (.exit 3))
def c14_9 : ACode :=
  (.seq (.seq (.region false [⟨some 54, none, .mv (.s 7)⟩,
    ⟨some 55, none, .fa 6 (.s 5)⟩,
    ⟨some 56, none, .ld false 1 (.s 55)⟩,
    ⟨some 57, none, .len (.s 56)⟩,
    ⟨some 58, none, .bin .lss (.s 54) (.s 57)⟩] [] [1, 3, 4, 5, 7, 58]) c14_8) c14_7)
def c14_10 : ACode :=
  (.loop c14_9)
def c14_11 : ACode :=
  (.block 3 c14_10)
def c14_12 : ACode :=
  (.seq (.region false [⟨some 7, none, .cst (.t (.int .i64 0))⟩] [] [1, 3, 4, 5, 7]) c14_11)
def c14_13 : ACode :=
  (.cond (.s 52) c14_12 .skip)
def c14_14 : ACode :=
  (.seq (.region false [⟨some 53, none, .bin .eql (.s 32) (.c (.t (.int .i64 5)))⟩,
    ⟨some 52, none, .mv (.s 53)⟩] [] [1, 3, 4, 5, 52]) c14_13)
def c14_15 : ACode :=
  (.cond (.s 46) c14_4 c14_14)
def c14_16 : ACode :=
  (.seq (.region false [⟨some 47, none, .bin .eql (.s 32) (.c (.t (.int .i64 4)))⟩,
    ⟨some 46, none, .mv (.s 47)⟩] [] [1, 3, 4, 5, 32, 46]) c14_15)
def c14_17 : ACode :=
  (.cond (.s 40) c14_3 c14_16)
def c14_18 : ACode :=
  (.seq (.region false [⟨some 41, none, .bin .eql (.s 32) (.c (.t (.int .i64 3)))⟩,
    ⟨some 40, none, .mv (.s 41)⟩] [] [1, 3, 4, 5, 32, 40]) c14_17)
def c14_19 : ACode :=
  (.cond (.s 33) c14_2 c14_18)
def c14_20 : ACode :=
  (.region false [⟨some 35, none, .bin .eql (.s 32) (.c (.t (.int .i64 2)))⟩,
    ⟨some 33, none, .mv (.s 35)⟩] [] [1, 3, 4, 5, 32, 33])
def c14_21 : ACode :=
  (.cond (.s 33) .skip c14_20)
def c14_22 : ACode :=
  (.seq (.seq (.region false [⟨some 34, none, .bin .eql (.s 32) (.c (.t (.int .i64 1)))⟩,
    ⟨some 33, none, .mv (.s 34)⟩] [] [1, 3, 4, 5, 32, 33]) c14_21) c14_19)
def c14_23 : ACode :=
  (.block 2 c14_22)
def c14_24 : ACode :=
  (.seq (.region false [⟨some 31, none, .fa 0 (.s 5)⟩,
    ⟨some 32, none, .ld false 1 (.s 31)⟩] [] [1, 3, 4, 5, 32]) c14_23)
def c14_25 : ACode :=
  (.seq (.region false [⟨some 23, none, .mv (.s 3)⟩,
    ⟨some 24, none, .fa 3 (.s 5)⟩,
    ⟨some 25, none, .ld false 1 (.s 24)⟩,
    ⟨some 26, none, .mv (.s 6)⟩,
    ⟨some 27, none, .fa 1 (.s 5)⟩,
    ⟨some 28, none, .ld false 1 (.s 27)⟩,
    ⟨some 29, none, .call 34 [(.s 25), (.s 26), (.s 28)]⟩,
    ⟨some 30, none, .app 2 24 (.s 23) (.s 29)⟩,
    ⟨some 3, none, .mv (.s 30)⟩] [] [1, 3, 4, 5]) c14_24)
def c14_26 : ACode :=
  (.region false [⟨some 6, none, .cst (.t (.int .i64 1))⟩] [] [1, 3, 4, 5, 6])
def c14_27 : ACode :=
  (.cond (.s 22) c14_26 .skip)
def c14_28 : ACode :=
  (.seq (.seq (.region false [⟨some 20, none, .fa 0 (.s 5)⟩,
    ⟨some 21, none, .ld false 1 (.s 20)⟩,
    ⟨some 22, none, .bin .eql (.s 21) (.c (.t (.int .i64 1)))⟩] [] [1, 3, 4, 5, 6, 22]) c14_27) c14_25)
def c14_29 : ACode :=
  (.seq (.region false [⟨some 6, none, .cst (.t (.int .i64 2))⟩] [] [1, 3, 4, 5, 6]) c14_28)
def c14_30 : ACode :=
  (.seq (.region false [⟨some 15, none, .fa 0 (.s 1)⟩,
    ⟨some 16, none, .ld false 1 (.s 15)⟩,
    ⟨some 17, none, .mv (.s 4)⟩,
    ⟨some 18, none, .ia 7 (.s 16) (.s 17)⟩,
    ⟨some 19, none, .ld true 7 (.s 18)⟩,
    ⟨some 5, none, .alloc [.t (.int .i64 0), .t (.str []), .nils, .nils, .nils, .nils, .nils]⟩,
    ⟨none, none, .st 7 (.s 5) (.s 19)⟩] [] [1, 3, 4, 5]) c14_29)
def c14_31 : ACode :=
  (.seq (.block 1 c14_30) c14_1)
def c14_32 : ACode :=
  (.cond (.s 12) .skip (.exit 0))
def c14_33 : ACode :=
  (.seq (.seq (.region false [⟨some 8, none, .mv (.s 4)⟩,
    ⟨some 9, none, .fa 0 (.s 1)⟩,
    ⟨some 10, none, .ld false 1 (.s 9)⟩,
    ⟨some 11, none, .len (.s 10)⟩,
    ⟨some 12, none, .bin .lss (.s 8) (.s 11)⟩] [] [1, 3, 4, 12]) c14_32) c14_31)
def c14_34 : ACode :=
  (.loop c14_33)
def c14_35 : ACode :=
  (.block 0 c14_34)
def c14_36 : ACode :=
  (.seq (.seq (.region false [⟨some 4, none, .cst (.t (.int .i64 0))⟩] [] [1, 3, 4]) c14_35) c14_0)
def c14_37 : ACode :=
  (.seq (.region false [⟨some 3, none, .cst (.nils)⟩] [] [1, 3]) c14_36)
def c14 : ACode :=
  (.seq (.region false [⟨some 1, none, .box 1 (.s 0)⟩,
    ⟨some 2, none, .cst (.nils)⟩] [] [1]) c14_37)
def r14 : List ARes := [.tmp 2]
def n14 : Nat := 81
/- 15 supergraph supergraphlaw25.user -/
def c15_0 : ACode :=
  (.seq (.region false [⟨some 23, none, .mv (.s 0)⟩,
    ⟨some 24, none, .ld true 7 (.s 7)⟩,
    ⟨some 25, none, .bsl true 7 [[.int .i64 0, .str [], .lst [], .lst [], .lst [], .lst [], .lst []]] [(0, (.s 24))]⟩,
    ⟨some 26, none, .build [.nils] [(0, 1, (.s 25))]⟩,
    ⟨some 27, none, .build [.t (.str []), .nils] [(0, 1, (.s 23)), (1, 1, (.s 26))]⟩,
    ⟨none, none, .st 2 (.s 4) (.s 27)⟩] [] [4]) .ret)
def c15_1 : ACode :=
  (.seq (.region false [⟨some 15, none, .ld true 2 (.s 6)⟩,
    ⟨some 16, none, .bsl true 2 [[.str [], .lst []]] [(0, (.s 15))]⟩,
    ⟨some 17, none, .ld true 5 (.s 5)⟩,
    ⟨some 18, none, .mv (.s 1)⟩,
    ⟨some 19, none, .build [.t (.str []), .nils] [(0, 1, (.c (.t (.str [83, 116, 114, 105, 110, 103]))))]⟩,
    ⟨some 20, none, .build [.t (.str []), .nils, .t (.str []), .nils, .nils] [(0, 1, (.s 18)), (2, 2, (.s 19))]⟩,
    ⟨some 21, none, .bsl true 5 [[.str [], .lst [], .str [], .lst [], .lst []], [.str [], .lst [], .str [], .lst [], .lst []]] [(0, (.s 17)), (1, (.s 20))]⟩,
    ⟨some 22, none, .build [.t (.int .i64 0), .t (.str []), .nils, .nils, .nils, .nils, .nils] [(0, 1, (.c (.t (.int .i64 1)))), (1, 1, (.c (.t (.str [85, 115, 101, 114])))), (3, 1, (.s 16)), (4, 1, (.s 21))]⟩,
    ⟨some 7, none, .alloc [.t (.int .i64 0), .t (.str []), .nils, .nils, .nils, .nils, .nils]⟩,
    ⟨none, none, .st 7 (.s 7) (.s 22)⟩] [] [0, 4, 7]) c15_0)
def c15_2 : ACode :=
  (.seq (.region false [⟨some 11, none, .build [.t (.int .i64 0), .t (.int .i64 0), .t (.str []), .nils, .nils] [(0, 1, (.c (.t (.int .i64 3)))), (2, 1, (.c (.t (.str [105, 100]))))]⟩,
    ⟨some 12, none, .build [.t (.str []), .t (.int .i64 0), .t (.int .i64 0), .t (.str []), .nils, .nils] [(0, 1, (.c (.t (.str [102, 105, 101, 108, 100, 115])))), (1, 5, (.s 11))]⟩,
    ⟨some 13, none, .bsl true 6 [[.str [], .int .i64 0, .int .i64 0, .str [], .lst [], .lst []]] [(0, (.s 12))]⟩,
    ⟨some 14, none, .build [.t (.str []), .nils] [(0, 1, (.c (.t (.str [107, 101, 121])))), (1, 1, (.s 13))]⟩,
    ⟨some 6, none, .alloc [.t (.str []), .nils]⟩,
    ⟨none, none, .st 2 (.s 6) (.s 14)⟩] [] [0, 1, 4, 5, 6]) c15_1)
def c15_3 : ACode :=
  (.seq (.region false [⟨some 8, none, .bsl true 1 [[.int .i64 0]] [(0, (.c (.t (.int .i64 1))))]⟩,
    ⟨some 9, none, .build [.t (.str []), .nils] [(0, 1, (.c (.t (.str [73, 68])))), (1, 1, (.s 8))]⟩,
    ⟨some 10, none, .build [.t (.str []), .nils, .t (.str []), .nils, .nils] [(0, 1, (.c (.t (.str [105, 100])))), (2, 2, (.s 9))]⟩,
    ⟨some 5, none, .alloc [.t (.str []), .nils, .t (.str []), .nils, .nils]⟩,
    ⟨none, none, .st 5 (.s 5) (.s 10)⟩] [] [0, 1, 4, 5]) c15_2)
def c15 : ACode :=
  (.seq (.region false [⟨some 4, none, .alloc [.t (.str []), .nils]⟩] [] [0, 1, 4]) c15_3)
def r15 : List ARes := [.cell 4 true 2]
def n15 : Nat := 28
/- 16 supergraph moves.Find -/
def c16_0 : ACode :=
  (.seq (.region false [⟨some 45, none, .build [.t (.str []), .t (.str []), .t (.int .i64 0), .t (.bool false), .nils, .nils] []⟩,
    ⟨none, none, .st 6 (.s 8) (.s 45)⟩,
    ⟨some 9, none, .cst (.t (.bool false))⟩] [] [8, 9]) .ret)
def c16_1 : ACode :=
  (.region false [⟨some 44, none, .bin .add (.s 15) (.c (.t (.int .i64 1)))⟩,
    ⟨some 15, none, .mv (.s 44)⟩] [] [1, 2, 3, 8, 13, 14, 15])
def c16_2 : ACode :=
  (.seq (.region false [⟨some 43, none, .ld true 6 (.s 11)⟩,
    ⟨none, none, .st 6 (.s 8) (.s 43)⟩,
    ⟨some 9, none, .cst (.t (.bool true))⟩] [] [8, 9]) .ret)
def c16_3 : ACode :=
  (.seq (.region true [⟨some 35, none, .fa 4 (.s 11)⟩,
    ⟨some 36, none, .ld false 1 (.s 35)⟩,
    ⟨some 37, none, .call 37 [(.s 36)]⟩,
    ⟨some 38, none, .fa 5 (.s 11)⟩,
    ⟨some 39, none, .ld false 1 (.s 38)⟩,
    ⟨some 40, none, .call 37 [(.s 39)]⟩,
    ⟨some 41, none, .fa 4 (.s 11)⟩,
    ⟨none, none, .st 1 (.s 41) (.s 37)⟩,
    ⟨some 42, none, .fa 5 (.s 11)⟩,
    ⟨none, none, .st 1 (.s 42) (.s 40)⟩] [[], [0], [1], [], [3], [4, 2], [0, 1, 2, 3, 4], [6, 2, 5, 0, 1, 2, 3, 4], [0, 1, 2, 3, 4, 5, 6, 7], [8, 5, 7, 0, 1, 2, 3, 4, 5, 6, 7]] [8, 11]) c16_2)
def c16_4 : ACode :=
  (.cond (.s 34) c16_3 .skip)
def c16_5 : ACode :=
  (.seq (.region false [⟨some 19, none, .fa 0 (.s 11)⟩,
    ⟨some 20, none, .ld false 1 (.s 19)⟩,
    ⟨some 21, none, .mv (.s 1)⟩,
    ⟨some 22, none, .bin .eql (.s 20) (.s 21)⟩,
    ⟨some 23, none, .mv (.s 22)⟩,
    ⟨some 24, some (23, true), .fa 1 (.s 11)⟩,
    ⟨some 25, some (23, true), .ld false 1 (.s 24)⟩,
    ⟨some 26, some (23, true), .mv (.s 2)⟩,
    ⟨some 27, some (23, true), .bin .eql (.s 25) (.s 26)⟩,
    ⟨some 28, none, .pick (.s 23) (.s 27) (.c (.t (.bool false)))⟩,
    ⟨some 29, none, .mv (.s 28)⟩,
    ⟨some 30, some (29, true), .fa 2 (.s 11)⟩,
    ⟨some 31, some (29, true), .ld false 1 (.s 30)⟩,
    ⟨some 32, some (29, true), .mv (.s 3)⟩,
    ⟨some 33, some (29, true), .bin .eql (.s 31) (.s 32)⟩,
    ⟨some 34, none, .pick (.s 29) (.s 33) (.c (.t (.bool false)))⟩] [] [1, 2, 3, 8, 11, 13, 14, 15, 34]) c16_4)
def c16_6 : ACode :=
  (.seq (.region false [⟨some 17, none, .ia 6 (.s 13) (.s 15)⟩,
    ⟨some 18, none, .ld true 6 (.s 17)⟩,
    ⟨some 11, none, .alloc [.t (.str []), .t (.str []), .t (.int .i64 0), .t (.bool false), .nils, .nils]⟩,
    ⟨none, none, .st 6 (.s 11) (.s 18)⟩] [] [1, 2, 3, 8, 11, 13, 14, 15]) c16_5)
def c16_7 : ACode :=
  (.seq (.block 1 c16_6) c16_1)
def c16_8 : ACode :=
  (.seq (.cond (.s 16) .skip (.exit 0)) c16_7)
def c16_9 : ACode :=
  (.seq (.region false [⟨some 16, none, .bin .lss (.s 15) (.s 14)⟩] [] [1, 2, 3, 8, 13, 14, 15, 16]) c16_8)
def c16_10 : ACode :=
  (.loop c16_9)
def c16_11 : ACode :=
  (.block 0 c16_10)
def c16_12 : ACode :=
  (.seq (.seq (.region false [⟨some 12, none, .fa 3 (.s 4)⟩,
    ⟨some 13, none, .ld false 1 (.s 12)⟩,
    ⟨some 14, none, .len (.s 13)⟩,
    ⟨some 15, none, .cst (.t (.int .i64 0))⟩] [] [1, 2, 3, 8, 13, 14, 15]) c16_11) c16_0)
def c16 : ACode :=
  (.seq (.region false [⟨some 4, none, .box 4 (.s 0)⟩,
    ⟨some 8, none, .alloc [.t (.str []), .t (.str []), .t (.int .i64 0), .t (.bool false), .nils, .nils]⟩,
    ⟨some 9, none, .cst (.t (.bool false))⟩] [] [1, 2, 3, 4, 8]) c16_12)
def r16 : List ARes := [.cell 8 true 6, .tmp 9]
def n16 : Nat := 46
/- 17 supergraph moves.Keys -/
def c17_0 : ACode :=
  (.seq (.region false [⟨some 34, none, .mv (.s 7)⟩,
    ⟨some 6, none, .mv (.s 34)⟩] [] [6]) .ret)
def c17_1 : ACode :=
  (.region false [⟨some 33, none, .bin .add (.s 13) (.c (.t (.int .i64 1)))⟩,
    ⟨some 13, none, .mv (.s 33)⟩] [] [1, 2, 7, 11, 12, 13])
def c17_2 : ACode :=
  (.region false [⟨some 27, none, .mv (.s 7)⟩,
    ⟨some 28, none, .fa 2 (.s 9)⟩,
    ⟨some 29, none, .ld false 1 (.s 28)⟩,
    ⟨some 30, none, .call 37 [(.s 29)]⟩,
    ⟨some 31, none, .bsl false 1 [[.lst []]] [(0, (.s 30))]⟩,
    ⟨some 32, none, .app 1 24 (.s 27) (.s 31)⟩,
    ⟨some 7, none, .mv (.s 32)⟩] [] [1, 2, 7, 11, 12, 13])
def c17_3 : ACode :=
  (.cond (.s 26) c17_2 .skip)
def c17_4 : ACode :=
  (.seq (.region false [⟨some 17, none, .fa 0 (.s 9)⟩,
    ⟨some 18, none, .ld false 1 (.s 17)⟩,
    ⟨some 19, none, .mv (.s 1)⟩,
    ⟨some 20, none, .bin .eql (.s 18) (.s 19)⟩,
    ⟨some 21, none, .mv (.s 20)⟩,
    ⟨some 22, some (21, true), .fa 1 (.s 9)⟩,
    ⟨some 23, some (21, true), .ld false 1 (.s 22)⟩,
    ⟨some 24, some (21, true), .mv (.s 2)⟩,
    ⟨some 25, some (21, true), .bin .eql (.s 23) (.s 24)⟩,
    ⟨some 26, none, .pick (.s 21) (.s 25) (.c (.t (.bool false)))⟩] [] [1, 2, 7, 9, 11, 12, 13, 26]) c17_3)
def c17_5 : ACode :=
  (.seq (.region false [⟨some 15, none, .ia 3 (.s 11) (.s 13)⟩,
    ⟨some 16, none, .ld true 3 (.s 15)⟩,
    ⟨some 9, none, .alloc [.t (.str []), .t (.int .i64 0), .nils]⟩,
    ⟨none, none, .st 3 (.s 9) (.s 16)⟩] [] [1, 2, 7, 9, 11, 12, 13]) c17_4)
def c17_6 : ACode :=
  (.seq (.block 1 c17_5) c17_1)
def c17_7 : ACode :=
  (.seq (.cond (.s 14) .skip (.exit 0)) c17_6)
def c17_8 : ACode :=
  (.seq (.region false [⟨some 14, none, .bin .lss (.s 13) (.s 12)⟩] [] [1, 2, 7, 11, 12, 13, 14]) c17_7)
def c17_9 : ACode :=
  (.loop c17_8)
def c17_10 : ACode :=
  (.block 0 c17_9)
def c17_11 : ACode :=
  (.seq (.seq (.region false [⟨some 10, none, .fa 2 (.s 3)⟩,
    ⟨some 11, none, .ld false 1 (.s 10)⟩,
    ⟨some 12, none, .len (.s 11)⟩,
    ⟨some 13, none, .cst (.t (.int .i64 0))⟩] [] [1, 2, 7, 11, 12, 13]) c17_10) c17_0)
def c17_12 : ACode :=
  (.seq (.region false [⟨some 7, none, .cst (.nils)⟩] [] [1, 2, 3, 7]) c17_11)
def c17 : ACode :=
  (.seq (.region false [⟨some 3, none, .box 4 (.s 0)⟩,
    ⟨some 6, none, .cst (.nils)⟩] [] [1, 2, 3]) c17_12)
def r17 : List ARes := [.tmp 6]
def n17 : Nat := 35
/- 18 (*supergraph moves.judge).keys -/
def c18_0 : ACode :=
  (.region false [⟨some 101, none, .bin .add (.s 31) (.c (.t (.int .i64 1)))⟩,
    ⟨some 31, none, .mv (.s 101)⟩] [] [0, 4, 5, 6, 29, 30, 31])
def c18_1 : ACode :=
  (.region false [⟨some 95, none, .mv (.s 0)⟩,
    ⟨some 96, none, .mv (.s 9)⟩,
    ⟨some 97, none, .ld true 2 (.s 4)⟩,
    ⟨some 98, none, .fa 1 (.s 5)⟩,
    ⟨some 99, none, .ld false 1 (.s 98)⟩,
    ⟨some 100, none, .call 40 [(.s 95), (.s 96), (.c (.t (.int .i64 41))), (.s 97), (.s 99)]⟩] [] [0, 4, 5, 6, 29, 30, 31])
def c18_2 : ACode :=
  (.region false [⟨some 94, none, .bin .add (.s 48) (.c (.t (.int .i64 1)))⟩,
    ⟨some 48, none, .mv (.s 94)⟩] [] [0, 4, 5, 6, 9, 29, 30, 31, 46, 47, 48])
def c18_3 : ACode :=
  (.region false [⟨some 79, none, .mv (.s 9)⟩,
    ⟨some 80, none, .mv (.s 79)⟩,
    ⟨some 81, some (80, false), .mv (.s 13)⟩,
    ⟨some 82, some (80, false), .un .not (.s 81)⟩,
    ⟨some 83, none, .pick (.s 80) (.c (.t (.bool true))) (.s 82)⟩,
    ⟨some 84, none, .mv (.s 83)⟩,
    ⟨some 85, some (84, false), .fa 1 (.s 12)⟩,
    ⟨some 86, some (84, false), .ld false 1 (.s 85)⟩,
    ⟨some 87, some (84, false), .len (.s 86)⟩,
    ⟨some 88, some (84, false), .bin .gtr (.s 87) (.c (.t (.int .i64 0)))⟩,
    ⟨some 89, none, .pick (.s 84) (.c (.t (.bool true))) (.s 88)⟩,
    ⟨some 90, none, .mv (.s 89)⟩,
    ⟨some 91, some (90, false), .mv (.s 14)⟩,
    ⟨some 92, some (90, false), .un .not (.s 91)⟩,
    ⟨some 93, none, .pick (.s 90) (.c (.t (.bool true))) (.s 92)⟩,
    ⟨some 9, none, .mv (.s 93)⟩] [] [0, 4, 5, 6, 9, 29, 30, 31, 46, 47, 48])
def c18_4 : ACode :=
  (.seq (.region false [⟨some 58, none, .fa 2 (.s 12)⟩,
    ⟨some 59, none, .fa 1 (.s 58)⟩,
    ⟨some 60, none, .ld false 1 (.s 59)⟩,
    ⟨some 61, none, .len (.s 60)⟩,
    ⟨some 62, none, .bin .eql (.s 61) (.c (.t (.int .i64 1)))⟩,
    ⟨some 63, none, .mv (.s 62)⟩,
    ⟨some 64, some (63, true), .fa 2 (.s 12)⟩,
    ⟨some 65, some (63, true), .fa 1 (.s 64)⟩,
    ⟨some 66, some (63, true), .ld false 1 (.s 65)⟩,
    ⟨some 67, some (63, true), .ia 1 (.s 66) (.c (.t (.int .i64 0)))⟩,
    ⟨some 68, some (63, true), .ld false 1 (.s 67)⟩,
    ⟨some 69, some (63, true), .bin .eql (.s 68) (.c (.t (.int .i64 1)))⟩,
    ⟨some 70, none, .pick (.s 63) (.s 69) (.c (.t (.bool false)))⟩,
    ⟨some 71, none, .mv (.s 70)⟩,
    ⟨some 72, some (71, true), .fa 1 (.s 4)⟩,
    ⟨some 73, some (71, true), .ld true 1 (.s 72)⟩,
    ⟨some 74, some (71, true), .fa 2 (.s 12)⟩,
    ⟨some 75, some (71, true), .fa 0 (.s 74)⟩,
    ⟨some 76, some (71, true), .ld false 1 (.s 75)⟩,
    ⟨some 77, some (71, true), .call 39 [(.s 73), (.s 76)]⟩,
    ⟨some 78, none, .pick (.s 71) (.s 77) (.c (.t (.bool false)))⟩,
    ⟨some 14, none, .mv (.s 78)⟩] [] [0, 4, 5, 6, 9, 12, 13, 14, 29, 30, 31, 46, 47, 48]) c18_3)
def c18_5 : ACode :=
  (.seq (.region false [⟨some 53, none, .ld true 7 (.s 5)⟩,
    ⟨some 54, none, .mv (.s 11)⟩,
    ⟨some 55, none, .call 38 [(.s 53), (.s 54)]⟩,
    ⟨some 52, none, .mv (.s 55)⟩,
    ⟨some 56, none, .ext (.s 52) 0⟩,
    ⟨some 57, none, .ext (.s 52) 1⟩,
    ⟨some 12, none, .alloc [.t (.str []), .nils, .t (.str []), .nils, .nils]⟩,
    ⟨none, none, .st 5 (.s 12) (.s 56)⟩,
    ⟨some 13, none, .mv (.s 57)⟩] [] [0, 4, 5, 6, 9, 12, 13, 29, 30, 31, 46, 47, 48]) c18_4)
def c18_6 : ACode :=
  (.seq (.region false [⟨some 50, none, .ia 1 (.s 46) (.s 48)⟩,
    ⟨some 51, none, .ld false 1 (.s 50)⟩,
    ⟨some 11, none, .mv (.s 51)⟩] [] [0, 4, 5, 6, 9, 11, 29, 30, 31, 46, 47, 48]) c18_5)
def c18_7 : ACode :=
  (.seq (.block 3 c18_6) c18_2)
def c18_8 : ACode :=
  (.seq (.cond (.s 49) .skip (.exit 2)) c18_7)
def c18_9 : ACode :=
  (.seq (.region false [⟨some 49, none, .bin .lss (.s 48) (.s 47)⟩] [] [0, 4, 5, 6, 9, 29, 30, 31, 46, 47, 48, 49]) c18_8)
def c18_10 : ACode :=
  (.loop c18_9)
def c18_11 : ACode :=
  (.block 2 c18_10)
def c18_12 : ACode :=
  (.seq (.seq (.region false [⟨some 46, none, .mv (.s 8)⟩,
    ⟨some 47, none, .len (.s 46)⟩,
    ⟨some 48, none, .cst (.t (.int .i64 0))⟩] [] [0, 4, 5, 6, 9, 29, 30, 31, 46, 47, 48]) c18_11) c18_1)
def c18_13 : ACode :=
  (.seq (.region false [⟨some 36, none, .mv (.s 7)⟩,
    ⟨some 37, none, .bin .geq (.s 36) (.c (.t (.int .i64 4)))⟩,
    ⟨some 38, none, .mv (.s 37)⟩,
    ⟨some 39, some (38, false), .mv (.s 6)⟩,
    ⟨some 40, none, .pick (.s 38) (.c (.t (.bool true))) (.s 39)⟩,
    ⟨some 41, none, .mv (.s 40)⟩,
    ⟨some 42, some (41, false), .mv (.s 8)⟩,
    ⟨some 43, some (41, false), .len (.s 42)⟩,
    ⟨some 44, some (41, false), .bin .eql (.s 43) (.c (.t (.int .i64 0)))⟩,
    ⟨some 45, none, .pick (.s 41) (.c (.t (.bool true))) (.s 44)⟩,
    ⟨some 9, none, .mv (.s 45)⟩] [] [0, 4, 5, 6, 8, 9, 29, 30, 31]) c18_12)
def c18_14 : ACode :=
  (.seq (.region false [⟨some 33, none, .mv (.s 31)⟩,
    ⟨some 34, none, .ia 1 (.s 29) (.s 31)⟩,
    ⟨some 35, none, .ld false 1 (.s 34)⟩,
    ⟨some 7, none, .mv (.s 33)⟩,
    ⟨some 8, none, .mv (.s 35)⟩] [] [0, 4, 5, 6, 7, 8, 29, 30, 31]) c18_13)
def c18_15 : ACode :=
  (.seq (.block 1 c18_14) c18_0)
def c18_16 : ACode :=
  (.seq (.cond (.s 32) .skip (.exit 0)) c18_15)
def c18_17 : ACode :=
  (.seq (.region false [⟨some 32, none, .bin .lss (.s 31) (.s 30)⟩] [] [0, 4, 5, 6, 29, 30, 31, 32]) c18_16)
def c18_18 : ACode :=
  (.loop c18_17)
def c18_19 : ACode :=
  (.block 0 c18_18)
def c18_20 : ACode :=
  (.seq (.region false [⟨some 28, none, .ld true 7 (.s 5)⟩,
    ⟨some 29, none, .call 19 [(.s 28)]⟩,
    ⟨some 30, none, .len (.s 29)⟩,
    ⟨some 31, none, .cst (.t (.int .i64 0))⟩] [] [0, 4, 5, 6, 29, 30, 31]) c18_19)
def c18_21 : ACode :=
  (.seq (.region false [⟨some 15, none, .fa 1 (.s 5)⟩,
    ⟨some 16, none, .ld false 1 (.s 15)⟩,
    ⟨some 17, none, .bin .eql (.s 16) (.c (.t (.str [81, 117, 101, 114, 121])))⟩,
    ⟨some 18, none, .mv (.s 17)⟩,
    ⟨some 19, some (18, false), .fa 1 (.s 5)⟩,
    ⟨some 20, some (18, false), .ld false 1 (.s 19)⟩,
    ⟨some 21, some (18, false), .bin .eql (.s 20) (.c (.t (.str [77, 117, 116, 97, 116, 105, 111, 110])))⟩,
    ⟨some 22, none, .pick (.s 18) (.c (.t (.bool true))) (.s 21)⟩,
    ⟨some 23, none, .mv (.s 22)⟩,
    ⟨some 24, some (23, false), .fa 1 (.s 5)⟩,
    ⟨some 25, some (23, false), .ld false 1 (.s 24)⟩,
    ⟨some 26, some (23, false), .bin .eql (.s 25) (.c (.t (.str [83, 117, 98, 115, 99, 114, 105, 112, 116, 105, 111, 110])))⟩,
    ⟨some 27, none, .pick (.s 23) (.c (.t (.bool true))) (.s 26)⟩,
    ⟨some 6, none, .mv (.s 27)⟩] [] [0, 4, 5, 6]) c18_20)
def c18 : ACode :=
  (.seq (.region false [⟨some 4, none, .box 2 (.s 1)⟩,
    ⟨some 5, none, .box 7 (.s 2)⟩] [] [0, 4, 5]) c18_21)
def r18 : List ARes := []
def n18 : Nat := 102
/- 19 supergraph moves.keysOf -/
def c19_0 : ACode :=
  (.seq (.region false [⟨some 28, none, .mv (.s 3)⟩,
    ⟨some 2, none, .mv (.s 28)⟩] [] [2]) .ret)
def c19_1 : ACode :=
  (.region false [⟨some 27, none, .bin .add (.s 9) (.c (.t (.int .i64 1)))⟩,
    ⟨some 9, none, .mv (.s 27)⟩] [] [1, 3, 7, 8, 9])
def c19_2 : ACode :=
  (.region false [⟨some 17, none, .mv (.s 3)⟩,
    ⟨some 18, none, .fa 3 (.s 1)⟩,
    ⟨some 19, none, .ld false 1 (.s 18)⟩,
    ⟨some 20, none, .mv (.s 4)⟩,
    ⟨some 21, none, .mv (.s 4)⟩,
    ⟨some 22, none, .bin .add (.s 21) (.c (.t (.int .i64 1)))⟩,
    ⟨some 23, none, .sll 2 (.s 19) (some (.s 20)) (some (.s 22))⟩,
    ⟨some 24, none, .call 22 [(.s 23), (.c (.t (.str [107, 101, 121])))]⟩,
    ⟨some 25, none, .bsl false 1 [[.lst []]] [(0, (.s 24))]⟩,
    ⟨some 26, none, .app 1 24 (.s 17) (.s 25)⟩,
    ⟨some 3, none, .mv (.s 26)⟩] [] [1, 3, 7, 8, 9])
def c19_3 : ACode :=
  (.cond (.s 16) c19_2 .skip)
def c19_4 : ACode :=
  (.seq (.region false [⟨some 14, none, .fa 0 (.s 5)⟩,
    ⟨some 15, none, .ld false 1 (.s 14)⟩,
    ⟨some 16, none, .bin .eql (.s 15) (.c (.t (.str [107, 101, 121])))⟩] [] [1, 3, 4, 7, 8, 9, 16]) c19_3)
def c19_5 : ACode :=
  (.seq (.region false [⟨some 11, none, .mv (.s 9)⟩,
    ⟨some 12, none, .ia 2 (.s 7) (.s 9)⟩,
    ⟨some 13, none, .ld true 2 (.s 12)⟩,
    ⟨some 5, none, .alloc [.t (.str []), .nils]⟩,
    ⟨some 4, none, .mv (.s 11)⟩,
    ⟨none, none, .st 2 (.s 5) (.s 13)⟩] [] [1, 3, 4, 5, 7, 8, 9]) c19_4)
def c19_6 : ACode :=
  (.seq (.block 1 c19_5) c19_1)
def c19_7 : ACode :=
  (.seq (.cond (.s 10) .skip (.exit 0)) c19_6)
def c19_8 : ACode :=
  (.seq (.region false [⟨some 10, none, .bin .lss (.s 9) (.s 8)⟩] [] [1, 3, 7, 8, 9, 10]) c19_7)
def c19_9 : ACode :=
  (.loop c19_8)
def c19_10 : ACode :=
  (.block 0 c19_9)
def c19_11 : ACode :=
  (.seq (.seq (.region false [⟨some 6, none, .fa 3 (.s 1)⟩,
    ⟨some 7, none, .ld false 1 (.s 6)⟩,
    ⟨some 8, none, .len (.s 7)⟩,
    ⟨some 9, none, .cst (.t (.int .i64 0))⟩] [] [1, 3, 7, 8, 9]) c19_10) c19_0)
def c19_12 : ACode :=
  (.seq (.region false [⟨some 3, none, .cst (.nils)⟩] [] [1, 3]) c19_11)
def c19 : ACode :=
  (.seq (.region false [⟨some 1, none, .box 7 (.s 0)⟩,
    ⟨some 2, none, .cst (.nils)⟩] [] [1]) c19_12)
def r19 : List ARes := [.tmp 2]
def n19 : Nat := 29
/- 20 (*supergraph moves.judge).field -/
def c20_0 : ACode :=
  (.region true [⟨some 129, none, .mv (.s 0)⟩,
    ⟨some 130, none, .mv (.s 10)⟩,
    ⟨some 131, none, .un .not (.s 130)⟩,
    ⟨some 132, none, .mv (.s 131)⟩,
    ⟨some 133, some (132, true), .mv (.s 0)⟩,
    ⟨some 134, some (132, true), .mv (.s 1)⟩,
    ⟨some 135, some (132, true), .fa 1 (.s 6)⟩,
    ⟨some 136, some (132, true), .ld false 1 (.s 135)⟩,
    ⟨some 137, some (132, true), .fa 0 (.s 7)⟩,
    ⟨some 138, some (132, true), .ld false 1 (.s 137)⟩,
    ⟨some 139, some (132, true), .call 42 [(.s 133), (.s 134), (.s 136), (.s 138)]⟩,
    ⟨some 140, none, .pick (.s 132) (.s 139) (.c (.t (.bool false)))⟩,
    ⟨some 141, none, .mv (.s 140)⟩,
    ⟨some 142, some (141, true), .mv (.s 11)⟩,
    ⟨some 143, some (141, true), .mv (.s 142)⟩,
    ⟨some 144, some (143, false), .mv (.s 14)⟩,
    ⟨some 145, some (143, false), .un .not (.s 144)⟩,
    ⟨some 146, some (141, true), .pick (.s 143) (.c (.t (.bool true))) (.s 145)⟩,
    ⟨some 147, none, .pick (.s 141) (.s 146) (.c (.t (.bool false)))⟩,
    ⟨some 148, none, .ld true 2 (.s 8)⟩,
    ⟨some 149, none, .mv (.s 9)⟩,
    ⟨some 150, none, .call 40 [(.s 129), (.s 147), (.c (.t (.int .i64 40))), (.s 148), (.s 149)]⟩] [[], [], [1], [2], [3], [3], [3], [6, 3], [3], [8, 3], [4, 5, 7, 9, 3, 3], [3, 10], [11, 10], [12], [13, 12, 12], [14], [15, 14], [14, 16, 12], [12, 17], [], [], [0, 18, 19, 20, 14]] [])
def c20_1 : ACode :=
  (.seq (.region false [⟨some 120, none, .fa 4 (.s 7)⟩,
    ⟨some 121, none, .ld false 1 (.s 120)⟩,
    ⟨some 122, none, .call 21 [(.s 121), (.c (.t (.str [115, 104, 97, 114, 101, 97, 98, 108, 101])))]⟩,
    ⟨some 123, none, .mv (.s 122)⟩,
    ⟨some 124, some (123, false), .ld true 7 (.s 6)⟩,
    ⟨some 125, some (123, false), .fa 0 (.s 7)⟩,
    ⟨some 126, some (123, false), .ld false 1 (.s 125)⟩,
    ⟨some 127, some (123, false), .call 46 [(.s 124), (.s 126)]⟩,
    ⟨some 128, none, .pick (.s 123) (.c (.t (.bool true))) (.s 127)⟩,
    ⟨some 14, none, .mv (.s 128)⟩] [] [0, 1, 6, 7, 8, 9, 10, 11, 14]) c20_0)
def c20_2 : ACode :=
  (.region true [⟨some 100, none, .mv (.s 0)⟩,
    ⟨some 101, none, .mv (.s 13)⟩,
    ⟨some 102, none, .un .not (.s 101)⟩,
    ⟨some 103, none, .mv (.s 102)⟩,
    ⟨some 104, some (103, false), .fa 0 (.s 12)⟩,
    ⟨some 105, some (103, false), .ld false 1 (.s 104)⟩,
    ⟨some 106, some (103, false), .bin .neq (.s 105) (.c (.t (.int .i64 1)))⟩,
    ⟨some 107, none, .pick (.s 103) (.c (.t (.bool true))) (.s 106)⟩,
    ⟨some 108, none, .mv (.s 107)⟩,
    ⟨some 109, some (108, false), .ld true 2 (.s 8)⟩,
    ⟨some 110, some (108, false), .ld true 7 (.s 12)⟩,
    ⟨some 111, some (108, false), .fa 4 (.s 7)⟩,
    ⟨some 112, some (108, false), .ld false 1 (.s 111)⟩,
    ⟨some 113, some (108, false), .call 22 [(.s 112), (.c (.t (.str [112, 114, 111, 118, 105, 100, 101, 115])))]⟩,
    ⟨some 114, some (108, false), .call 44 [(.s 109), (.s 110), (.s 113)]⟩,
    ⟨some 115, some (108, false), .un .not (.s 114)⟩,
    ⟨some 116, none, .pick (.s 108) (.c (.t (.bool true))) (.s 115)⟩,
    ⟨some 117, none, .ld true 2 (.s 8)⟩,
    ⟨some 118, none, .mv (.s 9)⟩,
    ⟨some 119, none, .call 40 [(.s 100), (.s 116), (.c (.t (.int .i64 44))), (.s 117), (.s 118)]⟩] [[], [], [1], [2], [3], [4, 3], [5, 3], [3, 6], [7, 3], [8], [8], [8], [11, 8], [12, 8, 8], [9, 10, 13, 13, 8], [14, 8], [8, 15], [], [], [0, 16, 17, 18, 14]] [0, 1, 6, 7, 8, 9, 10, 11])
def c20_3 : ACode :=
  (.seq (.region false [⟨some 92, none, .fa 1 (.s 8)⟩,
    ⟨some 93, none, .ld true 1 (.s 92)⟩,
    ⟨some 94, none, .fa 2 (.s 7)⟩,
    ⟨some 95, none, .fa 0 (.s 94)⟩,
    ⟨some 96, none, .ld false 1 (.s 95)⟩,
    ⟨some 97, none, .call 45 [(.s 93), (.s 96)]⟩,
    ⟨some 91, none, .mv (.s 97)⟩,
    ⟨some 98, none, .ext (.s 91) 0⟩,
    ⟨some 99, none, .ext (.s 91) 1⟩,
    ⟨some 12, none, .alloc [.t (.int .i64 0), .t (.str []), .nils, .nils, .nils, .nils, .nils]⟩,
    ⟨none, none, .st 7 (.s 12) (.s 98)⟩,
    ⟨some 13, none, .mv (.s 99)⟩] [] [0, 1, 6, 7, 8, 9, 10, 11, 12, 13]) c20_2)
def c20_4 : ACode :=
  (.cond (.s 90) c20_3 .skip)
def c20_5 : ACode :=
  (.seq (.seq (.region false [⟨some 88, none, .fa 4 (.s 7)⟩,
    ⟨some 89, none, .ld false 1 (.s 88)⟩,
    ⟨some 90, none, .call 21 [(.s 89), (.c (.t (.str [112, 114, 111, 118, 105, 100, 101, 115])))]⟩] [] [0, 1, 6, 7, 8, 9, 10, 11, 90]) c20_4) c20_1)
def c20_6 : ACode :=
  (.seq (.region true [⟨some 57, none, .mv (.s 0)⟩,
    ⟨some 58, none, .mv (.s 11)⟩,
    ⟨some 59, none, .mv (.s 58)⟩,
    ⟨some 60, some (59, true), .mv (.s 10)⟩,
    ⟨some 61, some (59, true), .mv (.s 60)⟩,
    ⟨some 62, some (61, false), .mv (.s 0)⟩,
    ⟨some 63, some (61, false), .fa 1 (.s 6)⟩,
    ⟨some 64, some (61, false), .ld false 1 (.s 63)⟩,
    ⟨some 65, some (61, false), .fa 0 (.s 7)⟩,
    ⟨some 66, some (61, false), .ld false 1 (.s 65)⟩,
    ⟨some 67, some (61, false), .call 43 [(.s 62), (.s 64), (.s 66)]⟩,
    ⟨some 68, some (59, true), .pick (.s 61) (.c (.t (.bool true))) (.s 67)⟩,
    ⟨some 69, some (59, true), .mv (.s 68)⟩,
    ⟨some 70, some (69, false), .ld true 7 (.s 6)⟩,
    ⟨some 71, some (69, false), .call 19 [(.s 70)]⟩,
    ⟨some 72, some (69, false), .len (.s 71)⟩,
    ⟨some 73, some (69, false), .bin .eql (.s 72) (.c (.t (.int .i64 0)))⟩,
    ⟨some 74, some (59, true), .pick (.s 69) (.c (.t (.bool true))) (.s 73)⟩,
    ⟨some 75, some (59, true), .mv (.s 74)⟩,
    ⟨some 76, some (75, false), .ld true 2 (.s 8)⟩,
    ⟨some 77, some (75, false), .ld true 7 (.s 6)⟩,
    ⟨some 78, some (75, false), .fa 4 (.s 7)⟩,
    ⟨some 79, some (75, false), .ld false 1 (.s 78)⟩,
    ⟨some 80, some (75, false), .call 22 [(.s 79), (.c (.t (.str [114, 101, 113, 117, 105, 114, 101, 115])))]⟩,
    ⟨some 81, some (75, false), .call 44 [(.s 76), (.s 77), (.s 80)]⟩,
    ⟨some 82, some (75, false), .un .not (.s 81)⟩,
    ⟨some 83, some (59, true), .pick (.s 75) (.c (.t (.bool true))) (.s 82)⟩,
    ⟨some 84, none, .pick (.s 59) (.s 83) (.c (.t (.bool false)))⟩,
    ⟨some 85, none, .ld true 2 (.s 8)⟩,
    ⟨some 86, none, .mv (.s 9)⟩,
    ⟨some 87, none, .call 40 [(.s 57), (.s 84), (.c (.t (.int .i64 43))), (.s 85), (.s 86)]⟩] [[], [], [1], [2], [3, 2, 2], [4], [4], [6, 4], [4], [8, 4], [5, 7, 9, 4, 4], [4, 10, 2], [11, 10, 2], [12], [13, 12, 12], [14, 12], [15, 12], [12, 16, 2], [17, 14, 2], [18], [18], [18], [21, 18], [22, 18, 18], [19, 20, 23, 23, 18], [24, 18], [18, 25, 2], [2, 26], [], [], [0, 27, 28, 29, 24]] [0, 1, 6, 7, 8, 9, 10, 11]) c20_5)
def c20_7 : ACode :=
  (.seq (.region true [⟨some 34, none, .mv (.s 0)⟩,
    ⟨some 35, none, .mv (.s 10)⟩,
    ⟨some 36, none, .mv (.s 35)⟩,
    ⟨some 37, some (36, true), .ld true 2 (.s 8)⟩,
    ⟨some 38, some (36, true), .ld true 7 (.s 6)⟩,
    ⟨some 39, some (36, true), .fa 0 (.s 7)⟩,
    ⟨some 40, some (36, true), .ld false 1 (.s 39)⟩,
    ⟨some 41, some (36, true), .call 41 [(.s 37), (.s 38), (.s 40)]⟩,
    ⟨some 42, some (36, true), .un .not (.s 41)⟩,
    ⟨some 43, some (36, true), .mv (.s 42)⟩,
    ⟨some 44, some (43, false), .mv (.s 0)⟩,
    ⟨some 45, some (43, false), .mv (.s 1)⟩,
    ⟨some 46, some (43, false), .fa 1 (.s 6)⟩,
    ⟨some 47, some (43, false), .ld false 1 (.s 46)⟩,
    ⟨some 48, some (43, false), .fa 0 (.s 7)⟩,
    ⟨some 49, some (43, false), .ld false 1 (.s 48)⟩,
    ⟨some 50, some (43, false), .call 42 [(.s 44), (.s 45), (.s 47), (.s 49)]⟩,
    ⟨some 51, some (43, false), .un .not (.s 50)⟩,
    ⟨some 52, some (36, true), .pick (.s 43) (.c (.t (.bool true))) (.s 51)⟩,
    ⟨some 53, none, .pick (.s 36) (.s 52) (.c (.t (.bool false)))⟩,
    ⟨some 54, none, .ld true 2 (.s 8)⟩,
    ⟨some 55, none, .mv (.s 9)⟩,
    ⟨some 56, none, .call 40 [(.s 34), (.s 53), (.c (.t (.int .i64 42))), (.s 54), (.s 55)]⟩] [[], [], [1], [2], [2], [2], [5, 2], [3, 4, 6, 2, 2], [7, 2], [8, 7, 2], [9], [9], [9], [12, 9], [9], [14, 9], [10, 11, 13, 15, 9, 9], [16, 9], [9, 17, 2], [2, 18], [], [], [0, 19, 20, 21, 16]] [0, 1, 6, 7, 8, 9, 10, 11]) c20_6)
def c20_8 : ACode :=
  (.seq (.region false [⟨some 31, none, .fa 4 (.s 7)⟩,
    ⟨some 32, none, .ld false 1 (.s 31)⟩,
    ⟨some 33, none, .call 21 [(.s 32), (.c (.t (.str [114, 101, 113, 117, 105, 114, 101, 115])))]⟩,
    ⟨some 11, none, .mv (.s 33)⟩] [] [0, 1, 6, 7, 8, 9, 10, 11]) c20_7)
def c20_9 : ACode :=
  (.seq (.region false [⟨some 28, none, .fa 4 (.s 7)⟩,
    ⟨some 29, none, .ld false 1 (.s 28)⟩,
    ⟨some 30, none, .call 21 [(.s 29), (.c (.t (.str [101, 120, 116, 101, 114, 110, 97, 108])))]⟩,
    ⟨some 10, none, .mv (.s 30)⟩] [] [0, 1, 6, 7, 8, 9, 10]) c20_8)
def c20_10 : ACode :=
  (.seq (.region true [⟨some 15, none, .mv (.s 0)⟩,
    ⟨some 16, none, .nilck (.s 15)⟩,
    ⟨some 17, none, .fa 0 (.s 16)⟩,
    ⟨some 18, none, .ld false 1 (.s 17)⟩,
    ⟨some 19, none, .mv (.s 1)⟩,
    ⟨some 20, none, .ia 2 (.s 18) (.s 19)⟩,
    ⟨some 21, none, .ld true 2 (.s 20)⟩,
    ⟨some 22, none, .fa 1 (.s 6)⟩,
    ⟨some 23, none, .ld false 1 (.s 22)⟩,
    ⟨some 24, none, .bin .add (.s 23) (.c (.t (.str [46])))⟩,
    ⟨some 25, none, .fa 0 (.s 7)⟩,
    ⟨some 26, none, .ld false 1 (.s 25)⟩,
    ⟨some 27, none, .bin .add (.s 24) (.s 26)⟩,
    ⟨some 8, none, .alloc [.t (.str []), .nils]⟩,
    ⟨none, none, .st 2 (.s 8) (.s 21)⟩,
    ⟨some 9, none, .mv (.s 27)⟩] [[], [0], [1], [2], [], [3, 4], [5], [], [7], [8], [], [10], [9, 11], [], [13, 6, 0, 1, 2, 3, 4, 5, 6, 13], [12, 14, 0, 1, 2, 3, 4, 5, 6, 7, 8, 9, 10, 11, 12, 13, 14]] [0, 1, 6, 7, 8, 9]) c20_9)
def c20 : ACode :=
  (.seq (.region false [⟨some 6, none, .box 7 (.s 2)⟩,
    ⟨some 7, none, .box 5 (.s 3)⟩] [] [0, 1, 6, 7]) c20_10)
def r20 : List ARes := []
def n20 : Nat := 151
/- 21 supergraph directives.Has -/
def c21_0 : ACode :=
  (.seq (.region false [⟨some 4, none, .cst (.t (.bool false))⟩] [] [4]) .ret)
def c21_1 : ACode :=
  (.region false [⟨some 17, none, .bin .add (.s 9) (.c (.t (.int .i64 1)))⟩,
    ⟨some 9, none, .mv (.s 17)⟩] [] [1, 7, 8, 9])
def c21_2 : ACode :=
  (.seq (.region false [⟨some 4, none, .cst (.t (.bool true))⟩] [] [4]) .ret)
def c21_3 : ACode :=
  (.cond (.s 16) c21_2 .skip)
def c21_4 : ACode :=
  (.seq (.region false [⟨some 13, none, .fa 0 (.s 6)⟩,
    ⟨some 14, none, .ld false 1 (.s 13)⟩,
    ⟨some 15, none, .mv (.s 1)⟩,
    ⟨some 16, none, .bin .eql (.s 14) (.s 15)⟩] [] [1, 7, 8, 9, 16]) c21_3)
def c21_5 : ACode :=
  (.seq (.region false [⟨some 11, none, .ia 2 (.s 7) (.s 9)⟩,
    ⟨some 12, none, .ld true 2 (.s 11)⟩,
    ⟨some 6, none, .alloc [.t (.str []), .nils]⟩,
    ⟨none, none, .st 2 (.s 6) (.s 12)⟩] [] [1, 6, 7, 8, 9]) c21_4)
def c21_6 : ACode :=
  (.seq (.block 1 c21_5) c21_1)
def c21_7 : ACode :=
  (.seq (.cond (.s 10) .skip (.exit 0)) c21_6)
def c21_8 : ACode :=
  (.seq (.region false [⟨some 10, none, .bin .lss (.s 9) (.s 8)⟩] [] [1, 7, 8, 9, 10]) c21_7)
def c21_9 : ACode :=
  (.loop c21_8)
def c21_10 : ACode :=
  (.block 0 c21_9)
def c21_11 : ACode :=
  (.seq (.seq (.region false [⟨some 7, none, .mv (.s 0)⟩,
    ⟨some 8, none, .len (.s 7)⟩,
    ⟨some 9, none, .cst (.t (.int .i64 0))⟩] [] [1, 7, 8, 9]) c21_10) c21_0)
def c21 : ACode :=
  (.seq (.region false [⟨some 4, none, .cst (.t (.bool false))⟩] [] [0, 1]) c21_11)
def r21 : List ARes := [.tmp 4]
def n21 : Nat := 18
/- 22 supergraph moves.set -/
def c22_0 : ACode :=
  (.seq (.region false [⟨some 23, none, .mv (.s 7)⟩,
    ⟨some 4, none, .mv (.s 23)⟩] [] [4]) .ret)
def c22_1 : ACode :=
  (.seq (.region false [⟨some 4, none, .cst (.nils)⟩] [] [4]) .ret)
def c22_2 : ACode :=
  (.cond (.s 22) c22_1 .skip)
def c22_3 : ACode :=
  (.seq (.seq (.region false [⟨some 21, none, .mv (.s 8)⟩,
    ⟨some 22, none, .bin .neq (.s 21) (.c (.t (.int .i64 0)))⟩] [] [7, 22]) c22_2) c22_0)
def c22_4 : ACode :=
  (.seq (.region false [⟨some 16, none, .fa 2 (.s 5)⟩,
    ⟨some 17, none, .ld false 1 (.s 16)⟩,
    ⟨some 18, none, .call 48 [(.s 17)]⟩,
    ⟨some 15, none, .mv (.s 18)⟩,
    ⟨some 19, none, .ext (.s 15) 0⟩,
    ⟨some 20, none, .ext (.s 15) 1⟩,
    ⟨some 7, none, .mv (.s 19)⟩,
    ⟨some 8, none, .mv (.s 20)⟩] [] [7, 8]) c22_3)
def c22_5 : ACode :=
  (.seq (.region false [⟨some 10, none, .mv (.s 0)⟩,
    ⟨some 11, none, .mv (.s 1)⟩,
    ⟨some 12, none, .call 47 [(.s 10), (.s 11), (.c (.t (.str [102, 105, 101, 108, 100, 115])))]⟩,
    ⟨some 9, none, .mv (.s 12)⟩,
    ⟨some 13, none, .ext (.s 9) 0⟩,
    ⟨some 14, none, .ext (.s 9) 1⟩,
    ⟨some 5, none, .alloc [.t (.int .i64 0), .t (.int .i64 0), .t (.str []), .nils, .nils]⟩,
    ⟨none, none, .st 5 (.s 5) (.s 13)⟩,
    ⟨some 6, none, .mv (.s 14)⟩] [] [5]) c22_4)
def c22 : ACode :=
  (.seq (.region false [⟨some 4, none, .cst (.nils)⟩] [] [0, 1]) c22_5)
def r22 : List ARes := [.tmp 4]
def n22 : Nat := 24
/- 23 supergraph supergraphref25.faults -/
def c23_0 : ACode :=
  (.seq (.region false [⟨some 92, none, .mv (.s 8)⟩,
    ⟨some 6, none, .mv (.s 92)⟩] [] [6]) .ret)
def c23_1 : ACode :=
  (.region false [⟨some 58, none, .mv (.s 11)⟩,
    ⟨some 59, none, .bin .add (.s 58) (.c (.t (.int .i64 1)))⟩,
    ⟨some 11, none, .mv (.s 59)⟩] [] [0, 1, 5, 7, 8, 11])
def c23_2 : ACode :=
  (.region false [⟨some 73, none, .mv (.s 13)⟩,
    ⟨some 74, none, .bin .add (.s 73) (.c (.t (.int .i64 1)))⟩,
    ⟨some 13, none, .mv (.s 74)⟩] [] [0, 1, 5, 7, 8, 11, 12, 13])
def c23_3 : ACode :=
  (.region true [⟨some 75, none, .mv (.s 8)⟩,
    ⟨some 76, none, .mv (.s 12)⟩,
    ⟨some 77, none, .mv (.s 13)⟩,
    ⟨some 78, none, .ia 1 (.s 76) (.s 77)⟩,
    ⟨some 79, none, .ld false 1 (.s 78)⟩,
    ⟨some 80, none, .mv (.s 7)⟩,
    ⟨some 81, none, .bin .add (.s 80) (.c (.t (.str [46])))⟩,
    ⟨some 82, none, .fa 4 (.s 5)⟩,
    ⟨some 83, none, .ld false 1 (.s 82)⟩,
    ⟨some 84, none, .mv (.s 11)⟩,
    ⟨some 85, none, .ia 5 (.s 83) (.s 84)⟩,
    ⟨some 86, none, .fa 0 (.s 85)⟩,
    ⟨some 87, none, .ld false 1 (.s 86)⟩,
    ⟨some 88, none, .bin .add (.s 81) (.s 87)⟩,
    ⟨some 89, none, .build [.t (.int .i64 0), .t (.str [])] [(0, 1, (.s 79)), (1, 1, (.s 88))]⟩,
    ⟨some 90, none, .bsl false 2 [[.int .i64 0, .str []]] [(0, (.s 89))]⟩,
    ⟨some 91, none, .app 2 24 (.s 75) (.s 90)⟩,
    ⟨some 8, none, .mv (.s 91)⟩] [[], [], [], [1, 2], [3], [], [5], [], [7], [], [8, 9], [10], [11], [6, 12], [4, 13], [14], [0, 15], [16, 16, 0, 1, 2, 3, 4, 5, 6, 7, 8, 9, 10, 11, 12, 13, 14, 15, 16]] [0, 1, 5, 7, 8, 11, 12, 13])
def c23_4 : ACode :=
  (.seq (.block 5 c23_3) c23_2)
def c23_5 : ACode :=
  (.cond (.s 72) .skip (.exit 4))
def c23_6 : ACode :=
  (.seq (.seq (.region false [⟨some 69, none, .mv (.s 13)⟩,
    ⟨some 70, none, .mv (.s 12)⟩,
    ⟨some 71, none, .len (.s 70)⟩,
    ⟨some 72, none, .bin .lss (.s 69) (.s 71)⟩] [] [0, 1, 5, 7, 8, 11, 12, 13, 72]) c23_5) c23_4)
def c23_7 : ACode :=
  (.loop c23_6)
def c23_8 : ACode :=
  (.block 4 c23_7)
def c23_9 : ACode :=
  (.seq (.region false [⟨some 13, none, .cst (.t (.int .i64 0))⟩] [] [0, 1, 5, 7, 8, 11, 12, 13]) c23_8)
def c23_10 : ACode :=
  (.seq (.region true [⟨some 60, none, .mv (.s 0)⟩,
    ⟨some 61, none, .mv (.s 1)⟩,
    ⟨some 62, none, .ld true 7 (.s 5)⟩,
    ⟨some 63, none, .fa 4 (.s 5)⟩,
    ⟨some 64, none, .ld false 1 (.s 63)⟩,
    ⟨some 65, none, .mv (.s 11)⟩,
    ⟨some 66, none, .ia 5 (.s 64) (.s 65)⟩,
    ⟨some 67, none, .ld true 5 (.s 66)⟩,
    ⟨some 68, none, .call 50 [(.s 60), (.s 61), (.s 62), (.s 67)]⟩,
    ⟨some 12, none, .mv (.s 68)⟩] [[], [], [], [], [3], [], [4, 5], [6], [0, 1, 2, 7], [8, 8, 0, 1, 2, 3, 4, 5, 6, 7, 8]] [0, 1, 5, 7, 8, 11, 12]) c23_9)
def c23_11 : ACode :=
  (.seq (.block 3 c23_10) c23_1)
def c23_12 : ACode :=
  (.cond (.s 57) .skip (.exit 2))
def c23_13 : ACode :=
  (.seq (.seq (.region false [⟨some 53, none, .mv (.s 11)⟩,
    ⟨some 54, none, .fa 4 (.s 5)⟩,
    ⟨some 55, none, .ld false 1 (.s 54)⟩,
    ⟨some 56, none, .len (.s 55)⟩,
    ⟨some 57, none, .bin .lss (.s 53) (.s 56)⟩] [] [0, 1, 5, 7, 8, 11, 57]) c23_12) c23_11)
def c23_14 : ACode :=
  (.loop c23_13)
def c23_15 : ACode :=
  (.block 2 c23_14)
def c23_16 : ACode :=
  (.seq (.seq (.region false [⟨some 11, none, .cst (.t (.int .i64 0))⟩] [] [0, 1, 5, 7, 8, 11]) c23_15) c23_0)
def c23_17 : ACode :=
  (.region false [⟨some 30, none, .mv (.s 10)⟩,
    ⟨some 31, none, .bin .add (.s 30) (.c (.t (.int .i64 1)))⟩,
    ⟨some 10, none, .mv (.s 31)⟩] [] [0, 1, 5, 7, 8, 9, 10])
def c23_18 : ACode :=
  (.region false [⟨some 48, none, .mv (.s 8)⟩,
    ⟨some 49, none, .mv (.s 7)⟩,
    ⟨some 50, none, .build [.t (.int .i64 0), .t (.str [])] [(0, 1, (.c (.t (.int .i64 41)))), (1, 1, (.s 49))]⟩,
    ⟨some 51, none, .bsl false 2 [[.int .i64 0, .str []]] [(0, (.s 50))]⟩,
    ⟨some 52, none, .app 2 24 (.s 48) (.s 51)⟩,
    ⟨some 8, none, .mv (.s 52)⟩] [] [0, 1, 5, 7, 8, 9, 10])
def c23_19 : ACode :=
  (.cond (.s 47) c23_18 .skip)
def c23_20 : ACode :=
  (.seq (.region true [⟨some 32, none, .mv (.s 10)⟩,
    ⟨some 33, none, .bin .geq (.s 32) (.c (.t (.int .i64 4)))⟩,
    ⟨some 34, none, .mv (.s 33)⟩,
    ⟨some 35, some (34, false), .mv (.s 0)⟩,
    ⟨some 36, some (34, false), .mv (.s 1)⟩,
    ⟨some 37, some (34, false), .ia 2 (.s 35) (.s 36)⟩,
    ⟨some 38, some (34, false), .fa 1 (.s 37)⟩,
    ⟨some 39, some (34, false), .ld true 1 (.s 38)⟩,
    ⟨some 40, some (34, false), .ld true 7 (.s 5)⟩,
    ⟨some 41, some (34, false), .mv (.s 9)⟩,
    ⟨some 42, some (34, false), .mv (.s 10)⟩,
    ⟨some 43, some (34, false), .ia 1 (.s 41) (.s 42)⟩,
    ⟨some 44, some (34, false), .ld false 1 (.s 43)⟩,
    ⟨some 45, some (34, false), .call 49 [(.s 39), (.s 40), (.s 44)]⟩,
    ⟨some 46, some (34, false), .un .not (.s 45)⟩,
    ⟨some 47, none, .pick (.s 34) (.c (.t (.bool true))) (.s 46)⟩] [[], [0], [1], [2], [2], [3, 4, 2], [5, 2], [6, 2], [2], [2], [2], [9, 10, 2], [11, 2], [7, 8, 12, 2, 2], [13, 2], [2, 14]] [0, 1, 5, 7, 8, 9, 10, 47]) c23_19)
def c23_21 : ACode :=
  (.seq (.block 1 c23_20) c23_17)
def c23_22 : ACode :=
  (.cond (.s 29) .skip (.exit 0))
def c23_23 : ACode :=
  (.seq (.seq (.region false [⟨some 26, none, .mv (.s 10)⟩,
    ⟨some 27, none, .mv (.s 9)⟩,
    ⟨some 28, none, .len (.s 27)⟩,
    ⟨some 29, none, .bin .lss (.s 26) (.s 28)⟩] [] [0, 1, 5, 7, 8, 9, 10, 29]) c23_22) c23_21)
def c23_24 : ACode :=
  (.loop c23_23)
def c23_25 : ACode :=
  (.block 0 c23_24)
def c23_26 : ACode :=
  (.seq (.seq (.region false [⟨some 10, none, .cst (.t (.int .i64 0))⟩] [] [0, 1, 5, 7, 8, 9, 10]) c23_25) c23_16)
def c23_27 : ACode :=
  (.seq (.region false [⟨some 23, none, .fa 3 (.s 5)⟩,
    ⟨some 24, none, .ld false 1 (.s 23)⟩,
    ⟨some 25, none, .call 24 [(.s 24), (.c (.t (.str [107, 101, 121])))]⟩,
    ⟨some 9, none, .mv (.s 25)⟩] [] [0, 1, 5, 7, 8, 9]) c23_26)
def c23_28 : ACode :=
  (.seq (.region false [⟨some 8, none, .cst (.nils)⟩] [] [0, 1, 5, 7, 8]) c23_27)
def c23_29 : ACode :=
  (.seq (.region true [⟨some 14, none, .mv (.s 0)⟩,
    ⟨some 15, none, .mv (.s 1)⟩,
    ⟨some 16, none, .ia 2 (.s 14) (.s 15)⟩,
    ⟨some 17, none, .fa 0 (.s 16)⟩,
    ⟨some 18, none, .ld false 1 (.s 17)⟩,
    ⟨some 19, none, .bin .add (.s 18) (.c (.t (.str [58])))⟩,
    ⟨some 20, none, .fa 1 (.s 5)⟩,
    ⟨some 21, none, .ld false 1 (.s 20)⟩,
    ⟨some 22, none, .bin .add (.s 19) (.s 21)⟩,
    ⟨some 7, none, .mv (.s 22)⟩] [[], [], [0, 1], [2], [3], [4], [], [6], [5, 7], [8, 0, 1, 2, 3, 4, 5, 6, 7, 8]] [0, 1, 5, 7]) c23_28)
def c23 : ACode :=
  (.seq (.region false [⟨some 5, none, .box 7 (.s 2)⟩,
    ⟨some 6, none, .cst (.nils)⟩] [] [0, 1, 5]) c23_29)
def r23 : List ARes := [.tmp 6]
def n23 : Nat := 93
/- 24 supergraph supergraphref25.sets -/
def c24_0 : ACode :=
  (.seq (.region false [⟨some 27, none, .mv (.s 5)⟩,
    ⟨some 4, none, .mv (.s 27)⟩] [] [4]) .ret)
def c24_1 : ACode :=
  (.region false [⟨some 16, none, .mv (.s 7)⟩,
    ⟨some 17, none, .bin .add (.s 16) (.c (.t (.int .i64 1)))⟩,
    ⟨some 7, none, .mv (.s 17)⟩] [] [5, 6, 7])
def c24_2 : ACode :=
  (.region false [⟨some 23, none, .mv (.s 5)⟩,
    ⟨some 24, none, .mv (.s 8)⟩,
    ⟨some 25, none, .bsl false 1 [[.lst []]] [(0, (.s 24))]⟩,
    ⟨some 26, none, .app 1 24 (.s 23) (.s 25)⟩,
    ⟨some 5, none, .mv (.s 26)⟩] [] [5, 6, 7])
def c24_3 : ACode :=
  (.seq (.region false [⟨some 18, none, .mv (.s 6)⟩,
    ⟨some 19, none, .mv (.s 7)⟩,
    ⟨some 20, none, .ia 5 (.s 18) (.s 19)⟩,
    ⟨some 21, none, .ld true 5 (.s 20)⟩,
    ⟨some 22, none, .call 52 [(.s 21)]⟩,
    ⟨some 8, none, .mv (.s 22)⟩] [] [5, 6, 7, 8]) c24_2)
def c24_4 : ACode :=
  (.seq (.block 1 c24_3) c24_1)
def c24_5 : ACode :=
  (.cond (.s 15) .skip (.exit 0))
def c24_6 : ACode :=
  (.seq (.seq (.region false [⟨some 12, none, .mv (.s 7)⟩,
    ⟨some 13, none, .mv (.s 6)⟩,
    ⟨some 14, none, .len (.s 13)⟩,
    ⟨some 15, none, .bin .lss (.s 12) (.s 14)⟩] [] [5, 6, 7, 15]) c24_5) c24_4)
def c24_7 : ACode :=
  (.loop c24_6)
def c24_8 : ACode :=
  (.block 0 c24_7)
def c24_9 : ACode :=
  (.seq (.seq (.region false [⟨some 7, none, .cst (.t (.int .i64 0))⟩] [] [5, 6, 7]) c24_8) c24_0)
def c24_10 : ACode :=
  (.seq (.region false [⟨some 9, none, .mv (.s 0)⟩,
    ⟨some 10, none, .mv (.s 1)⟩,
    ⟨some 11, none, .call 51 [(.s 9), (.s 10), (.c (.t (.str [102, 105, 101, 108, 100, 115])))]⟩,
    ⟨some 6, none, .mv (.s 11)⟩] [] [5, 6]) c24_9)
def c24_11 : ACode :=
  (.seq (.region false [⟨some 5, none, .cst (.nils)⟩] [] [0, 1, 5]) c24_10)
def c24 : ACode :=
  (.seq (.region false [⟨some 4, none, .cst (.nils)⟩] [] [0, 1]) c24_11)
def r24 : List ARes := [.tmp 4]
def n24 : Nat := 28
/- 25 supergraph supergraphref23.Has -/
def c25_0 : ACode :=
  (.seq (.region false [⟨some 4, none, .cst (.t (.bool false))⟩] [] [4]) .ret)
def c25_1 : ACode :=
  (.region false [⟨some 10, none, .mv (.s 5)⟩,
    ⟨some 11, none, .bin .add (.s 10) (.c (.t (.int .i64 1)))⟩,
    ⟨some 5, none, .mv (.s 11)⟩] [] [0, 1, 5])
def c25_2 : ACode :=
  (.seq (.region false [⟨some 4, none, .cst (.t (.bool true))⟩] [] [4]) .ret)
def c25_3 : ACode :=
  (.cond (.s 18) c25_2 .skip)
def c25_4 : ACode :=
  (.seq (.region false [⟨some 12, none, .mv (.s 0)⟩,
    ⟨some 13, none, .mv (.s 5)⟩,
    ⟨some 14, none, .ia 2 (.s 12) (.s 13)⟩,
    ⟨some 15, none, .fa 0 (.s 14)⟩,
    ⟨some 16, none, .ld false 1 (.s 15)⟩,
    ⟨some 17, none, .mv (.s 1)⟩,
    ⟨some 18, none, .bin .eql (.s 16) (.s 17)⟩] [] [0, 1, 5, 18]) c25_3)
def c25_5 : ACode :=
  (.seq (.block 1 c25_4) c25_1)
def c25_6 : ACode :=
  (.cond (.s 9) .skip (.exit 0))
def c25_7 : ACode :=
  (.seq (.seq (.region false [⟨some 6, none, .mv (.s 5)⟩,
    ⟨some 7, none, .mv (.s 0)⟩,
    ⟨some 8, none, .len (.s 7)⟩,
    ⟨some 9, none, .bin .lss (.s 6) (.s 8)⟩] [] [0, 1, 5, 9]) c25_6) c25_5)
def c25_8 : ACode :=
  (.loop c25_7)
def c25_9 : ACode :=
  (.block 0 c25_8)
def c25_10 : ACode :=
  (.seq (.seq (.region false [⟨some 5, none, .cst (.t (.int .i64 0))⟩] [] [0, 1, 5]) c25_9) c25_0)
def c25 : ACode :=
  (.seq (.region false [⟨some 4, none, .cst (.t (.bool false))⟩] [] [0, 1]) c25_10)
def r25 : List ARes := [.tmp 4]
def n25 : Nat := 19
/- 26 supergraph supergraphref25.one -/
def c26_0 : ACode :=
  (.seq (.region false [⟨some 15, none, .ld true 5 (.s 5)⟩,
    ⟨some 16, none, .call 52 [(.s 15)]⟩,
    ⟨some 4, none, .mv (.s 16)⟩] [] [4]) .ret)
def c26_1 : ACode :=
  (.seq (.region false [⟨some 4, none, .cst (.nils)⟩] [] [4]) .ret)
def c26_2 : ACode :=
  (.cond (.s 14) c26_1 .skip)
def c26_3 : ACode :=
  (.seq (.seq (.region false [⟨some 13, none, .mv (.s 6)⟩,
    ⟨some 14, none, .un .not (.s 13)⟩] [] [5, 14]) c26_2) c26_0)
def c26_4 : ACode :=
  (.seq (.region false [⟨some 8, none, .mv (.s 0)⟩,
    ⟨some 9, none, .mv (.s 1)⟩,
    ⟨some 10, none, .call 53 [(.s 8), (.s 9), (.c (.t (.str [102, 105, 101, 108, 100, 115])))]⟩,
    ⟨some 7, none, .mv (.s 10)⟩,
    ⟨some 11, none, .ext (.s 7) 0⟩,
    ⟨some 12, none, .ext (.s 7) 1⟩,
    ⟨some 5, none, .alloc [.t (.int .i64 0), .t (.int .i64 0), .t (.str []), .nils, .nils]⟩,
    ⟨none, none, .st 5 (.s 5) (.s 11)⟩,
    ⟨some 6, none, .mv (.s 12)⟩] [] [5, 6]) c26_3)
def c26 : ACode :=
  (.seq (.region false [⟨some 4, none, .cst (.nils)⟩] [] [0, 1]) c26_4)
def r26 : List ARes := [.tmp 4]
def n26 : Nat := 17
/- 27 supergraph supergraphref25.Texts -/
def c27_0 : ACode :=
  (.seq (.region false [⟨some 4, none, .cst (.t (.bool true))⟩] [] [4]) .ret)
def c27_1 : ACode :=
  (.region false [⟨some 15, none, .mv (.s 5)⟩,
    ⟨some 16, none, .bin .add (.s 15) (.c (.t (.int .i64 1)))⟩,
    ⟨some 5, none, .mv (.s 16)⟩] [] [0, 1, 5])
def c27_2 : ACode :=
  (.seq (.region false [⟨some 4, none, .cst (.t (.bool false))⟩] [] [4]) .ret)
def c27_3 : ACode :=
  (.cond (.s 25) c27_2 .skip)
def c27_4 : ACode :=
  (.seq (.region true [⟨some 17, none, .mv (.s 0)⟩,
    ⟨some 18, none, .mv (.s 5)⟩,
    ⟨some 19, none, .ia 1 (.s 17) (.s 18)⟩,
    ⟨some 20, none, .ld false 1 (.s 19)⟩,
    ⟨some 21, none, .mv (.s 1)⟩,
    ⟨some 22, none, .mv (.s 5)⟩,
    ⟨some 23, none, .ia 1 (.s 21) (.s 22)⟩,
    ⟨some 24, none, .ld false 1 (.s 23)⟩,
    ⟨some 25, none, .bin .neq (.s 20) (.s 24)⟩] [[], [], [0, 1], [2], [], [], [4, 5], [6], [3, 7]] [0, 1, 5, 25]) c27_3)
def c27_5 : ACode :=
  (.seq (.block 1 c27_4) c27_1)
def c27_6 : ACode :=
  (.cond (.s 14) .skip (.exit 0))
def c27_7 : ACode :=
  (.seq (.seq (.region false [⟨some 11, none, .mv (.s 5)⟩,
    ⟨some 12, none, .mv (.s 0)⟩,
    ⟨some 13, none, .len (.s 12)⟩,
    ⟨some 14, none, .bin .lss (.s 11) (.s 13)⟩] [] [0, 1, 5, 14]) c27_6) c27_5)
def c27_8 : ACode :=
  (.loop c27_7)
def c27_9 : ACode :=
  (.block 0 c27_8)
def c27_10 : ACode :=
  (.seq (.seq (.region false [⟨some 5, none, .cst (.t (.int .i64 0))⟩] [] [0, 1, 5]) c27_9) c27_0)
def c27_11 : ACode :=
  (.seq (.region false [⟨some 4, none, .cst (.t (.bool false))⟩] [] [4]) .ret)
def c27_12 : ACode :=
  (.cond (.s 10) c27_11 .skip)
def c27_13 : ACode :=
  (.seq (.seq (.region false [⟨some 6, none, .mv (.s 0)⟩,
    ⟨some 7, none, .len (.s 6)⟩,
    ⟨some 8, none, .mv (.s 1)⟩,
    ⟨some 9, none, .len (.s 8)⟩,
    ⟨some 10, none, .bin .neq (.s 7) (.s 9)⟩] [] [0, 1, 10]) c27_12) c27_10)
def c27 : ACode :=
  (.seq (.region false [⟨some 4, none, .cst (.t (.bool false))⟩] [] [0, 1]) c27_13)
def r27 : List ARes := [.tmp 4]
def n27 : Nat := 26
/- 28 supergraph supergraphref25.SameJoin -/
def c28_0 : ACode :=
  (.seq (.region false [⟨some 5, none, .fa 0 (.s 2)⟩,
    ⟨some 6, none, .ld false 1 (.s 5)⟩,
    ⟨some 7, none, .fa 0 (.s 3)⟩,
    ⟨some 8, none, .ld false 1 (.s 7)⟩,
    ⟨some 9, none, .bin .eql (.s 6) (.s 8)⟩,
    ⟨some 10, none, .mv (.s 9)⟩,
    ⟨some 11, some (10, true), .fa 1 (.s 2)⟩,
    ⟨some 12, some (10, true), .ld false 1 (.s 11)⟩,
    ⟨some 13, some (10, true), .fa 1 (.s 3)⟩,
    ⟨some 14, some (10, true), .ld false 1 (.s 13)⟩,
    ⟨some 15, some (10, true), .bin .eql (.s 12) (.s 14)⟩,
    ⟨some 16, none, .pick (.s 10) (.s 15) (.c (.t (.bool false)))⟩,
    ⟨some 17, none, .mv (.s 16)⟩,
    ⟨some 18, some (17, true), .fa 2 (.s 2)⟩,
    ⟨some 19, some (17, true), .ld false 1 (.s 18)⟩,
    ⟨some 20, some (17, true), .fa 2 (.s 3)⟩,
    ⟨some 21, some (17, true), .ld false 1 (.s 20)⟩,
    ⟨some 22, some (17, true), .bin .eql (.s 19) (.s 21)⟩,
    ⟨some 23, none, .pick (.s 17) (.s 22) (.c (.t (.bool false)))⟩,
    ⟨some 24, none, .mv (.s 23)⟩,
    ⟨some 25, some (24, true), .fa 3 (.s 2)⟩,
    ⟨some 26, some (24, true), .ld false 1 (.s 25)⟩,
    ⟨some 27, some (24, true), .fa 3 (.s 3)⟩,
    ⟨some 28, some (24, true), .ld false 1 (.s 27)⟩,
    ⟨some 29, some (24, true), .eqb false (.s 26) (.s 28)⟩,
    ⟨some 30, none, .pick (.s 24) (.s 29) (.c (.t (.bool false)))⟩,
    ⟨some 31, none, .mv (.s 30)⟩,
    ⟨some 32, some (31, true), .fa 4 (.s 2)⟩,
    ⟨some 33, some (31, true), .ld false 1 (.s 32)⟩,
    ⟨some 34, some (31, true), .fa 4 (.s 3)⟩,
    ⟨some 35, some (31, true), .ld false 1 (.s 34)⟩,
    ⟨some 36, some (31, true), .call 27 [(.s 33), (.s 35)]⟩,
    ⟨some 37, none, .pick (.s 31) (.s 36) (.c (.t (.bool false)))⟩,
    ⟨some 38, none, .mv (.s 37)⟩,
    ⟨some 39, some (38, true), .fa 5 (.s 2)⟩,
    ⟨some 40, some (38, true), .ld false 1 (.s 39)⟩,
    ⟨some 41, some (38, true), .fa 5 (.s 3)⟩,
    ⟨some 42, some (38, true), .ld false 1 (.s 41)⟩,
    ⟨some 43, some (38, true), .call 27 [(.s 40), (.s 42)]⟩,
    ⟨some 44, none, .pick (.s 38) (.s 43) (.c (.t (.bool false)))⟩,
    ⟨some 4, none, .mv (.s 44)⟩] [] [4]) .ret)
def c28 : ACode :=
  (.seq (.region false [⟨some 2, none, .box 6 (.s 0)⟩,
    ⟨some 3, none, .box 6 (.s 1)⟩,
    ⟨some 4, none, .cst (.t (.bool false))⟩] [] [2, 3]) c28_0)
def r28 : List ARes := [.tmp 4]
def n28 : Nat := 45
/- 29 supergraph supergraphref10.whole -/
def c29_0 : ACode :=
  (.seq (.region false [⟨some 93, none, .mv (.s 8)⟩,
    ⟨some 4, none, .mv (.s 93)⟩] [] [4]) .ret)
def c29_1 : ACode :=
  (.region false [⟨some 87, none, .mv (.s 8)⟩,
    ⟨some 88, none, .fa 1 (.s 5)⟩,
    ⟨some 89, none, .ld false 1 (.s 88)⟩,
    ⟨some 90, none, .build [.t (.int .i64 0), .t (.str [])] [(0, 1, (.c (.t (.int .i64 5)))), (1, 1, (.s 89))]⟩,
    ⟨some 91, none, .bsl false 2 [[.int .i64 0, .str []]] [(0, (.s 90))]⟩,
    ⟨some 92, none, .app 2 24 (.s 87) (.s 91)⟩,
    ⟨some 8, none, .mv (.s 92)⟩] [] [8])
def c29_2 : ACode :=
  (.cond (.s 86) c29_1 .skip)
def c29_3 : ACode :=
  (.seq (.seq (.region false [⟨some 84, none, .ld true 1 (.s 2)⟩,
    ⟨some 85, none, .ld true 7 (.s 5)⟩,
    ⟨some 86, none, .call 57 [(.s 84), (.s 85)]⟩] [] [5, 8, 86]) c29_2) c29_0)
def c29_4 : ACode :=
  (.region false [⟨some 78, none, .mv (.s 8)⟩,
    ⟨some 79, none, .fa 1 (.s 5)⟩,
    ⟨some 80, none, .ld false 1 (.s 79)⟩,
    ⟨some 81, none, .build [.t (.int .i64 0), .t (.str [])] [(0, 1, (.c (.t (.int .i64 9)))), (1, 1, (.s 80))]⟩,
    ⟨some 82, none, .bsl false 2 [[.int .i64 0, .str []]] [(0, (.s 81))]⟩,
    ⟨some 83, none, .app 2 24 (.s 78) (.s 82)⟩,
    ⟨some 8, none, .mv (.s 83)⟩] [] [2, 5, 8])
def c29_5 : ACode :=
  (.cond (.s 77) c29_4 .skip)
def c29_6 : ACode :=
  (.seq (.seq (.region false [⟨some 62, none, .mv (.s 9)⟩,
    ⟨some 63, none, .mv (.s 62)⟩,
    ⟨some 64, some (63, true), .fa 0 (.s 5)⟩,
    ⟨some 65, some (63, true), .ld false 1 (.s 64)⟩,
    ⟨some 66, some (63, true), .bin .neq (.s 65) (.c (.t (.int .i64 1)))⟩,
    ⟨some 67, none, .pick (.s 63) (.s 66) (.c (.t (.bool false)))⟩,
    ⟨some 68, none, .mv (.s 67)⟩,
    ⟨some 69, some (68, false), .fa 0 (.s 5)⟩,
    ⟨some 70, some (68, false), .ld false 1 (.s 69)⟩,
    ⟨some 71, some (68, false), .bin .lss (.s 70) (.c (.t (.int .i64 1)))⟩,
    ⟨some 72, none, .pick (.s 68) (.c (.t (.bool true))) (.s 71)⟩,
    ⟨some 73, none, .mv (.s 72)⟩,
    ⟨some 74, some (73, false), .fa 0 (.s 5)⟩,
    ⟨some 75, some (73, false), .ld false 1 (.s 74)⟩,
    ⟨some 76, some (73, false), .bin .gtr (.s 75) (.c (.t (.int .i64 5)))⟩,
    ⟨some 77, none, .pick (.s 73) (.c (.t (.bool true))) (.s 76)⟩] [] [2, 5, 8, 77]) c29_5) c29_3)
def c29_7 : ACode :=
  (.seq (.region false [⟨some 49, none, .fa 1 (.s 5)⟩,
    ⟨some 50, none, .ld false 1 (.s 49)⟩,
    ⟨some 51, none, .bin .eql (.s 50) (.c (.t (.str [81, 117, 101, 114, 121])))⟩,
    ⟨some 52, none, .mv (.s 51)⟩,
    ⟨some 53, some (52, false), .fa 1 (.s 5)⟩,
    ⟨some 54, some (52, false), .ld false 1 (.s 53)⟩,
    ⟨some 55, some (52, false), .bin .eql (.s 54) (.c (.t (.str [77, 117, 116, 97, 116, 105, 111, 110])))⟩,
    ⟨some 56, none, .pick (.s 52) (.c (.t (.bool true))) (.s 55)⟩,
    ⟨some 57, none, .mv (.s 56)⟩,
    ⟨some 58, some (57, false), .fa 1 (.s 5)⟩,
    ⟨some 59, some (57, false), .ld false 1 (.s 58)⟩,
    ⟨some 60, some (57, false), .bin .eql (.s 59) (.c (.t (.str [83, 117, 98, 115, 99, 114, 105, 112, 116, 105, 111, 110])))⟩,
    ⟨some 61, none, .pick (.s 57) (.c (.t (.bool true))) (.s 60)⟩,
    ⟨some 9, none, .mv (.s 61)⟩] [] [2, 5, 8, 9]) c29_6)
def c29_8 : ACode :=
  (.region false [⟨some 43, none, .mv (.s 8)⟩,
    ⟨some 44, none, .fa 1 (.s 5)⟩,
    ⟨some 45, none, .ld false 1 (.s 44)⟩,
    ⟨some 46, none, .build [.t (.int .i64 0), .t (.str [])] [(0, 1, (.c (.t (.int .i64 8)))), (1, 1, (.s 45))]⟩,
    ⟨some 47, none, .bsl false 2 [[.int .i64 0, .str []]] [(0, (.s 46))]⟩,
    ⟨some 48, none, .app 2 24 (.s 43) (.s 47)⟩,
    ⟨some 8, none, .mv (.s 48)⟩] [] [2, 5, 8])
def c29_9 : ACode :=
  (.cond (.s 42) c29_8 .skip)
def c29_10 : ACode :=
  (.seq (.seq (.region false [⟨some 41, none, .ld true 7 (.s 5)⟩,
    ⟨some 42, none, .call 56 [(.s 41)]⟩] [] [2, 5, 8, 42]) c29_9) c29_7)
def c29_11 : ACode :=
  (.seq (.region false [⟨some 35, none, .fa 1 (.s 5)⟩,
    ⟨some 36, none, .ld false 1 (.s 35)⟩,
    ⟨some 37, none, .mv (.s 6)⟩,
    ⟨some 38, none, .fa 1 (.s 5)⟩,
    ⟨some 39, none, .ld false 1 (.s 38)⟩,
    ⟨some 40, none, .call 55 [(.s 36), (.c (.t (.bool false))), (.s 37), (.s 39)]⟩,
    ⟨some 8, none, .mv (.s 40)⟩] [] [2, 5, 8]) c29_10)
def c29_12 : ACode :=
  (.region false [⟨some 21, none, .mv (.s 7)⟩,
    ⟨some 22, none, .bin .add (.s 21) (.c (.t (.int .i64 1)))⟩,
    ⟨some 7, none, .mv (.s 22)⟩] [] [1, 2, 5, 6, 7])
def c29_13 : ACode :=
  (.region true [⟨some 23, none, .mv (.s 6)⟩,
    ⟨some 24, none, .mv (.s 23)⟩,
    ⟨some 25, some (24, false), .fa 0 (.s 2)⟩,
    ⟨some 26, some (24, false), .ld false 1 (.s 25)⟩,
    ⟨some 27, some (24, false), .mv (.s 7)⟩,
    ⟨some 28, some (24, false), .ia 7 (.s 26) (.s 27)⟩,
    ⟨some 29, some (24, false), .fa 1 (.s 28)⟩,
    ⟨some 30, some (24, false), .ld false 1 (.s 29)⟩,
    ⟨some 31, some (24, false), .fa 1 (.s 5)⟩,
    ⟨some 32, some (24, false), .ld false 1 (.s 31)⟩,
    ⟨some 33, some (24, false), .bin .eql (.s 30) (.s 32)⟩,
    ⟨some 34, none, .pick (.s 24) (.c (.t (.bool true))) (.s 33)⟩,
    ⟨some 6, none, .mv (.s 34)⟩] [[], [0], [1], [2, 1], [1], [3, 4, 1], [5, 1], [6, 1], [1], [8, 1], [7, 9, 1], [1, 10], [11, 1, 0, 1, 2, 3, 4, 5, 6, 7, 8, 9, 10, 11]] [1, 2, 5, 6, 7])
def c29_14 : ACode :=
  (.seq (.block 1 c29_13) c29_12)
def c29_15 : ACode :=
  (.cond (.s 20) .skip (.exit 0))
def c29_16 : ACode :=
  (.seq (.seq (.region false [⟨some 18, none, .mv (.s 7)⟩,
    ⟨some 19, none, .mv (.s 1)⟩,
    ⟨some 20, none, .bin .lss (.s 18) (.s 19)⟩] [] [1, 2, 5, 6, 7, 20]) c29_15) c29_14)
def c29_17 : ACode :=
  (.loop c29_16)
def c29_18 : ACode :=
  (.block 0 c29_17)
def c29_19 : ACode :=
  (.seq (.seq (.region false [⟨some 7, none, .cst (.t (.int .i64 0))⟩] [] [1, 2, 5, 6, 7]) c29_18) c29_11)
def c29_20 : ACode :=
  (.seq (.region false [⟨some 15, none, .fa 1 (.s 5)⟩,
    ⟨some 16, none, .ld false 1 (.s 15)⟩,
    ⟨some 17, none, .call 54 [(.s 16)]⟩,
    ⟨some 6, none, .mv (.s 17)⟩] [] [1, 2, 5, 6]) c29_19)
def c29_21 : ACode :=
  (.seq (.region false [⟨some 10, none, .fa 0 (.s 2)⟩,
    ⟨some 11, none, .ld false 1 (.s 10)⟩,
    ⟨some 12, none, .mv (.s 1)⟩,
    ⟨some 13, none, .ia 7 (.s 11) (.s 12)⟩,
    ⟨some 14, none, .ld true 7 (.s 13)⟩,
    ⟨some 5, none, .alloc [.t (.int .i64 0), .t (.str []), .nils, .nils, .nils, .nils, .nils]⟩,
    ⟨none, none, .st 7 (.s 5) (.s 14)⟩] [] [1, 2, 5]) c29_20)
def c29 : ACode :=
  (.seq (.region false [⟨some 2, none, .box 1 (.s 0)⟩,
    ⟨some 4, none, .cst (.nils)⟩] [] [1, 2]) c29_21)
def r29 : List ARes := [.tmp 4]
def n29 : Nat := 94
/- 30 supergraph supergraphref10.fields -/
def c30_0 : ACode :=
  (.seq (.region false [⟨some 94, none, .mv (.s 5)⟩,
    ⟨some 4, none, .mv (.s 94)⟩] [] [4]) .ret)
def c30_1 : ACode :=
  (.region false [⟨some 18, none, .mv (.s 6)⟩,
    ⟨some 19, none, .bin .add (.s 18) (.c (.t (.int .i64 1)))⟩,
    ⟨some 6, none, .mv (.s 19)⟩] [] [2, 3, 5, 6])
def c30_2 : ACode :=
  (.region false [⟨some 86, none, .mv (.s 5)⟩,
    ⟨some 87, none, .ld true 1 (.s 2)⟩,
    ⟨some 88, none, .fa 1 (.s 7)⟩,
    ⟨some 89, none, .ld false 1 (.s 88)⟩,
    ⟨some 90, none, .mv (.s 8)⟩,
    ⟨some 91, none, .bin .add (.s 90) (.c (.t (.str [40])))⟩,
    ⟨some 92, none, .call 32 [(.s 87), (.s 89), (.s 91), (.c (.t (.str [41])))]⟩,
    ⟨some 93, none, .app 2 24 (.s 86) (.s 92)⟩,
    ⟨some 5, none, .mv (.s 93)⟩] [] [2, 3, 5, 6])
def c30_3 : ACode :=
  (.region false [⟨some 63, none, .mv (.s 5)⟩,
    ⟨some 64, none, .mv (.s 8)⟩,
    ⟨some 65, none, .build [.t (.int .i64 0), .t (.str [])] [(0, 1, (.c (.t (.int .i64 8)))), (1, 1, (.s 64))]⟩,
    ⟨some 66, none, .bsl false 2 [[.int .i64 0, .str []]] [(0, (.s 65))]⟩,
    ⟨some 67, none, .app 2 24 (.s 63) (.s 66)⟩,
    ⟨some 5, none, .mv (.s 67)⟩] [] [2, 3, 5, 6, 7, 8])
def c30_4 : ACode :=
  (.region false [⟨some 81, none, .mv (.s 5)⟩,
    ⟨some 82, none, .mv (.s 8)⟩,
    ⟨some 83, none, .build [.t (.int .i64 0), .t (.str [])] [(0, 1, (.c (.t (.int .i64 10)))), (1, 1, (.s 82))]⟩,
    ⟨some 84, none, .bsl false 2 [[.int .i64 0, .str []]] [(0, (.s 83))]⟩,
    ⟨some 85, none, .app 2 24 (.s 81) (.s 84)⟩,
    ⟨some 5, none, .mv (.s 85)⟩] [] [2, 3, 5, 6, 7, 8])
def c30_5 : ACode :=
  (.cond (.s 80) c30_4 .skip)
def c30_6 : ACode :=
  (.seq (.region false [⟨some 68, none, .fa 2 (.s 7)⟩,
    ⟨some 69, none, .fa 0 (.s 68)⟩,
    ⟨some 70, none, .ld false 1 (.s 69)⟩,
    ⟨some 71, none, .call 54 [(.s 70)]⟩,
    ⟨some 72, none, .un .not (.s 71)⟩,
    ⟨some 73, none, .mv (.s 72)⟩,
    ⟨some 74, some (73, true), .mv (.s 12)⟩,
    ⟨some 75, none, .pick (.s 73) (.s 74) (.c (.t (.bool false)))⟩,
    ⟨some 76, none, .mv (.s 75)⟩,
    ⟨some 77, some (76, true), .fa 0 (.s 11)⟩,
    ⟨some 78, some (76, true), .ld false 1 (.s 77)⟩,
    ⟨some 79, some (76, true), .bin .eql (.s 78) (.c (.t (.int .i64 5)))⟩,
    ⟨some 80, none, .pick (.s 76) (.s 79) (.c (.t (.bool false)))⟩] [] [2, 3, 5, 6, 7, 8, 80]) c30_5)
def c30_7 : ACode :=
  (.cond (.s 62) c30_3 c30_6)
def c30_8 : ACode :=
  (.seq (.seq (.region false [⟨some 57, none, .ld true 1 (.s 2)⟩,
    ⟨some 58, none, .fa 2 (.s 7)⟩,
    ⟨some 59, none, .fa 0 (.s 58)⟩,
    ⟨some 60, none, .ld false 1 (.s 59)⟩,
    ⟨some 61, none, .call 59 [(.s 57), (.s 60)]⟩,
    ⟨some 62, none, .un .not (.s 61)⟩] [] [2, 3, 5, 6, 7, 8, 11, 12, 62]) c30_7) c30_2)
def c30_9 : ACode :=
  (.seq (.region false [⟨some 50, none, .ld true 1 (.s 2)⟩,
    ⟨some 51, none, .fa 2 (.s 7)⟩,
    ⟨some 52, none, .fa 0 (.s 51)⟩,
    ⟨some 53, none, .ld false 1 (.s 52)⟩,
    ⟨some 54, none, .call 33 [(.s 50), (.s 53)]⟩,
    ⟨some 49, none, .mv (.s 54)⟩,
    ⟨some 55, none, .ext (.s 49) 0⟩,
    ⟨some 56, none, .ext (.s 49) 1⟩,
    ⟨some 11, none, .alloc [.t (.int .i64 0), .t (.str []), .nils, .nils, .nils, .nils, .nils]⟩,
    ⟨none, none, .st 7 (.s 11) (.s 55)⟩,
    ⟨some 12, none, .mv (.s 56)⟩] [] [2, 3, 5, 6, 7, 8, 11, 12]) c30_8)
def c30_10 : ACode :=
  (.seq (.region false [⟨some 42, none, .mv (.s 5)⟩,
    ⟨some 43, none, .fa 0 (.s 7)⟩,
    ⟨some 44, none, .ld false 1 (.s 43)⟩,
    ⟨some 45, none, .mv (.s 10)⟩,
    ⟨some 46, none, .mv (.s 8)⟩,
    ⟨some 47, none, .call 55 [(.s 44), (.c (.t (.bool false))), (.s 45), (.s 46)]⟩,
    ⟨some 48, none, .app 2 24 (.s 42) (.s 47)⟩,
    ⟨some 5, none, .mv (.s 48)⟩] [] [2, 3, 5, 6, 7, 8]) c30_9)
def c30_11 : ACode :=
  (.seq (.region true [⟨some 32, none, .fa 4 (.s 3)⟩,
    ⟨some 33, none, .ld false 1 (.s 32)⟩,
    ⟨some 34, none, .mv (.s 6)⟩,
    ⟨some 35, none, .sll 5 (.s 33) none (some (.s 34))⟩,
    ⟨some 36, none, .build [.t (.int .i64 0), .t (.str []), .nils, .nils, .nils, .nils, .nils] [(4, 1, (.s 35))]⟩,
    ⟨some 37, none, .fa 0 (.s 7)⟩,
    ⟨some 38, none, .ld false 1 (.s 37)⟩,
    ⟨some 39, none, .call 58 [(.s 36), (.s 38)]⟩,
    ⟨some 31, none, .mv (.s 39)⟩,
    ⟨some 40, none, .ext (.s 31) 0⟩,
    ⟨some 41, none, .ext (.s 31) 1⟩,
    ⟨some 9, none, .alloc [.t (.str []), .nils, .t (.str []), .nils, .nils]⟩,
    ⟨none, none, .st 5 (.s 9) (.s 40)⟩,
    ⟨some 10, none, .mv (.s 41)⟩] [[], [0], [], [1, 2], [3], [], [5], [4, 6], [7], [8], [8], [], [11, 9, 7, 0, 1, 2, 3, 4, 5, 6, 7, 8, 9, 11], [10, 12, 0, 1, 2, 3, 4, 5, 6, 7, 8, 9, 10, 11, 12]] [2, 3, 5, 6, 7, 8, 10]) c30_10)
def c30_12 : ACode :=
  (.seq (.region false [⟨some 25, none, .fa 1 (.s 3)⟩,
    ⟨some 26, none, .ld false 1 (.s 25)⟩,
    ⟨some 27, none, .bin .add (.s 26) (.c (.t (.str [46])))⟩,
    ⟨some 28, none, .fa 0 (.s 7)⟩,
    ⟨some 29, none, .ld false 1 (.s 28)⟩,
    ⟨some 30, none, .bin .add (.s 27) (.s 29)⟩,
    ⟨some 8, none, .mv (.s 30)⟩] [] [2, 3, 5, 6, 7, 8]) c30_11)
def c30_13 : ACode :=
  (.seq (.region false [⟨some 20, none, .fa 4 (.s 3)⟩,
    ⟨some 21, none, .ld false 1 (.s 20)⟩,
    ⟨some 22, none, .mv (.s 6)⟩,
    ⟨some 23, none, .ia 5 (.s 21) (.s 22)⟩,
    ⟨some 24, none, .ld true 5 (.s 23)⟩,
    ⟨some 7, none, .alloc [.t (.str []), .nils, .t (.str []), .nils, .nils]⟩,
    ⟨none, none, .st 5 (.s 7) (.s 24)⟩] [] [2, 3, 5, 6, 7]) c30_12)
def c30_14 : ACode :=
  (.seq (.block 1 c30_13) c30_1)
def c30_15 : ACode :=
  (.cond (.s 17) .skip (.exit 0))
def c30_16 : ACode :=
  (.seq (.seq (.region false [⟨some 13, none, .mv (.s 6)⟩,
    ⟨some 14, none, .fa 4 (.s 3)⟩,
    ⟨some 15, none, .ld false 1 (.s 14)⟩,
    ⟨some 16, none, .len (.s 15)⟩,
    ⟨some 17, none, .bin .lss (.s 13) (.s 16)⟩] [] [2, 3, 5, 6, 17]) c30_15) c30_14)
def c30_17 : ACode :=
  (.loop c30_16)
def c30_18 : ACode :=
  (.block 0 c30_17)
def c30_19 : ACode :=
  (.seq (.seq (.region false [⟨some 6, none, .cst (.t (.int .i64 0))⟩] [] [2, 3, 5, 6]) c30_18) c30_0)
def c30_20 : ACode :=
  (.seq (.region false [⟨some 5, none, .cst (.nils)⟩] [] [2, 3, 5]) c30_19)
def c30 : ACode :=
  (.seq (.region false [⟨some 2, none, .box 1 (.s 0)⟩,
    ⟨some 3, none, .box 7 (.s 1)⟩,
    ⟨some 4, none, .cst (.nils)⟩] [] [2, 3]) c30_20)
def r30 : List ARes := [.tmp 4]
def n30 : Nat := 95
/- 31 supergraph supergraphref10.members -/
def c31_0 : ACode :=
  (.seq (.region false [⟨some 57, none, .mv (.s 3)⟩,
    ⟨some 2, none, .mv (.s 57)⟩] [] [2]) .ret)
def c31_1 : ACode :=
  (.region false [⟨some 13, none, .mv (.s 4)⟩,
    ⟨some 14, none, .bin .add (.s 13) (.c (.t (.int .i64 1)))⟩,
    ⟨some 4, none, .mv (.s 14)⟩] [] [1, 3, 4])
def c31_2 : ACode :=
  (.region false [⟨some 37, none, .mv (.s 3)⟩,
    ⟨some 38, none, .mv (.s 5)⟩,
    ⟨some 39, none, .mv (.s 5)⟩,
    ⟨some 40, none, .bin .eql (.s 39) (.c (.t (.str [116, 114, 117, 101])))⟩,
    ⟨some 41, none, .mv (.s 40)⟩,
    ⟨some 42, some (41, false), .mv (.s 5)⟩,
    ⟨some 43, some (41, false), .bin .eql (.s 42) (.c (.t (.str [102, 97, 108, 115, 101])))⟩,
    ⟨some 44, none, .pick (.s 41) (.c (.t (.bool true))) (.s 43)⟩,
    ⟨some 45, none, .mv (.s 44)⟩,
    ⟨some 46, some (45, false), .mv (.s 5)⟩,
    ⟨some 47, some (45, false), .bin .eql (.s 46) (.c (.t (.str [110, 117, 108, 108])))⟩,
    ⟨some 48, none, .pick (.s 45) (.c (.t (.bool true))) (.s 47)⟩,
    ⟨some 49, none, .mv (.s 6)⟩,
    ⟨some 50, none, .fa 1 (.s 1)⟩,
    ⟨some 51, none, .ld false 1 (.s 50)⟩,
    ⟨some 52, none, .bin .add (.s 51) (.c (.t (.str [46])))⟩,
    ⟨some 53, none, .mv (.s 5)⟩,
    ⟨some 54, none, .bin .add (.s 52) (.s 53)⟩,
    ⟨some 55, none, .call 55 [(.s 38), (.s 48), (.s 49), (.s 54)]⟩,
    ⟨some 56, none, .app 2 24 (.s 37) (.s 55)⟩,
    ⟨some 3, none, .mv (.s 56)⟩] [] [1, 3, 4])
def c31_3 : ACode :=
  (.region false [⟨some 24, none, .mv (.s 7)⟩,
    ⟨some 25, none, .bin .add (.s 24) (.c (.t (.int .i64 1)))⟩,
    ⟨some 7, none, .mv (.s 25)⟩] [] [1, 3, 4, 5, 6, 7])
def c31_4 : ACode :=
  (.region false [⟨some 26, none, .mv (.s 6)⟩,
    ⟨some 27, none, .mv (.s 26)⟩,
    ⟨some 28, some (27, false), .fa 5 (.s 1)⟩,
    ⟨some 29, some (27, false), .ld false 1 (.s 28)⟩,
    ⟨some 30, some (27, false), .mv (.s 7)⟩,
    ⟨some 31, some (27, false), .ia 2 (.s 29) (.s 30)⟩,
    ⟨some 32, some (27, false), .fa 0 (.s 31)⟩,
    ⟨some 33, some (27, false), .ld false 1 (.s 32)⟩,
    ⟨some 34, some (27, false), .mv (.s 5)⟩,
    ⟨some 35, some (27, false), .bin .eql (.s 33) (.s 34)⟩,
    ⟨some 36, none, .pick (.s 27) (.c (.t (.bool true))) (.s 35)⟩,
    ⟨some 6, none, .mv (.s 36)⟩] [] [1, 3, 4, 5, 6, 7])
def c31_5 : ACode :=
  (.seq (.block 3 c31_4) c31_3)
def c31_6 : ACode :=
  (.cond (.s 23) .skip (.exit 2))
def c31_7 : ACode :=
  (.seq (.seq (.region false [⟨some 21, none, .mv (.s 7)⟩,
    ⟨some 22, none, .mv (.s 4)⟩,
    ⟨some 23, none, .bin .lss (.s 21) (.s 22)⟩] [] [1, 3, 4, 5, 6, 7, 23]) c31_6) c31_5)
def c31_8 : ACode :=
  (.loop c31_7)
def c31_9 : ACode :=
  (.block 2 c31_8)
def c31_10 : ACode :=
  (.seq (.seq (.region false [⟨some 7, none, .cst (.t (.int .i64 0))⟩] [] [1, 3, 4, 5, 6, 7]) c31_9) c31_2)
def c31_11 : ACode :=
  (.seq (.region false [⟨some 6, none, .cst (.t (.bool false))⟩] [] [1, 3, 4, 5, 6]) c31_10)
def c31_12 : ACode :=
  (.seq (.region false [⟨some 15, none, .fa 5 (.s 1)⟩,
    ⟨some 16, none, .ld false 1 (.s 15)⟩,
    ⟨some 17, none, .mv (.s 4)⟩,
    ⟨some 18, none, .ia 2 (.s 16) (.s 17)⟩,
    ⟨some 19, none, .fa 0 (.s 18)⟩,
    ⟨some 20, none, .ld false 1 (.s 19)⟩,
    ⟨some 5, none, .mv (.s 20)⟩] [] [1, 3, 4, 5]) c31_11)
def c31_13 : ACode :=
  (.seq (.block 1 c31_12) c31_1)
def c31_14 : ACode :=
  (.cond (.s 12) .skip (.exit 0))
def c31_15 : ACode :=
  (.seq (.seq (.region false [⟨some 8, none, .mv (.s 4)⟩,
    ⟨some 9, none, .fa 5 (.s 1)⟩,
    ⟨some 10, none, .ld false 1 (.s 9)⟩,
    ⟨some 11, none, .len (.s 10)⟩,
    ⟨some 12, none, .bin .lss (.s 8) (.s 11)⟩] [] [1, 3, 4, 12]) c31_14) c31_13)
def c31_16 : ACode :=
  (.loop c31_15)
def c31_17 : ACode :=
  (.block 0 c31_16)
def c31_18 : ACode :=
  (.seq (.seq (.region false [⟨some 4, none, .cst (.t (.int .i64 0))⟩] [] [1, 3, 4]) c31_17) c31_0)
def c31_19 : ACode :=
  (.seq (.region false [⟨some 3, none, .cst (.nils)⟩] [] [1, 3]) c31_18)
def c31 : ACode :=
  (.seq (.region false [⟨some 1, none, .box 7 (.s 0)⟩,
    ⟨some 2, none, .cst (.nils)⟩] [] [1]) c31_19)
def r31 : List ARes := [.tmp 2]
def n31 : Nat := 58
/- 32 supergraph supergraphref10.inputs -/
def c32_0 : ACode :=
  (.seq (.region false [⟨some 79, none, .mv (.s 9)⟩,
    ⟨some 8, none, .mv (.s 79)⟩] [] [8]) .ret)
def c32_1 : ACode :=
  (.region false [⟨some 18, none, .mv (.s 10)⟩,
    ⟨some 19, none, .bin .add (.s 18) (.c (.t (.int .i64 1)))⟩,
    ⟨some 10, none, .mv (.s 19)⟩] [] [1, 2, 3, 4, 9, 10])
def c32_2 : ACode :=
  (.region false [⟨some 60, none, .mv (.s 9)⟩,
    ⟨some 61, none, .mv (.s 11)⟩,
    ⟨some 62, none, .build [.t (.int .i64 0), .t (.str [])] [(0, 1, (.c (.t (.int .i64 8)))), (1, 1, (.s 61))]⟩,
    ⟨some 63, none, .bsl false 2 [[.int .i64 0, .str []]] [(0, (.s 62))]⟩,
    ⟨some 64, none, .app 2 24 (.s 60) (.s 63)⟩,
    ⟨some 9, none, .mv (.s 64)⟩] [] [1, 2, 3, 4, 9, 10])
def c32_3 : ACode :=
  (.region false [⟨some 74, none, .mv (.s 9)⟩,
    ⟨some 75, none, .mv (.s 11)⟩,
    ⟨some 76, none, .build [.t (.int .i64 0), .t (.str [])] [(0, 1, (.c (.t (.int .i64 10)))), (1, 1, (.s 75))]⟩,
    ⟨some 77, none, .bsl false 2 [[.int .i64 0, .str []]] [(0, (.s 76))]⟩,
    ⟨some 78, none, .app 2 24 (.s 74) (.s 77)⟩,
    ⟨some 9, none, .mv (.s 78)⟩] [] [1, 2, 3, 4, 9, 10])
def c32_4 : ACode :=
  (.cond (.s 73) c32_3 .skip)
def c32_5 : ACode :=
  (.seq (.region true [⟨some 65, none, .ld true 1 (.s 4)⟩,
    ⟨some 66, none, .mv (.s 1)⟩,
    ⟨some 67, none, .mv (.s 10)⟩,
    ⟨some 68, none, .ia 10 (.s 66) (.s 67)⟩,
    ⟨some 69, none, .fa 1 (.s 68)⟩,
    ⟨some 70, none, .fa 0 (.s 69)⟩,
    ⟨some 71, none, .ld false 1 (.s 70)⟩,
    ⟨some 72, none, .call 61 [(.s 65), (.s 71)]⟩,
    ⟨some 73, none, .un .not (.s 72)⟩] [[], [], [], [1, 2], [3], [4], [5], [0, 6], [7]] [1, 2, 3, 4, 9, 10, 11, 73]) c32_4)
def c32_6 : ACode :=
  (.cond (.s 59) c32_2 c32_5)
def c32_7 : ACode :=
  (.seq (.region true [⟨some 51, none, .ld true 1 (.s 4)⟩,
    ⟨some 52, none, .mv (.s 1)⟩,
    ⟨some 53, none, .mv (.s 10)⟩,
    ⟨some 54, none, .ia 10 (.s 52) (.s 53)⟩,
    ⟨some 55, none, .fa 1 (.s 54)⟩,
    ⟨some 56, none, .fa 0 (.s 55)⟩,
    ⟨some 57, none, .ld false 1 (.s 56)⟩,
    ⟨some 58, none, .call 59 [(.s 51), (.s 57)]⟩,
    ⟨some 59, none, .un .not (.s 58)⟩] [[], [], [], [1, 2], [3], [4], [5], [0, 6], [7]] [1, 2, 3, 4, 9, 10, 11, 59]) c32_6)
def c32_8 : ACode :=
  (.seq (.region false [⟨some 41, none, .mv (.s 9)⟩,
    ⟨some 42, none, .mv (.s 1)⟩,
    ⟨some 43, none, .mv (.s 10)⟩,
    ⟨some 44, none, .ia 10 (.s 42) (.s 43)⟩,
    ⟨some 45, none, .fa 0 (.s 44)⟩,
    ⟨some 46, none, .ld false 1 (.s 45)⟩,
    ⟨some 47, none, .mv (.s 13)⟩,
    ⟨some 48, none, .mv (.s 11)⟩,
    ⟨some 49, none, .call 55 [(.s 46), (.c (.t (.bool false))), (.s 47), (.s 48)]⟩,
    ⟨some 50, none, .app 2 24 (.s 41) (.s 49)⟩,
    ⟨some 9, none, .mv (.s 50)⟩] [] [1, 2, 3, 4, 9, 10, 11]) c32_7)
def c32_9 : ACode :=
  (.seq (.region true [⟨some 30, none, .mv (.s 1)⟩,
    ⟨some 31, none, .mv (.s 10)⟩,
    ⟨some 32, none, .sll 10 (.s 30) none (some (.s 31))⟩,
    ⟨some 33, none, .mv (.s 1)⟩,
    ⟨some 34, none, .mv (.s 10)⟩,
    ⟨some 35, none, .ia 10 (.s 33) (.s 34)⟩,
    ⟨some 36, none, .fa 0 (.s 35)⟩,
    ⟨some 37, none, .ld false 1 (.s 36)⟩,
    ⟨some 38, none, .call 60 [(.s 32), (.s 37)]⟩,
    ⟨some 29, none, .mv (.s 38)⟩,
    ⟨some 39, none, .ext (.s 29) 0⟩,
    ⟨some 40, none, .ext (.s 29) 1⟩,
    ⟨some 12, none, .alloc [.t (.str []), .t (.str []), .nils, .t (.bool false), .t (.int .i64 0), .t (.int .i64 0), .t (.str []), .nils, .nils, .nils]⟩,
    ⟨none, none, .st 10 (.s 12) (.s 39)⟩,
    ⟨some 13, none, .mv (.s 40)⟩] [[], [], [0, 1], [], [], [3, 4], [5], [6], [2, 7], [8], [9], [9], [], [12, 10, 8, 0, 1, 2, 3, 4, 5, 6, 7, 8, 9, 10, 12], [11, 13, 0, 1, 2, 3, 4, 5, 6, 7, 8, 9, 10, 11, 12, 13]] [1, 2, 3, 4, 9, 10, 11, 13]) c32_8)
def c32_10 : ACode :=
  (.seq (.region false [⟨some 20, none, .mv (.s 2)⟩,
    ⟨some 21, none, .mv (.s 1)⟩,
    ⟨some 22, none, .mv (.s 10)⟩,
    ⟨some 23, none, .ia 10 (.s 21) (.s 22)⟩,
    ⟨some 24, none, .fa 0 (.s 23)⟩,
    ⟨some 25, none, .ld false 1 (.s 24)⟩,
    ⟨some 26, none, .bin .add (.s 20) (.s 25)⟩,
    ⟨some 27, none, .mv (.s 3)⟩,
    ⟨some 28, none, .bin .add (.s 26) (.s 27)⟩,
    ⟨some 11, none, .mv (.s 28)⟩] [] [1, 2, 3, 4, 9, 10, 11]) c32_9)
def c32_11 : ACode :=
  (.seq (.block 1 c32_10) c32_1)
def c32_12 : ACode :=
  (.cond (.s 17) .skip (.exit 0))
def c32_13 : ACode :=
  (.seq (.seq (.region false [⟨some 14, none, .mv (.s 10)⟩,
    ⟨some 15, none, .mv (.s 1)⟩,
    ⟨some 16, none, .len (.s 15)⟩,
    ⟨some 17, none, .bin .lss (.s 14) (.s 16)⟩] [] [1, 2, 3, 4, 9, 10, 17]) c32_12) c32_11)
def c32_14 : ACode :=
  (.loop c32_13)
def c32_15 : ACode :=
  (.block 0 c32_14)
def c32_16 : ACode :=
  (.seq (.seq (.region false [⟨some 10, none, .cst (.t (.int .i64 0))⟩] [] [1, 2, 3, 4, 9, 10]) c32_15) c32_0)
def c32_17 : ACode :=
  (.seq (.region false [⟨some 9, none, .cst (.nils)⟩] [] [1, 2, 3, 4, 9]) c32_16)
def c32 : ACode :=
  (.seq (.region false [⟨some 4, none, .box 1 (.s 0)⟩,
    ⟨some 8, none, .cst (.nils)⟩] [] [1, 2, 3, 4]) c32_17)
def r32 : List ARes := [.tmp 8]
def n32 : Nat := 80
/- 33 supergraph supergraphref10.Find -/
def c33_0 : ACode :=
  (.seq (.region false [⟨some 27, none, .build [.t (.int .i64 0), .t (.str []), .nils, .nils, .nils, .nils, .nils] []⟩,
    ⟨none, none, .st 7 (.s 4) (.s 27)⟩,
    ⟨some 5, none, .cst (.t (.bool false))⟩] [] [4, 5]) .ret)
def c33_1 : ACode :=
  (.region false [⟨some 12, none, .mv (.s 6)⟩,
    ⟨some 13, none, .bin .add (.s 12) (.c (.t (.int .i64 1)))⟩,
    ⟨some 6, none, .mv (.s 13)⟩] [] [1, 2, 4, 6])
def c33_2 : ACode :=
  (.seq (.region false [⟨some 22, none, .fa 0 (.s 2)⟩,
    ⟨some 23, none, .ld false 1 (.s 22)⟩,
    ⟨some 24, none, .mv (.s 6)⟩,
    ⟨some 25, none, .ia 7 (.s 23) (.s 24)⟩,
    ⟨some 26, none, .ld true 7 (.s 25)⟩,
    ⟨none, none, .st 7 (.s 4) (.s 26)⟩,
    ⟨some 5, none, .cst (.t (.bool true))⟩] [] [4, 5]) .ret)
def c33_3 : ACode :=
  (.cond (.s 21) c33_2 .skip)
def c33_4 : ACode :=
  (.seq (.region false [⟨some 14, none, .fa 0 (.s 2)⟩,
    ⟨some 15, none, .ld false 1 (.s 14)⟩,
    ⟨some 16, none, .mv (.s 6)⟩,
    ⟨some 17, none, .ia 7 (.s 15) (.s 16)⟩,
    ⟨some 18, none, .fa 1 (.s 17)⟩,
    ⟨some 19, none, .ld false 1 (.s 18)⟩,
    ⟨some 20, none, .mv (.s 1)⟩,
    ⟨some 21, none, .bin .eql (.s 19) (.s 20)⟩] [] [1, 2, 4, 6, 21]) c33_3)
def c33_5 : ACode :=
  (.seq (.block 1 c33_4) c33_1)
def c33_6 : ACode :=
  (.cond (.s 11) .skip (.exit 0))
def c33_7 : ACode :=
  (.seq (.seq (.region false [⟨some 7, none, .mv (.s 6)⟩,
    ⟨some 8, none, .fa 0 (.s 2)⟩,
    ⟨some 9, none, .ld false 1 (.s 8)⟩,
    ⟨some 10, none, .len (.s 9)⟩,
    ⟨some 11, none, .bin .lss (.s 7) (.s 10)⟩] [] [1, 2, 4, 6, 11]) c33_6) c33_5)
def c33_8 : ACode :=
  (.loop c33_7)
def c33_9 : ACode :=
  (.block 0 c33_8)
def c33_10 : ACode :=
  (.seq (.seq (.region false [⟨some 6, none, .cst (.t (.int .i64 0))⟩] [] [1, 2, 4, 6]) c33_9) c33_0)
def c33 : ACode :=
  (.seq (.region false [⟨some 2, none, .box 1 (.s 0)⟩,
    ⟨some 4, none, .alloc [.t (.int .i64 0), .t (.str []), .nils, .nils, .nils, .nils, .nils]⟩,
    ⟨some 5, none, .cst (.t (.bool false))⟩] [] [1, 2, 4]) c33_10)
def r33 : List ARes := [.cell 4 true 7, .tmp 5]
def n33 : Nat := 28
/- 34 supergraph supergraphref23.uses -/
def c34_0 : ACode :=
  (.seq (.region false [⟨some 52, none, .mv (.s 7)⟩,
    ⟨some 6, none, .mv (.s 52)⟩] [] [6]) .ret)
def c34_1 : ACode :=
  (.region false [⟨some 15, none, .mv (.s 8)⟩,
    ⟨some 16, none, .bin .add (.s 15) (.c (.t (.int .i64 1)))⟩,
    ⟨some 8, none, .mv (.s 16)⟩] [] [0, 1, 2, 7, 8])
def c34_2 : ACode :=
  (.region false [⟨some 46, none, .mv (.s 7)⟩,
    ⟨some 47, none, .mv (.s 10)⟩,
    ⟨some 48, none, .mv (.s 2)⟩,
    ⟨some 49, none, .build [.t (.int .i64 0), .t (.str [])] [(0, 1, (.s 47)), (1, 1, (.s 48))]⟩,
    ⟨some 50, none, .bsl false 2 [[.int .i64 0, .str []]] [(0, (.s 49))]⟩,
    ⟨some 51, none, .app 2 24 (.s 46) (.s 50)⟩,
    ⟨some 7, none, .mv (.s 51)⟩] [] [0, 1, 2, 7, 8])
def c34_3 : ACode :=
  (.cond (.s 45) c34_2 .skip)
def c34_4 : ACode :=
  (.seq (.region false [⟨some 44, none, .mv (.s 10)⟩,
    ⟨some 45, none, .bin .neq (.s 44) (.c (.t (.int .i64 0)))⟩] [] [0, 1, 2, 7, 8, 10, 45]) c34_3)
def c34_5 : ACode :=
  (.region false [⟨some 10, none, .cst (.t (.int .i64 29))⟩] [] [0, 1, 2, 7, 8, 10])
def c34_6 : ACode :=
  (.cond (.s 43) c34_5 .skip)
def c34_7 : ACode :=
  (.seq (.seq (.region false [⟨some 39, none, .fa 0 (.s 9)⟩,
    ⟨some 40, none, .ld false 1 (.s 39)⟩,
    ⟨some 41, none, .mv (.s 1)⟩,
    ⟨some 42, none, .call 63 [(.s 40), (.s 41)]⟩,
    ⟨some 43, none, .un .not (.s 42)⟩] [] [0, 1, 2, 7, 8, 10, 43]) c34_6) c34_4)
def c34_8 : ACode :=
  (.region false [⟨some 10, none, .cst (.t (.int .i64 7))⟩] [] [0, 1, 2, 7, 8, 9, 10])
def c34_9 : ACode :=
  (.cond (.s 38) c34_8 .skip)
def c34_10 : ACode :=
  (.seq (.seq (.region true [⟨some 23, none, .mv (.s 0)⟩,
    ⟨some 24, none, .mv (.s 8)⟩,
    ⟨some 25, none, .sll 2 (.s 23) none (some (.s 24))⟩,
    ⟨some 26, none, .fa 0 (.s 9)⟩,
    ⟨some 27, none, .ld false 1 (.s 26)⟩,
    ⟨some 28, none, .call 25 [(.s 25), (.s 27)]⟩,
    ⟨some 29, none, .mv (.s 28)⟩,
    ⟨some 30, some (29, true), .fa 0 (.s 9)⟩,
    ⟨some 31, some (29, true), .ld false 1 (.s 30)⟩,
    ⟨some 32, some (29, true), .bin .neq (.s 31) (.c (.t (.str [107, 101, 121])))⟩,
    ⟨some 33, none, .pick (.s 29) (.s 32) (.c (.t (.bool false)))⟩,
    ⟨some 34, none, .mv (.s 33)⟩,
    ⟨some 35, some (34, true), .fa 0 (.s 9)⟩,
    ⟨some 36, some (34, true), .ld false 1 (.s 35)⟩,
    ⟨some 37, some (34, true), .bin .neq (.s 36) (.c (.t (.str [116, 97, 103])))⟩,
    ⟨some 38, none, .pick (.s 34) (.s 37) (.c (.t (.bool false)))⟩] [[], [], [0, 1], [], [3], [2, 4], [5, 5], [6], [7, 6], [8, 6], [6, 9], [10, 6], [11], [12, 11], [13, 11], [11, 14]] [0, 1, 2, 7, 8, 9, 10, 38]) c34_9) c34_7)
def c34_11 : ACode :=
  (.seq (.region false [⟨some 21, none, .ld true 2 (.s 9)⟩,
    ⟨some 22, none, .call 62 [(.s 21)]⟩,
    ⟨some 10, none, .mv (.s 22)⟩] [] [0, 1, 2, 7, 8, 9, 10]) c34_10)
def c34_12 : ACode :=
  (.seq (.region false [⟨some 17, none, .mv (.s 0)⟩,
    ⟨some 18, none, .mv (.s 8)⟩,
    ⟨some 19, none, .ia 2 (.s 17) (.s 18)⟩,
    ⟨some 20, none, .ld true 2 (.s 19)⟩,
    ⟨some 9, none, .alloc [.t (.str []), .nils]⟩,
    ⟨none, none, .st 2 (.s 9) (.s 20)⟩] [] [0, 1, 2, 7, 8, 9]) c34_11)
def c34_13 : ACode :=
  (.seq (.block 1 c34_12) c34_1)
def c34_14 : ACode :=
  (.cond (.s 14) .skip (.exit 0))
def c34_15 : ACode :=
  (.seq (.seq (.region false [⟨some 11, none, .mv (.s 8)⟩,
    ⟨some 12, none, .mv (.s 0)⟩,
    ⟨some 13, none, .len (.s 12)⟩,
    ⟨some 14, none, .bin .lss (.s 11) (.s 13)⟩] [] [0, 1, 2, 7, 8, 14]) c34_14) c34_13)
def c34_16 : ACode :=
  (.loop c34_15)
def c34_17 : ACode :=
  (.block 0 c34_16)
def c34_18 : ACode :=
  (.seq (.seq (.region false [⟨some 8, none, .cst (.t (.int .i64 0))⟩] [] [0, 1, 2, 7, 8]) c34_17) c34_0)
def c34_19 : ACode :=
  (.seq (.region false [⟨some 7, none, .cst (.nils)⟩] [] [0, 1, 2, 7]) c34_18)
def c34 : ACode :=
  (.seq (.region false [⟨some 6, none, .cst (.nils)⟩] [] [0, 1, 2]) c34_19)
def r34 : List ARes := [.tmp 6]
def n34 : Nat := 53
/- 35 supergraph supergraphref23.fields -/
def c35_0 : ACode :=
  (.seq (.region false [⟨some 63, none, .mv (.s 3)⟩,
    ⟨some 2, none, .mv (.s 63)⟩] [] [2]) .ret)
def c35_1 : ACode :=
  (.region false [⟨some 17, none, .mv (.s 5)⟩,
    ⟨some 18, none, .bin .add (.s 17) (.c (.t (.int .i64 1)))⟩,
    ⟨some 5, none, .mv (.s 18)⟩] [] [1, 3, 4, 5])
def c35_2 : ACode :=
  (.region false [⟨some 42, none, .mv (.s 8)⟩,
    ⟨some 43, none, .bin .add (.s 42) (.c (.t (.int .i64 1)))⟩,
    ⟨some 8, none, .mv (.s 43)⟩] [] [1, 3, 4, 5, 6, 7, 8])
def c35_3 : ACode :=
  (.region true [⟨some 44, none, .mv (.s 3)⟩,
    ⟨some 45, none, .fa 1 (.s 6)⟩,
    ⟨some 46, none, .ld false 1 (.s 45)⟩,
    ⟨some 47, none, .mv (.s 8)⟩,
    ⟨some 48, none, .ia 10 (.s 46) (.s 47)⟩,
    ⟨some 49, none, .fa 9 (.s 48)⟩,
    ⟨some 50, none, .ld false 1 (.s 49)⟩,
    ⟨some 51, none, .mv (.s 7)⟩,
    ⟨some 52, none, .bin .add (.s 51) (.c (.t (.str [40])))⟩,
    ⟨some 53, none, .fa 1 (.s 6)⟩,
    ⟨some 54, none, .ld false 1 (.s 53)⟩,
    ⟨some 55, none, .mv (.s 8)⟩,
    ⟨some 56, none, .ia 10 (.s 54) (.s 55)⟩,
    ⟨some 57, none, .fa 0 (.s 56)⟩,
    ⟨some 58, none, .ld false 1 (.s 57)⟩,
    ⟨some 59, none, .bin .add (.s 52) (.s 58)⟩,
    ⟨some 60, none, .bin .add (.s 59) (.c (.t (.str [41])))⟩,
    ⟨some 61, none, .call 34 [(.s 50), (.c (.t (.int .i64 6))), (.s 60)]⟩,
    ⟨some 62, none, .app 2 24 (.s 44) (.s 61)⟩,
    ⟨some 3, none, .mv (.s 62)⟩] [[], [], [1], [], [2, 3], [4], [5], [], [7], [], [9], [], [10, 11], [12], [13], [8, 14], [15], [6, 16], [0, 17, 17], [18, 18, 0, 1, 2, 3, 4, 5, 6, 7, 8, 9, 10, 11, 12, 13, 14, 15, 16, 17, 18]] [1, 3, 4, 5, 6, 7, 8])
def c35_4 : ACode :=
  (.seq (.block 3 c35_3) c35_2)
def c35_5 : ACode :=
  (.cond (.s 41) .skip (.exit 2))
def c35_6 : ACode :=
  (.seq (.seq (.region false [⟨some 37, none, .mv (.s 8)⟩,
    ⟨some 38, none, .fa 1 (.s 6)⟩,
    ⟨some 39, none, .ld false 1 (.s 38)⟩,
    ⟨some 40, none, .len (.s 39)⟩,
    ⟨some 41, none, .bin .lss (.s 37) (.s 40)⟩] [] [1, 3, 4, 5, 6, 7, 8, 41]) c35_5) c35_4)
def c35_7 : ACode :=
  (.loop c35_6)
def c35_8 : ACode :=
  (.block 2 c35_7)
def c35_9 : ACode :=
  (.seq (.region false [⟨some 8, none, .cst (.t (.int .i64 0))⟩] [] [1, 3, 4, 5, 6, 7, 8]) c35_8)
def c35_10 : ACode :=
  (.seq (.region false [⟨some 30, none, .mv (.s 3)⟩,
    ⟨some 31, none, .fa 4 (.s 6)⟩,
    ⟨some 32, none, .ld false 1 (.s 31)⟩,
    ⟨some 33, none, .mv (.s 4)⟩,
    ⟨some 34, none, .mv (.s 7)⟩,
    ⟨some 35, none, .call 34 [(.s 32), (.s 33), (.s 34)]⟩,
    ⟨some 36, none, .app 2 24 (.s 30) (.s 35)⟩,
    ⟨some 3, none, .mv (.s 36)⟩] [] [1, 3, 4, 5, 6, 7]) c35_9)
def c35_11 : ACode :=
  (.seq (.region false [⟨some 24, none, .fa 1 (.s 1)⟩,
    ⟨some 25, none, .ld false 1 (.s 24)⟩,
    ⟨some 26, none, .bin .add (.s 25) (.c (.t (.str [46])))⟩,
    ⟨some 27, none, .fa 0 (.s 6)⟩,
    ⟨some 28, none, .ld false 1 (.s 27)⟩,
    ⟨some 29, none, .bin .add (.s 26) (.s 28)⟩,
    ⟨some 7, none, .mv (.s 29)⟩] [] [1, 3, 4, 5, 6, 7]) c35_10)
def c35_12 : ACode :=
  (.seq (.region false [⟨some 19, none, .fa 4 (.s 1)⟩,
    ⟨some 20, none, .ld false 1 (.s 19)⟩,
    ⟨some 21, none, .mv (.s 5)⟩,
    ⟨some 22, none, .ia 5 (.s 20) (.s 21)⟩,
    ⟨some 23, none, .ld true 5 (.s 22)⟩,
    ⟨some 6, none, .alloc [.t (.str []), .nils, .t (.str []), .nils, .nils]⟩,
    ⟨none, none, .st 5 (.s 6) (.s 23)⟩] [] [1, 3, 4, 5, 6]) c35_11)
def c35_13 : ACode :=
  (.seq (.block 1 c35_12) c35_1)
def c35_14 : ACode :=
  (.cond (.s 16) .skip (.exit 0))
def c35_15 : ACode :=
  (.seq (.seq (.region false [⟨some 12, none, .mv (.s 5)⟩,
    ⟨some 13, none, .fa 4 (.s 1)⟩,
    ⟨some 14, none, .ld false 1 (.s 13)⟩,
    ⟨some 15, none, .len (.s 14)⟩,
    ⟨some 16, none, .bin .lss (.s 12) (.s 15)⟩] [] [1, 3, 4, 5, 16]) c35_14) c35_13)
def c35_16 : ACode :=
  (.loop c35_15)
def c35_17 : ACode :=
  (.block 0 c35_16)
def c35_18 : ACode :=
  (.seq (.seq (.region false [⟨some 5, none, .cst (.t (.int .i64 0))⟩] [] [1, 3, 4, 5]) c35_17) c35_0)
def c35_19 : ACode :=
  (.region false [⟨some 4, none, .cst (.t (.int .i64 4))⟩] [] [1, 3, 4])
def c35_20 : ACode :=
  (.cond (.s 11) c35_19 .skip)
def c35_21 : ACode :=
  (.seq (.seq (.region false [⟨some 9, none, .fa 0 (.s 1)⟩,
    ⟨some 10, none, .ld false 1 (.s 9)⟩,
    ⟨some 11, none, .bin .eql (.s 10) (.c (.t (.int .i64 2)))⟩] [] [1, 3, 4, 11]) c35_20) c35_18)
def c35_22 : ACode :=
  (.seq (.region false [⟨some 4, none, .cst (.t (.int .i64 3))⟩] [] [1, 3, 4]) c35_21)
def c35_23 : ACode :=
  (.seq (.region false [⟨some 3, none, .cst (.nils)⟩] [] [1, 3]) c35_22)
def c35 : ACode :=
  (.seq (.region false [⟨some 1, none, .box 7 (.s 0)⟩,
    ⟨some 2, none, .cst (.nils)⟩] [] [1]) c35_23)
def r35 : List ARes := [.tmp 2]
def n35 : Nat := 64
/- 36 supergraph supergraphref23.members -/
def c36_0 : ACode :=
  (.seq (.region false [⟨some 34, none, .mv (.s 5)⟩,
    ⟨some 4, none, .mv (.s 34)⟩] [] [4]) .ret)
def c36_1 : ACode :=
  (.region false [⟨some 12, none, .mv (.s 6)⟩,
    ⟨some 13, none, .bin .add (.s 12) (.c (.t (.int .i64 1)))⟩,
    ⟨some 6, none, .mv (.s 13)⟩] [] [1, 2, 5, 6])
def c36_2 : ACode :=
  (.region true [⟨some 14, none, .mv (.s 5)⟩,
    ⟨some 15, none, .fa 5 (.s 2)⟩,
    ⟨some 16, none, .ld false 1 (.s 15)⟩,
    ⟨some 17, none, .mv (.s 6)⟩,
    ⟨some 18, none, .ia 2 (.s 16) (.s 17)⟩,
    ⟨some 19, none, .fa 1 (.s 18)⟩,
    ⟨some 20, none, .ld false 1 (.s 19)⟩,
    ⟨some 21, none, .mv (.s 1)⟩,
    ⟨some 22, none, .fa 1 (.s 2)⟩,
    ⟨some 23, none, .ld false 1 (.s 22)⟩,
    ⟨some 24, none, .bin .add (.s 23) (.c (.t (.str [46])))⟩,
    ⟨some 25, none, .fa 5 (.s 2)⟩,
    ⟨some 26, none, .ld false 1 (.s 25)⟩,
    ⟨some 27, none, .mv (.s 6)⟩,
    ⟨some 28, none, .ia 2 (.s 26) (.s 27)⟩,
    ⟨some 29, none, .fa 0 (.s 28)⟩,
    ⟨some 30, none, .ld false 1 (.s 29)⟩,
    ⟨some 31, none, .bin .add (.s 24) (.s 30)⟩,
    ⟨some 32, none, .call 34 [(.s 20), (.s 21), (.s 31)]⟩,
    ⟨some 33, none, .app 2 24 (.s 14) (.s 32)⟩,
    ⟨some 5, none, .mv (.s 33)⟩] [[], [], [1], [], [2, 3], [4], [5], [], [], [8], [9], [], [11], [], [12, 13], [14], [15], [10, 16], [6, 7, 17], [0, 18, 18], [19, 19, 0, 1, 2, 3, 4, 5, 6, 7, 8, 9, 10, 11, 12, 13, 14, 15, 16, 17, 18, 19]] [1, 2, 5, 6])
def c36_3 : ACode :=
  (.seq (.block 1 c36_2) c36_1)
def c36_4 : ACode :=
  (.cond (.s 11) .skip (.exit 0))
def c36_5 : ACode :=
  (.seq (.seq (.region false [⟨some 7, none, .mv (.s 6)⟩,
    ⟨some 8, none, .fa 5 (.s 2)⟩,
    ⟨some 9, none, .ld false 1 (.s 8)⟩,
    ⟨some 10, none, .len (.s 9)⟩,
    ⟨some 11, none, .bin .lss (.s 7) (.s 10)⟩] [] [1, 2, 5, 6, 11]) c36_4) c36_3)
def c36_6 : ACode :=
  (.loop c36_5)
def c36_7 : ACode :=
  (.block 0 c36_6)
def c36_8 : ACode :=
  (.seq (.seq (.region false [⟨some 6, none, .cst (.t (.int .i64 0))⟩] [] [1, 2, 5, 6]) c36_7) c36_0)
def c36_9 : ACode :=
  (.seq (.region false [⟨some 5, none, .cst (.nils)⟩] [] [1, 2, 5]) c36_8)
def c36 : ACode :=
  (.seq (.region false [⟨some 2, none, .box 7 (.s 0)⟩,
    ⟨some 4, none, .cst (.nils)⟩] [] [1, 2]) c36_9)
def r36 : List ARes := [.tmp 4]
def n36 : Nat := 35
/- 37 slices.Clone[[]string,string] -/
def c37_0 : ACode :=
  (.seq (.region false [⟨some 5, none, .bsl true 1 [] []⟩,
    ⟨some 6, none, .mv (.s 0)⟩,
    ⟨some 7, none, .app 1 16 (.s 5) (.s 6)⟩,
    ⟨some 2, none, .mv (.s 7)⟩] [] [2]) .ret)
def c37_1 : ACode :=
  (.seq (.region false [⟨some 2, none, .cst (.nils)⟩] [] [2]) .ret)
def c37_2 : ACode :=
  (.cond (.s 4) c37_1 .skip)
def c37_3 : ACode :=
  (.seq (.seq (.region false [⟨some 3, none, .mv (.s 0)⟩,
    ⟨some 4, none, .nw (.eqn false (.s 3))⟩] [] [0, 4]) c37_2) c37_0)
def c37 : ACode :=
  (.seq (.region false [⟨some 2, none, .cst (.nils)⟩] [] [0]) c37_3)
def r37 : List ARes := [.tmp 2]
def n37 : Nat := 8
/- 38 supergraph schema.FieldOf -/
def c38_0 : ACode :=
  (.seq (.region false [⟨some 21, none, .build [.t (.str []), .nils, .t (.str []), .nils, .nils] []⟩,
    ⟨none, none, .st 5 (.s 4) (.s 21)⟩,
    ⟨some 5, none, .cst (.t (.bool false))⟩] [] [4, 5]) .ret)
def c38_1 : ACode :=
  (.region false [⟨some 20, none, .bin .add (.s 11) (.c (.t (.int .i64 1)))⟩,
    ⟨some 11, none, .mv (.s 20)⟩] [] [1, 4, 9, 10, 11])
def c38_2 : ACode :=
  (.seq (.region false [⟨some 19, none, .ld true 5 (.s 7)⟩,
    ⟨none, none, .st 5 (.s 4) (.s 19)⟩,
    ⟨some 5, none, .cst (.t (.bool true))⟩] [] [4, 5]) .ret)
def c38_3 : ACode :=
  (.cond (.s 18) c38_2 .skip)
def c38_4 : ACode :=
  (.seq (.region false [⟨some 15, none, .fa 0 (.s 7)⟩,
    ⟨some 16, none, .ld false 1 (.s 15)⟩,
    ⟨some 17, none, .mv (.s 1)⟩,
    ⟨some 18, none, .bin .eql (.s 16) (.s 17)⟩] [] [1, 4, 7, 9, 10, 11, 18]) c38_3)
def c38_5 : ACode :=
  (.seq (.region false [⟨some 13, none, .ia 5 (.s 9) (.s 11)⟩,
    ⟨some 14, none, .ld true 5 (.s 13)⟩,
    ⟨some 7, none, .alloc [.t (.str []), .nils, .t (.str []), .nils, .nils]⟩,
    ⟨none, none, .st 5 (.s 7) (.s 14)⟩] [] [1, 4, 7, 9, 10, 11]) c38_4)
def c38_6 : ACode :=
  (.seq (.block 1 c38_5) c38_1)
def c38_7 : ACode :=
  (.seq (.cond (.s 12) .skip (.exit 0)) c38_6)
def c38_8 : ACode :=
  (.seq (.region false [⟨some 12, none, .bin .lss (.s 11) (.s 10)⟩] [] [1, 4, 9, 10, 11, 12]) c38_7)
def c38_9 : ACode :=
  (.loop c38_8)
def c38_10 : ACode :=
  (.block 0 c38_9)
def c38_11 : ACode :=
  (.seq (.seq (.region false [⟨some 8, none, .fa 4 (.s 2)⟩,
    ⟨some 9, none, .ld false 1 (.s 8)⟩,
    ⟨some 10, none, .len (.s 9)⟩,
    ⟨some 11, none, .cst (.t (.int .i64 0))⟩] [] [1, 4, 9, 10, 11]) c38_10) c38_0)
def c38 : ACode :=
  (.seq (.region false [⟨some 2, none, .box 7 (.s 0)⟩,
    ⟨some 4, none, .alloc [.t (.str []), .nils, .t (.str []), .nils, .nils]⟩,
    ⟨some 5, none, .cst (.t (.bool false))⟩] [] [1, 2, 4]) c38_11)
def r38 : List ARes := [.cell 4 true 5, .tmp 5]
def n38 : Nat := 22
/- 39 supergraph schema.Leaf -/
def c39_0 : ACode :=
  (.seq (.region false [⟨some 5, none, .mv (.s 1)⟩,
    ⟨some 6, none, .call 64 [(.s 5)]⟩,
    ⟨some 7, none, .mv (.s 6)⟩,
    ⟨some 8, some (7, false), .ld true 1 (.s 2)⟩,
    ⟨some 9, some (7, false), .mv (.s 1)⟩,
    ⟨some 10, some (7, false), .call 65 [(.s 8), (.s 9)]⟩,
    ⟨some 11, some (7, false), .bin .eql (.s 10) (.c (.t (.int .i64 4)))⟩,
    ⟨some 12, none, .pick (.s 7) (.c (.t (.bool true))) (.s 11)⟩,
    ⟨some 4, none, .mv (.s 12)⟩] [] [4]) .ret)
def c39 : ACode :=
  (.seq (.region false [⟨some 2, none, .box 1 (.s 0)⟩,
    ⟨some 4, none, .cst (.t (.bool false))⟩] [] [1, 2]) c39_0)
def r39 : List ARes := [.tmp 4]
def n39 : Nat := 13
/- 40 (*supergraph moves.judge).add -/
def c40_0 : ACode :=
  (.region true [⟨some 11, none, .mv (.s 0)⟩,
    ⟨some 12, none, .mv (.s 0)⟩,
    ⟨some 13, none, .nilck (.s 12)⟩,
    ⟨some 14, none, .fa 1 (.s 13)⟩,
    ⟨some 15, none, .ld false 1 (.s 14)⟩,
    ⟨some 16, none, .mv (.s 2)⟩,
    ⟨some 17, none, .fa 0 (.s 8)⟩,
    ⟨some 18, none, .ld false 1 (.s 17)⟩,
    ⟨some 19, none, .bin .add (.s 18) (.c (.t (.str [58])))⟩,
    ⟨some 20, none, .mv (.s 4)⟩,
    ⟨some 21, none, .bin .add (.s 19) (.s 20)⟩,
    ⟨some 22, none, .build [.t (.int .i64 0), .t (.str [])] [(0, 1, (.s 16)), (1, 1, (.s 21))]⟩,
    ⟨some 23, none, .bsl false 2 [[.int .i64 0, .str []]] [(0, (.s 22))]⟩,
    ⟨some 24, none, .app 2 24 (.s 15) (.s 23)⟩,
    ⟨some 25, none, .nilck (.s 11)⟩,
    ⟨some 26, none, .fa 1 (.s 25)⟩,
    ⟨none, none, .st 1 (.s 26) (.s 24)⟩] [[], [], [1], [2], [3], [], [], [6], [7], [], [8, 9], [5, 10], [11], [4, 12], [0, 0, 1, 2, 3, 4, 5, 6, 7, 8, 9, 10, 11, 12, 13], [14, 0, 1, 2, 3, 4, 5, 6, 7, 8, 9, 10, 11, 12, 13], [15, 13, 13, 0, 1, 2, 3, 4, 5, 6, 7, 8, 9, 10, 11, 12, 13]] [])
def c40_1 : ACode :=
  (.cond (.s 10) c40_0 .skip)
def c40_2 : ACode :=
  (.seq (.region false [⟨some 10, none, .mv (.s 1)⟩] [] [0, 2, 4, 8, 10]) c40_1)
def c40 : ACode :=
  (.seq (.region false [⟨some 8, none, .box 2 (.s 3)⟩] [] [0, 1, 2, 4, 8]) c40_2)
def r40 : List ARes := []
def n40 : Nat := 27
/- 41 supergraph moves.mentioned -/
def c41_0 : ACode :=
  (.seq (.region false [⟨some 6, none, .cst (.t (.bool false))⟩] [] [6]) .ret)
def c41_1 : ACode :=
  (.region false [⟨some 63, none, .bin .add (.s 33) (.c (.t (.int .i64 1)))⟩,
    ⟨some 33, none, .mv (.s 63)⟩] [] [2, 4, 31, 32, 33])
def c41_2 : ACode :=
  (.region false [⟨some 62, none, .bin .add (.s 40) (.c (.t (.int .i64 1)))⟩,
    ⟨some 40, none, .mv (.s 62)⟩] [] [2, 4, 10, 31, 32, 33, 38, 39, 40])
def c41_3 : ACode :=
  (.seq (.region false [⟨some 6, none, .cst (.t (.bool true))⟩] [] [6]) .ret)
def c41_4 : ACode :=
  (.cond (.s 61) c41_3 .skip)
def c41_5 : ACode :=
  (.seq (.region false [⟨some 44, none, .fa 0 (.s 10)⟩,
    ⟨some 45, none, .ld false 1 (.s 44)⟩,
    ⟨some 46, none, .bin .eql (.s 45) (.c (.t (.int .i64 1)))⟩,
    ⟨some 47, none, .mv (.s 46)⟩,
    ⟨some 48, some (47, true), .fa 2 (.s 12)⟩,
    ⟨some 49, some (47, true), .fa 0 (.s 48)⟩,
    ⟨some 50, some (47, true), .ld false 1 (.s 49)⟩,
    ⟨some 51, some (47, true), .fa 1 (.s 4)⟩,
    ⟨some 52, some (47, true), .ld false 1 (.s 51)⟩,
    ⟨some 53, some (47, true), .bin .eql (.s 50) (.s 52)⟩,
    ⟨some 54, none, .pick (.s 47) (.s 53) (.c (.t (.bool false)))⟩,
    ⟨some 55, none, .mv (.s 54)⟩,
    ⟨some 56, some (55, true), .fa 4 (.s 12)⟩,
    ⟨some 57, some (55, true), .ld false 1 (.s 56)⟩,
    ⟨some 58, some (55, true), .call 22 [(.s 57), (.c (.t (.str [112, 114, 111, 118, 105, 100, 101, 115])))]⟩,
    ⟨some 59, some (55, true), .mv (.s 2)⟩,
    ⟨some 60, some (55, true), .call 66 [(.s 58), (.s 59)]⟩,
    ⟨some 61, none, .pick (.s 55) (.s 60) (.c (.t (.bool false)))⟩] [] [2, 4, 10, 31, 32, 33, 38, 39, 40, 61]) c41_4)
def c41_6 : ACode :=
  (.seq (.region false [⟨some 42, none, .ia 5 (.s 38) (.s 40)⟩,
    ⟨some 43, none, .ld true 5 (.s 42)⟩,
    ⟨some 12, none, .alloc [.t (.str []), .nils, .t (.str []), .nils, .nils]⟩,
    ⟨none, none, .st 5 (.s 12) (.s 43)⟩] [] [2, 4, 10, 12, 31, 32, 33, 38, 39, 40]) c41_5)
def c41_7 : ACode :=
  (.seq (.block 5 c41_6) c41_2)
def c41_8 : ACode :=
  (.seq (.cond (.s 41) .skip (.exit 4)) c41_7)
def c41_9 : ACode :=
  (.seq (.region false [⟨some 41, none, .bin .lss (.s 40) (.s 39)⟩] [] [2, 4, 10, 31, 32, 33, 38, 39, 40, 41]) c41_8)
def c41_10 : ACode :=
  (.loop c41_9)
def c41_11 : ACode :=
  (.block 4 c41_10)
def c41_12 : ACode :=
  (.seq (.region false [⟨some 37, none, .fa 4 (.s 10)⟩,
    ⟨some 38, none, .ld false 1 (.s 37)⟩,
    ⟨some 39, none, .len (.s 38)⟩,
    ⟨some 40, none, .cst (.t (.int .i64 0))⟩] [] [2, 4, 10, 31, 32, 33, 38, 39, 40]) c41_11)
def c41_13 : ACode :=
  (.seq (.region false [⟨some 35, none, .ia 7 (.s 31) (.s 33)⟩,
    ⟨some 36, none, .ld true 7 (.s 35)⟩,
    ⟨some 10, none, .alloc [.t (.int .i64 0), .t (.str []), .nils, .nils, .nils, .nils, .nils]⟩,
    ⟨none, none, .st 7 (.s 10) (.s 36)⟩] [] [2, 4, 10, 31, 32, 33]) c41_12)
def c41_14 : ACode :=
  (.seq (.block 3 c41_13) c41_1)
def c41_15 : ACode :=
  (.seq (.cond (.s 34) .skip (.exit 2)) c41_14)
def c41_16 : ACode :=
  (.seq (.region false [⟨some 34, none, .bin .lss (.s 33) (.s 32)⟩] [] [2, 4, 31, 32, 33, 34]) c41_15)
def c41_17 : ACode :=
  (.loop c41_16)
def c41_18 : ACode :=
  (.block 2 c41_17)
def c41_19 : ACode :=
  (.seq (.seq (.region false [⟨some 29, none, .fa 1 (.s 3)⟩,
    ⟨some 30, none, .fa 0 (.s 29)⟩,
    ⟨some 31, none, .ld false 1 (.s 30)⟩,
    ⟨some 32, none, .len (.s 31)⟩,
    ⟨some 33, none, .cst (.t (.int .i64 0))⟩] [] [2, 4, 31, 32, 33]) c41_18) c41_0)
def c41_20 : ACode :=
  (.region false [⟨some 28, none, .bin .add (.s 19) (.c (.t (.int .i64 1)))⟩,
    ⟨some 19, none, .mv (.s 28)⟩] [] [2, 3, 4, 17, 18, 19])
def c41_21 : ACode :=
  (.seq (.region false [⟨some 6, none, .cst (.t (.bool true))⟩] [] [6]) .ret)
def c41_22 : ACode :=
  (.cond (.s 27) c41_21 .skip)
def c41_23 : ACode :=
  (.seq (.region false [⟨some 23, none, .fa 4 (.s 8)⟩,
    ⟨some 24, none, .ld false 1 (.s 23)⟩,
    ⟨some 25, none, .call 22 [(.s 24), (.c (.t (.str [114, 101, 113, 117, 105, 114, 101, 115])))]⟩,
    ⟨some 26, none, .mv (.s 2)⟩,
    ⟨some 27, none, .call 66 [(.s 25), (.s 26)]⟩] [] [2, 3, 4, 17, 18, 19, 27]) c41_22)
def c41_24 : ACode :=
  (.seq (.region false [⟨some 21, none, .ia 5 (.s 17) (.s 19)⟩,
    ⟨some 22, none, .ld true 5 (.s 21)⟩,
    ⟨some 8, none, .alloc [.t (.str []), .nils, .t (.str []), .nils, .nils]⟩,
    ⟨none, none, .st 5 (.s 8) (.s 22)⟩] [] [2, 3, 4, 8, 17, 18, 19]) c41_23)
def c41_25 : ACode :=
  (.seq (.block 1 c41_24) c41_20)
def c41_26 : ACode :=
  (.seq (.cond (.s 20) .skip (.exit 0)) c41_25)
def c41_27 : ACode :=
  (.seq (.region false [⟨some 20, none, .bin .lss (.s 19) (.s 18)⟩] [] [2, 3, 4, 17, 18, 19, 20]) c41_26)
def c41_28 : ACode :=
  (.loop c41_27)
def c41_29 : ACode :=
  (.block 0 c41_28)
def c41_30 : ACode :=
  (.seq (.seq (.region false [⟨some 16, none, .fa 4 (.s 4)⟩,
    ⟨some 17, none, .ld false 1 (.s 16)⟩,
    ⟨some 18, none, .len (.s 17)⟩,
    ⟨some 19, none, .cst (.t (.int .i64 0))⟩] [] [2, 3, 4, 17, 18, 19]) c41_29) c41_19)
def c41_31 : ACode :=
  (.seq (.region false [⟨some 6, none, .cst (.t (.bool true))⟩] [] [6]) .ret)
def c41_32 : ACode :=
  (.cond (.s 15) c41_31 .skip)
def c41_33 : ACode :=
  (.seq (.seq (.region false [⟨some 13, none, .ld true 7 (.s 4)⟩,
    ⟨some 14, none, .mv (.s 2)⟩,
    ⟨some 15, none, .call 46 [(.s 13), (.s 14)]⟩] [] [2, 3, 4, 15]) c41_32) c41_30)
def c41 : ACode :=
  (.seq (.region false [⟨some 3, none, .box 2 (.s 0)⟩,
    ⟨some 4, none, .box 7 (.s 1)⟩,
    ⟨some 6, none, .cst (.t (.bool false))⟩] [] [2, 3, 4]) c41_33)
def r41 : List ARes := [.tmp 6]
def n41 : Nat := 64
/- 42 (*supergraph moves.judge).others -/
def c42_0 : ACode :=
  (.seq (.region false [⟨some 8, none, .cst (.t (.bool false))⟩] [] [8]) .ret)
def c42_1 : ACode :=
  (.region false [⟨some 30, none, .bin .add (.s 16) (.c (.t (.int .i64 1)))⟩,
    ⟨some 16, none, .mv (.s 30)⟩] [] [1, 2, 3, 14, 15, 16])
def c42_2 : ACode :=
  (.seq (.region false [⟨some 8, none, .cst (.t (.bool true))⟩] [] [8]) .ret)
def c42_3 : ACode :=
  (.cond (.s 29) c42_2 .skip)
def c42_4 : ACode :=
  (.seq (.region false [⟨some 21, none, .mv (.s 9)⟩,
    ⟨some 22, none, .mv (.s 1)⟩,
    ⟨some 23, none, .bin .neq (.s 21) (.s 22)⟩,
    ⟨some 24, none, .mv (.s 23)⟩,
    ⟨some 25, some (24, true), .ld true 2 (.s 10)⟩,
    ⟨some 26, some (24, true), .mv (.s 2)⟩,
    ⟨some 27, some (24, true), .mv (.s 3)⟩,
    ⟨some 28, some (24, true), .call 67 [(.s 25), (.s 26), (.s 27)]⟩,
    ⟨some 29, none, .pick (.s 24) (.s 28) (.c (.t (.bool false)))⟩] [] [1, 2, 3, 14, 15, 16, 29]) c42_3)
def c42_5 : ACode :=
  (.seq (.region false [⟨some 18, none, .mv (.s 16)⟩,
    ⟨some 19, none, .ia 2 (.s 14) (.s 16)⟩,
    ⟨some 20, none, .ld true 2 (.s 19)⟩,
    ⟨some 10, none, .alloc [.t (.str []), .nils]⟩,
    ⟨some 9, none, .mv (.s 18)⟩,
    ⟨none, none, .st 2 (.s 10) (.s 20)⟩] [] [1, 2, 3, 9, 10, 14, 15, 16]) c42_4)
def c42_6 : ACode :=
  (.seq (.block 1 c42_5) c42_1)
def c42_7 : ACode :=
  (.seq (.cond (.s 17) .skip (.exit 0)) c42_6)
def c42_8 : ACode :=
  (.seq (.region false [⟨some 17, none, .bin .lss (.s 16) (.s 15)⟩] [] [1, 2, 3, 14, 15, 16, 17]) c42_7)
def c42_9 : ACode :=
  (.loop c42_8)
def c42_10 : ACode :=
  (.block 0 c42_9)
def c42_11 : ACode :=
  (.seq (.seq (.region false [⟨some 11, none, .mv (.s 0)⟩,
    ⟨some 12, none, .nilck (.s 11)⟩,
    ⟨some 13, none, .fa 0 (.s 12)⟩,
    ⟨some 14, none, .ld false 1 (.s 13)⟩,
    ⟨some 15, none, .len (.s 14)⟩,
    ⟨some 16, none, .cst (.t (.int .i64 0))⟩] [] [1, 2, 3, 14, 15, 16]) c42_10) c42_0)
def c42 : ACode :=
  (.seq (.region false [⟨some 8, none, .cst (.t (.bool false))⟩] [] [0, 1, 2, 3]) c42_11)
def r42 : List ARes := [.tmp 8]
def n42 : Nat := 31
/- 43 (*supergraph moves.judge).leant -/
def c43_0 : ACode :=
  (.seq (.region false [⟨some 6, none, .cst (.t (.bool false))⟩] [] [6]) .ret)
def c43_1 : ACode :=
  (.region false [⟨some 39, none, .bin .add (.s 16) (.c (.t (.int .i64 1)))⟩,
    ⟨some 16, none, .mv (.s 39)⟩] [] [1, 5, 14, 15, 16])
def c43_2 : ACode :=
  (.seq (.region false [⟨some 6, none, .cst (.t (.bool true))⟩] [] [6]) .ret)
def c43_3 : ACode :=
  (.cond (.s 38) c43_2 .skip)
def c43_4 : ACode :=
  (.seq (.region false [⟨some 30, none, .ld true 7 (.s 9)⟩,
    ⟨some 31, none, .ld false 1 (.s 5)⟩,
    ⟨some 32, none, .call 46 [(.s 30), (.s 31)]⟩,
    ⟨some 33, none, .mv (.s 32)⟩,
    ⟨some 34, some (33, false), .fa 4 (.s 9)⟩,
    ⟨some 35, some (33, false), .ld false 1 (.s 34)⟩,
    ⟨some 36, some (33, false), .mkfn 69 [(.s 5)]⟩,
    ⟨some 37, some (33, false), .call 68 [(.s 35), (.s 36)]⟩,
    ⟨some 38, none, .pick (.s 33) (.c (.t (.bool true))) (.s 37)⟩] [] [1, 5, 14, 15, 16, 38]) c43_3)
def c43_5 : ACode :=
  (.cond (.s 29) (.exit 1) .skip)
def c43_6 : ACode :=
  (.seq (.seq (.region false [⟨some 27, none, .fa 0 (.s 9)⟩,
    ⟨some 28, none, .ld false 1 (.s 27)⟩,
    ⟨some 29, none, .bin .neq (.s 28) (.c (.t (.int .i64 1)))⟩] [] [1, 5, 9, 14, 15, 16, 29]) c43_5) c43_4)
def c43_7 : ACode :=
  (.seq (.region false [⟨some 21, none, .fa 1 (.s 8)⟩,
    ⟨some 22, none, .ld true 1 (.s 21)⟩,
    ⟨some 23, none, .mv (.s 1)⟩,
    ⟨some 24, none, .call 45 [(.s 22), (.s 23)]⟩,
    ⟨some 20, none, .mv (.s 24)⟩,
    ⟨some 25, none, .ext (.s 20) 0⟩,
    ⟨some 26, none, .ext (.s 20) 1⟩,
    ⟨some 9, none, .alloc [.t (.int .i64 0), .t (.str []), .nils, .nils, .nils, .nils, .nils]⟩,
    ⟨none, none, .st 7 (.s 9) (.s 25)⟩,
    ⟨some 10, none, .mv (.s 26)⟩] [] [1, 5, 9, 14, 15, 16]) c43_6)
def c43_8 : ACode :=
  (.seq (.region false [⟨some 18, none, .ia 2 (.s 14) (.s 16)⟩,
    ⟨some 19, none, .ld true 2 (.s 18)⟩,
    ⟨some 8, none, .alloc [.t (.str []), .nils]⟩,
    ⟨none, none, .st 2 (.s 8) (.s 19)⟩] [] [1, 5, 8, 14, 15, 16]) c43_7)
def c43_9 : ACode :=
  (.seq (.block 1 c43_8) c43_1)
def c43_10 : ACode :=
  (.seq (.cond (.s 17) .skip (.exit 0)) c43_9)
def c43_11 : ACode :=
  (.seq (.region false [⟨some 17, none, .bin .lss (.s 16) (.s 15)⟩] [] [1, 5, 14, 15, 16, 17]) c43_10)
def c43_12 : ACode :=
  (.loop c43_11)
def c43_13 : ACode :=
  (.block 0 c43_12)
def c43_14 : ACode :=
  (.seq (.seq (.region false [⟨some 11, none, .mv (.s 0)⟩,
    ⟨some 12, none, .nilck (.s 11)⟩,
    ⟨some 13, none, .fa 0 (.s 12)⟩,
    ⟨some 14, none, .ld false 1 (.s 13)⟩,
    ⟨some 15, none, .len (.s 14)⟩,
    ⟨some 16, none, .cst (.t (.int .i64 0))⟩] [] [1, 5, 14, 15, 16]) c43_13) c43_0)
def c43 : ACode :=
  (.seq (.region false [⟨some 5, none, .box 1 (.s 2)⟩,
    ⟨some 6, none, .cst (.t (.bool false))⟩] [] [0, 1, 5]) c43_14)
def r43 : List ARes := [.tmp 6]
def n43 : Nat := 40
/- 44 supergraph moves.outside -/
def c44_0 : ACode :=
  (.seq (.region false [⟨some 47, none, .mv (.s 2)⟩,
    ⟨some 48, none, .len (.s 47)⟩,
    ⟨some 49, none, .bin .gtr (.s 48) (.c (.t (.int .i64 0)))⟩,
    ⟨some 6, none, .mv (.s 49)⟩] [] [6]) .ret)
def c44_1 : ACode :=
  (.region false [⟨some 46, none, .bin .add (.s 13) (.c (.t (.int .i64 1)))⟩,
    ⟨some 13, none, .mv (.s 46)⟩] [] [2, 3, 4, 11, 12, 13])
def c44_2 : ACode :=
  (.seq (.region false [⟨some 6, none, .cst (.t (.bool false))⟩] [] [6]) .ret)
def c44_3 : ACode :=
  (.cond (.s 45) c44_2 .skip)
def c44_4 : ACode :=
  (.seq (.region false [⟨some 23, none, .mv (.s 10)⟩,
    ⟨some 24, none, .un .not (.s 23)⟩,
    ⟨some 25, none, .mv (.s 24)⟩,
    ⟨some 26, some (25, false), .fa 4 (.s 9)⟩,
    ⟨some 27, some (25, false), .ld false 1 (.s 26)⟩,
    ⟨some 28, some (25, false), .call 21 [(.s 27), (.c (.t (.str [101, 120, 116, 101, 114, 110, 97, 108])))]⟩,
    ⟨some 29, some (25, false), .un .not (.s 28)⟩,
    ⟨some 30, none, .pick (.s 25) (.c (.t (.bool true))) (.s 29)⟩,
    ⟨some 31, none, .mv (.s 30)⟩,
    ⟨some 32, some (31, false), .fa 1 (.s 9)⟩,
    ⟨some 33, some (31, false), .ld false 1 (.s 32)⟩,
    ⟨some 34, some (31, false), .len (.s 33)⟩,
    ⟨some 35, some (31, false), .bin .gtr (.s 34) (.c (.t (.int .i64 0)))⟩,
    ⟨some 36, none, .pick (.s 31) (.c (.t (.bool true))) (.s 35)⟩,
    ⟨some 37, none, .mv (.s 36)⟩,
    ⟨some 38, some (37, false), .fa 1 (.s 3)⟩,
    ⟨some 39, some (37, false), .ld true 1 (.s 38)⟩,
    ⟨some 40, some (37, false), .fa 2 (.s 9)⟩,
    ⟨some 41, some (37, false), .fa 0 (.s 40)⟩,
    ⟨some 42, some (37, false), .ld false 1 (.s 41)⟩,
    ⟨some 43, some (37, false), .call 39 [(.s 39), (.s 42)]⟩,
    ⟨some 44, some (37, false), .un .not (.s 43)⟩,
    ⟨some 45, none, .pick (.s 37) (.c (.t (.bool true))) (.s 44)⟩] [] [2, 3, 4, 11, 12, 13, 45]) c44_3)
def c44_5 : ACode :=
  (.seq (.region false [⟨some 18, none, .ld true 7 (.s 4)⟩,
    ⟨some 19, none, .mv (.s 8)⟩,
    ⟨some 20, none, .call 38 [(.s 18), (.s 19)]⟩,
    ⟨some 17, none, .mv (.s 20)⟩,
    ⟨some 21, none, .ext (.s 17) 0⟩,
    ⟨some 22, none, .ext (.s 17) 1⟩,
    ⟨some 9, none, .alloc [.t (.str []), .nils, .t (.str []), .nils, .nils]⟩,
    ⟨none, none, .st 5 (.s 9) (.s 21)⟩,
    ⟨some 10, none, .mv (.s 22)⟩] [] [2, 3, 4, 9, 10, 11, 12, 13]) c44_4)
def c44_6 : ACode :=
  (.seq (.region false [⟨some 15, none, .ia 1 (.s 11) (.s 13)⟩,
    ⟨some 16, none, .ld false 1 (.s 15)⟩,
    ⟨some 8, none, .mv (.s 16)⟩] [] [2, 3, 4, 8, 11, 12, 13]) c44_5)
def c44_7 : ACode :=
  (.seq (.block 1 c44_6) c44_1)
def c44_8 : ACode :=
  (.seq (.cond (.s 14) .skip (.exit 0)) c44_7)
def c44_9 : ACode :=
  (.seq (.region false [⟨some 14, none, .bin .lss (.s 13) (.s 12)⟩] [] [2, 3, 4, 11, 12, 13, 14]) c44_8)
def c44_10 : ACode :=
  (.loop c44_9)
def c44_11 : ACode :=
  (.block 0 c44_10)
def c44_12 : ACode :=
  (.seq (.seq (.region false [⟨some 11, none, .mv (.s 2)⟩,
    ⟨some 12, none, .len (.s 11)⟩,
    ⟨some 13, none, .cst (.t (.int .i64 0))⟩] [] [2, 3, 4, 11, 12, 13]) c44_11) c44_0)
def c44 : ACode :=
  (.seq (.region false [⟨some 3, none, .box 2 (.s 0)⟩,
    ⟨some 4, none, .box 7 (.s 1)⟩,
    ⟨some 6, none, .cst (.t (.bool false))⟩] [] [2, 3, 4]) c44_12)
def r44 : List ARes := [.tmp 6]
def n44 : Nat := 50
/- 45 supergraph schema.Find -/
def c45_0 : ACode :=
  (.seq (.region false [⟨some 21, none, .build [.t (.int .i64 0), .t (.str []), .nils, .nils, .nils, .nils, .nils] []⟩,
    ⟨none, none, .st 7 (.s 4) (.s 21)⟩,
    ⟨some 5, none, .cst (.t (.bool false))⟩] [] [4, 5]) .ret)
def c45_1 : ACode :=
  (.region false [⟨some 20, none, .bin .add (.s 11) (.c (.t (.int .i64 1)))⟩,
    ⟨some 11, none, .mv (.s 20)⟩] [] [1, 4, 9, 10, 11])
def c45_2 : ACode :=
  (.seq (.region false [⟨some 19, none, .ld true 7 (.s 7)⟩,
    ⟨none, none, .st 7 (.s 4) (.s 19)⟩,
    ⟨some 5, none, .cst (.t (.bool true))⟩] [] [4, 5]) .ret)
def c45_3 : ACode :=
  (.cond (.s 18) c45_2 .skip)
def c45_4 : ACode :=
  (.seq (.region false [⟨some 15, none, .fa 1 (.s 7)⟩,
    ⟨some 16, none, .ld false 1 (.s 15)⟩,
    ⟨some 17, none, .mv (.s 1)⟩,
    ⟨some 18, none, .bin .eql (.s 16) (.s 17)⟩] [] [1, 4, 7, 9, 10, 11, 18]) c45_3)
def c45_5 : ACode :=
  (.seq (.region false [⟨some 13, none, .ia 7 (.s 9) (.s 11)⟩,
    ⟨some 14, none, .ld true 7 (.s 13)⟩,
    ⟨some 7, none, .alloc [.t (.int .i64 0), .t (.str []), .nils, .nils, .nils, .nils, .nils]⟩,
    ⟨none, none, .st 7 (.s 7) (.s 14)⟩] [] [1, 4, 7, 9, 10, 11]) c45_4)
def c45_6 : ACode :=
  (.seq (.block 1 c45_5) c45_1)
def c45_7 : ACode :=
  (.seq (.cond (.s 12) .skip (.exit 0)) c45_6)
def c45_8 : ACode :=
  (.seq (.region false [⟨some 12, none, .bin .lss (.s 11) (.s 10)⟩] [] [1, 4, 9, 10, 11, 12]) c45_7)
def c45_9 : ACode :=
  (.loop c45_8)
def c45_10 : ACode :=
  (.block 0 c45_9)
def c45_11 : ACode :=
  (.seq (.seq (.region false [⟨some 8, none, .fa 0 (.s 2)⟩,
    ⟨some 9, none, .ld false 1 (.s 8)⟩,
    ⟨some 10, none, .len (.s 9)⟩,
    ⟨some 11, none, .cst (.t (.int .i64 0))⟩] [] [1, 4, 9, 10, 11]) c45_10) c45_0)
def c45 : ACode :=
  (.seq (.region false [⟨some 2, none, .box 1 (.s 0)⟩,
    ⟨some 4, none, .alloc [.t (.int .i64 0), .t (.str []), .nils, .nils, .nils, .nils, .nils]⟩,
    ⟨some 5, none, .cst (.t (.bool false))⟩] [] [1, 2, 4]) c45_11)
def r45 : List ARes := [.cell 4 true 7, .tmp 5]
def n45 : Nat := 22
/- 46 supergraph moves.isKey -/
def c46_0 : ACode :=
  (.seq (.region false [⟨some 5, none, .ld true 7 (.s 2)⟩,
    ⟨some 6, none, .call 19 [(.s 5)]⟩,
    ⟨some 7, none, .mkfn 71 [(.s 3)]⟩,
    ⟨some 8, none, .call 70 [(.s 6), (.s 7)]⟩,
    ⟨some 4, none, .mv (.s 8)⟩] [] [4]) .ret)
def c46 : ACode :=
  (.seq (.region false [⟨some 2, none, .box 7 (.s 0)⟩,
    ⟨some 3, none, .box 1 (.s 1)⟩,
    ⟨some 4, none, .cst (.t (.bool false))⟩] [] [2, 3]) c46_0)
def r46 : List ARes := [.tmp 4]
def n46 : Nat := 9
/- 47 supergraph directives.Arg -/
def c47_0 : ACode :=
  (.seq (.region false [⟨some 26, none, .build [.t (.int .i64 0), .t (.int .i64 0), .t (.str []), .nils, .nils] []⟩,
    ⟨none, none, .st 5 (.s 6) (.s 26)⟩,
    ⟨some 7, none, .cst (.t (.bool false))⟩] [] [6, 7]) .ret)
def c47_1 : ACode :=
  (.region false [⟨some 25, none, .bin .add (.s 12) (.c (.t (.int .i64 1)))⟩,
    ⟨some 12, none, .mv (.s 25)⟩] [] [1, 2, 6, 10, 11, 12])
def c47_2 : ACode :=
  (.seq (.region false [⟨some 20, none, .ld true 2 (.s 9)⟩,
    ⟨some 21, none, .mv (.s 2)⟩,
    ⟨some 22, none, .call 72 [(.s 20), (.s 21)]⟩,
    ⟨some 23, none, .ext (.s 22) 0⟩,
    ⟨some 24, none, .ext (.s 22) 1⟩,
    ⟨none, none, .st 5 (.s 6) (.s 23)⟩,
    ⟨some 7, none, .mv (.s 24)⟩] [] [6, 7]) .ret)
def c47_3 : ACode :=
  (.cond (.s 19) c47_2 .skip)
def c47_4 : ACode :=
  (.seq (.region false [⟨some 16, none, .fa 0 (.s 9)⟩,
    ⟨some 17, none, .ld false 1 (.s 16)⟩,
    ⟨some 18, none, .mv (.s 1)⟩,
    ⟨some 19, none, .bin .eql (.s 17) (.s 18)⟩] [] [1, 2, 6, 9, 10, 11, 12, 19]) c47_3)
def c47_5 : ACode :=
  (.seq (.region false [⟨some 14, none, .ia 2 (.s 10) (.s 12)⟩,
    ⟨some 15, none, .ld true 2 (.s 14)⟩,
    ⟨some 9, none, .alloc [.t (.str []), .nils]⟩,
    ⟨none, none, .st 2 (.s 9) (.s 15)⟩] [] [1, 2, 6, 9, 10, 11, 12]) c47_4)
def c47_6 : ACode :=
  (.seq (.block 1 c47_5) c47_1)
def c47_7 : ACode :=
  (.seq (.cond (.s 13) .skip (.exit 0)) c47_6)
def c47_8 : ACode :=
  (.seq (.region false [⟨some 13, none, .bin .lss (.s 12) (.s 11)⟩] [] [1, 2, 6, 10, 11, 12, 13]) c47_7)
def c47_9 : ACode :=
  (.loop c47_8)
def c47_10 : ACode :=
  (.block 0 c47_9)
def c47_11 : ACode :=
  (.seq (.seq (.region false [⟨some 10, none, .mv (.s 0)⟩,
    ⟨some 11, none, .len (.s 10)⟩,
    ⟨some 12, none, .cst (.t (.int .i64 0))⟩] [] [1, 2, 6, 10, 11, 12]) c47_10) c47_0)
def c47 : ACode :=
  (.seq (.region false [⟨some 6, none, .alloc [.t (.int .i64 0), .t (.int .i64 0), .t (.str []), .nils, .nils]⟩,
    ⟨some 7, none, .cst (.t (.bool false))⟩] [] [0, 1, 2, 6]) c47_11)
def r47 : List ARes := [.cell 6 true 5, .tmp 7]
def n47 : Nat := 27
/- 48 supergraph directives.Set -/
def c48_0 : ACode :=
  (.seq (.region false [⟨some 48, none, .mv (.s 4)⟩,
    ⟨some 2, none, .mv (.s 48)⟩,
    ⟨some 3, none, .cst (.t (.int .i64 0))⟩] [] [2, 3]) .ret)
def c48_1 : ACode :=
  (.region false [⟨some 47, none, .bin .add (.s 30) (.c (.t (.int .i64 1)))⟩,
    ⟨some 30, none, .mv (.s 47)⟩] [] [4, 29, 30])
def c48_2 : ACode :=
  (.region false [⟨some 46, none, .bin .add (.s 34) (.c (.t (.int .i64 1)))⟩,
    ⟨some 34, none, .mv (.s 46)⟩] [] [4, 7, 29, 30, 33, 34])
def c48_3 : ACode :=
  (.seq (.region false [⟨some 2, none, .cst (.nils)⟩,
    ⟨some 3, none, .cst (.t (.int .i64 7))⟩] [] [2, 3]) .ret)
def c48_4 : ACode :=
  (.cond (.s 45) c48_3 .skip)
def c48_5 : ACode :=
  (.seq (.region true [⟨some 37, none, .mv (.s 4)⟩,
    ⟨some 38, none, .mv (.s 7)⟩,
    ⟨some 39, none, .ia 1 (.s 37) (.s 38)⟩,
    ⟨some 40, none, .ld false 1 (.s 39)⟩,
    ⟨some 41, none, .mv (.s 4)⟩,
    ⟨some 42, none, .mv (.s 8)⟩,
    ⟨some 43, none, .ia 1 (.s 41) (.s 42)⟩,
    ⟨some 44, none, .ld false 1 (.s 43)⟩,
    ⟨some 45, none, .bin .eql (.s 40) (.s 44)⟩] [[], [], [0, 1], [2], [], [], [4, 5], [6], [3, 7]] [4, 7, 29, 30, 33, 34, 45]) c48_4)
def c48_6 : ACode :=
  (.seq (.region false [⟨some 36, none, .mv (.s 34)⟩,
    ⟨some 8, none, .mv (.s 36)⟩] [] [4, 7, 8, 29, 30, 33, 34]) c48_5)
def c48_7 : ACode :=
  (.seq (.block 5 c48_6) c48_2)
def c48_8 : ACode :=
  (.seq (.cond (.s 35) .skip (.exit 4)) c48_7)
def c48_9 : ACode :=
  (.seq (.region false [⟨some 35, none, .bin .lss (.s 34) (.s 33)⟩] [] [4, 7, 29, 30, 33, 34, 35]) c48_8)
def c48_10 : ACode :=
  (.loop c48_9)
def c48_11 : ACode :=
  (.block 4 c48_10)
def c48_12 : ACode :=
  (.seq (.region false [⟨some 33, none, .mv (.s 7)⟩,
    ⟨some 34, none, .cst (.t (.int .i64 0))⟩] [] [4, 7, 29, 30, 33, 34]) c48_11)
def c48_13 : ACode :=
  (.seq (.region false [⟨some 32, none, .mv (.s 30)⟩,
    ⟨some 7, none, .mv (.s 32)⟩] [] [4, 7, 29, 30]) c48_12)
def c48_14 : ACode :=
  (.seq (.block 3 c48_13) c48_1)
def c48_15 : ACode :=
  (.seq (.cond (.s 31) .skip (.exit 2)) c48_14)
def c48_16 : ACode :=
  (.seq (.region false [⟨some 31, none, .bin .lss (.s 30) (.s 29)⟩] [] [4, 29, 30, 31]) c48_15)
def c48_17 : ACode :=
  (.loop c48_16)
def c48_18 : ACode :=
  (.block 2 c48_17)
def c48_19 : ACode :=
  (.seq (.seq (.region false [⟨some 28, none, .mv (.s 4)⟩,
    ⟨some 29, none, .len (.s 28)⟩,
    ⟨some 30, none, .cst (.t (.int .i64 0))⟩] [] [4, 29, 30]) c48_18) c48_0)
def c48_20 : ACode :=
  (.seq (.region false [⟨some 2, none, .cst (.nils)⟩,
    ⟨some 3, none, .cst (.t (.int .i64 4))⟩] [] [2, 3]) .ret)
def c48_21 : ACode :=
  (.cond (.s 27) c48_20 .skip)
def c48_22 : ACode :=
  (.seq (.seq (.region false [⟨some 25, none, .mv (.s 4)⟩,
    ⟨some 26, none, .len (.s 25)⟩,
    ⟨some 27, none, .bin .gtr (.s 26) (.c (.t (.int .i64 4)))⟩] [] [4, 27]) c48_21) c48_19)
def c48_23 : ACode :=
  (.region false [⟨some 24, none, .bin .add (.s 13) (.c (.t (.int .i64 1)))⟩,
    ⟨some 13, none, .mv (.s 24)⟩] [] [4, 11, 12, 13])
def c48_24 : ACode :=
  (.seq (.region false [⟨some 2, none, .cst (.nils)⟩,
    ⟨some 3, none, .cst (.t (.int .i64 3))⟩] [] [2, 3]) .ret)
def c48_25 : ACode :=
  (.cond (.s 23) c48_24 .skip)
def c48_26 : ACode :=
  (.seq (.region false [⟨some 17, none, .mv (.s 6)⟩,
    ⟨some 18, none, .call 74 [(.s 17)]⟩,
    ⟨some 19, none, .un .not (.s 18)⟩,
    ⟨some 20, none, .mv (.s 19)⟩,
    ⟨some 21, some (20, false), .mv (.s 6)⟩,
    ⟨some 22, some (20, false), .call 75 [(.s 21)]⟩,
    ⟨some 23, none, .pick (.s 20) (.c (.t (.bool true))) (.s 22)⟩] [] [4, 11, 12, 13, 23]) c48_25)
def c48_27 : ACode :=
  (.seq (.region false [⟨some 15, none, .ia 1 (.s 11) (.s 13)⟩,
    ⟨some 16, none, .ld false 1 (.s 15)⟩,
    ⟨some 6, none, .mv (.s 16)⟩] [] [4, 6, 11, 12, 13]) c48_26)
def c48_28 : ACode :=
  (.seq (.block 1 c48_27) c48_23)
def c48_29 : ACode :=
  (.seq (.cond (.s 14) .skip (.exit 0)) c48_28)
def c48_30 : ACode :=
  (.seq (.region false [⟨some 14, none, .bin .lss (.s 13) (.s 12)⟩] [] [4, 11, 12, 13, 14]) c48_29)
def c48_31 : ACode :=
  (.loop c48_30)
def c48_32 : ACode :=
  (.block 0 c48_31)
def c48_33 : ACode :=
  (.seq (.seq (.region false [⟨some 11, none, .mv (.s 4)⟩,
    ⟨some 12, none, .len (.s 11)⟩,
    ⟨some 13, none, .cst (.t (.int .i64 0))⟩] [] [4, 11, 12, 13]) c48_32) c48_22)
def c48_34 : ACode :=
  (.seq (.region false [⟨some 9, none, .mv (.s 0)⟩,
    ⟨some 10, none, .call 73 [(.s 9), (.c (.t (.str [32])))]⟩,
    ⟨some 4, none, .mv (.s 10)⟩] [] [4]) c48_33)
def c48 : ACode :=
  (.seq (.region false [⟨some 2, none, .cst (.nils)⟩,
    ⟨some 3, none, .cst (.t (.int .i64 0))⟩] [] [0]) c48_34)
def r48 : List ARes := [.tmp 2, .tmp 3]
def n48 : Nat := 49
/- 49 supergraph supergraphref25.keyRight -/
def c49_0 : ACode :=
  (.seq (.region false [⟨some 6, none, .cst (.t (.bool true))⟩] [] [6]) .ret)
def c49_1 : ACode :=
  (.region false [⟨some 22, none, .mv (.s 7)⟩,
    ⟨some 23, none, .bin .add (.s 22) (.c (.t (.int .i64 1)))⟩,
    ⟨some 7, none, .mv (.s 23)⟩] [] [2, 3, 4, 7])
def c49_2 : ACode :=
  (.seq (.region false [⟨some 6, none, .cst (.t (.bool false))⟩] [] [6]) .ret)
def c49_3 : ACode :=
  (.cond (.s 63) c49_2 .skip)
def c49_4 : ACode :=
  (.seq (.region false [⟨some 33, none, .mv (.s 9)⟩,
    ⟨some 34, none, .un .not (.s 33)⟩,
    ⟨some 35, none, .mv (.s 34)⟩,
    ⟨some 36, some (35, false), .fa 1 (.s 8)⟩,
    ⟨some 37, some (35, false), .ld false 1 (.s 36)⟩,
    ⟨some 38, some (35, false), .len (.s 37)⟩,
    ⟨some 39, some (35, false), .bin .gtr (.s 38) (.c (.t (.int .i64 0)))⟩,
    ⟨some 40, none, .pick (.s 35) (.c (.t (.bool true))) (.s 39)⟩,
    ⟨some 41, none, .mv (.s 40)⟩,
    ⟨some 42, some (41, false), .fa 2 (.s 8)⟩,
    ⟨some 43, some (41, false), .fa 1 (.s 42)⟩,
    ⟨some 44, some (41, false), .ld false 1 (.s 43)⟩,
    ⟨some 45, some (41, false), .len (.s 44)⟩,
    ⟨some 46, some (41, false), .bin .neq (.s 45) (.c (.t (.int .i64 1)))⟩,
    ⟨some 47, none, .pick (.s 41) (.c (.t (.bool true))) (.s 46)⟩,
    ⟨some 48, none, .mv (.s 47)⟩,
    ⟨some 49, some (48, false), .fa 2 (.s 8)⟩,
    ⟨some 50, some (48, false), .fa 1 (.s 49)⟩,
    ⟨some 51, some (48, false), .ld false 1 (.s 50)⟩,
    ⟨some 52, some (48, false), .ia 1 (.s 51) (.c (.t (.int .i64 0)))⟩,
    ⟨some 53, some (48, false), .ld false 1 (.s 52)⟩,
    ⟨some 54, some (48, false), .bin .neq (.s 53) (.c (.t (.int .i64 1)))⟩,
    ⟨some 55, none, .pick (.s 48) (.c (.t (.bool true))) (.s 54)⟩,
    ⟨some 56, none, .mv (.s 55)⟩,
    ⟨some 57, some (56, false), .ld true 1 (.s 3)⟩,
    ⟨some 58, some (56, false), .fa 2 (.s 8)⟩,
    ⟨some 59, some (56, false), .fa 0 (.s 58)⟩,
    ⟨some 60, some (56, false), .ld false 1 (.s 59)⟩,
    ⟨some 61, some (56, false), .call 77 [(.s 57), (.s 60)]⟩,
    ⟨some 62, some (56, false), .un .not (.s 61)⟩,
    ⟨some 63, none, .pick (.s 56) (.c (.t (.bool true))) (.s 62)⟩] [] [2, 3, 4, 7, 63]) c49_3)
def c49_5 : ACode :=
  (.seq (.region true [⟨some 25, none, .ld true 7 (.s 4)⟩,
    ⟨some 26, none, .mv (.s 2)⟩,
    ⟨some 27, none, .mv (.s 7)⟩,
    ⟨some 28, none, .ia 1 (.s 26) (.s 27)⟩,
    ⟨some 29, none, .ld false 1 (.s 28)⟩,
    ⟨some 30, none, .call 58 [(.s 25), (.s 29)]⟩,
    ⟨some 24, none, .mv (.s 30)⟩,
    ⟨some 31, none, .ext (.s 24) 0⟩,
    ⟨some 32, none, .ext (.s 24) 1⟩,
    ⟨some 8, none, .alloc [.t (.str []), .nils, .t (.str []), .nils, .nils]⟩,
    ⟨none, none, .st 5 (.s 8) (.s 31)⟩,
    ⟨some 9, none, .mv (.s 32)⟩] [[], [], [], [1, 2], [3], [0, 4], [5], [6], [6], [], [9, 7, 5, 0, 1, 2, 3, 4, 5, 6, 7, 9], [8, 10, 0, 1, 2, 3, 4, 5, 6, 7, 8, 9, 10]] [2, 3, 4, 7, 8, 9]) c49_4)
def c49_6 : ACode :=
  (.seq (.block 1 c49_5) c49_1)
def c49_7 : ACode :=
  (.cond (.s 21) .skip (.exit 0))
def c49_8 : ACode :=
  (.seq (.seq (.region false [⟨some 18, none, .mv (.s 7)⟩,
    ⟨some 19, none, .mv (.s 2)⟩,
    ⟨some 20, none, .len (.s 19)⟩,
    ⟨some 21, none, .bin .lss (.s 18) (.s 20)⟩] [] [2, 3, 4, 7, 21]) c49_7) c49_6)
def c49_9 : ACode :=
  (.loop c49_8)
def c49_10 : ACode :=
  (.block 0 c49_9)
def c49_11 : ACode :=
  (.seq (.seq (.region false [⟨some 7, none, .cst (.t (.int .i64 0))⟩] [] [2, 3, 4, 7]) c49_10) c49_0)
def c49_12 : ACode :=
  (.seq (.region false [⟨some 6, none, .cst (.t (.bool false))⟩] [] [6]) .ret)
def c49_13 : ACode :=
  (.cond (.s 17) c49_12 .skip)
def c49_14 : ACode :=
  (.seq (.seq (.region false [⟨some 10, none, .fa 1 (.s 4)⟩,
    ⟨some 11, none, .ld false 1 (.s 10)⟩,
    ⟨some 12, none, .call 76 [(.s 11)]⟩,
    ⟨some 13, none, .mv (.s 12)⟩,
    ⟨some 14, some (13, false), .mv (.s 2)⟩,
    ⟨some 15, some (13, false), .len (.s 14)⟩,
    ⟨some 16, some (13, false), .bin .eql (.s 15) (.c (.t (.int .i64 0)))⟩,
    ⟨some 17, none, .pick (.s 13) (.c (.t (.bool true))) (.s 16)⟩] [] [2, 3, 4, 17]) c49_13) c49_11)
def c49 : ACode :=
  (.seq (.region false [⟨some 3, none, .box 1 (.s 0)⟩,
    ⟨some 4, none, .box 7 (.s 1)⟩,
    ⟨some 6, none, .cst (.t (.bool false))⟩] [] [2, 3, 4]) c49_14)
def r49 : List ARes := [.tmp 6]
def n49 : Nat := 64

end Go.GB.C11

