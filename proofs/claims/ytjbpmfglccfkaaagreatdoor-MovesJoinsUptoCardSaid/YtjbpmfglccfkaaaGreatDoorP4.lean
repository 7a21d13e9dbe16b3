/-
  YtjbpmfglccfkaaaGreatDoorP4: lemmas of this proof (part 4). No conditions.
-/
import Derived.Test.YtjbpmfglccfkaaaGreatDoorP3
import Derived.Test.YtjbpmfglccfkaaaGreatDoorP2

/-
  ZF23Code: the code of some functions as abstract code (printed by program).
-/

namespace Go.GB.C11
open Go.GB
/- 50 supergraph supergraphref25.fieldFaults -/
def c50_0 : ACode :=
  (.seq (.region false [⟨some 119, none, .mv (.s 10)⟩,
    ⟨some 8, none, .mv (.s 119)⟩] [] [8]) .ret)
def c50_1 : ACode :=
  (.region false [⟨some 116, none, .mv (.s 10)⟩,
    ⟨some 117, none, .bsl false 1 [[.int .i64 0]] [(0, (.c (.t (.int .i64 40))))]⟩,
    ⟨some 118, none, .app 1 8 (.s 116) (.s 117)⟩,
    ⟨some 10, none, .mv (.s 118)⟩] [] [10])
def c50_2 : ACode :=
  (.cond (.s 115) c50_1 .skip)
def c50_3 : ACode :=
  (.seq (.seq (.region false [⟨some 89, none, .mv (.s 11)⟩,
    ⟨some 90, none, .un .not (.s 89)⟩,
    ⟨some 91, none, .mv (.s 90)⟩,
    ⟨some 92, some (91, true), .mv (.s 0)⟩,
    ⟨some 93, some (91, true), .mv (.s 1)⟩,
    ⟨some 94, some (91, true), .fa 1 (.s 6)⟩,
    ⟨some 95, some (91, true), .ld false 1 (.s 94)⟩,
    ⟨some 96, some (91, true), .fa 0 (.s 7)⟩,
    ⟨some 97, some (91, true), .ld false 1 (.s 96)⟩,
    ⟨some 98, some (91, true), .call 79 [(.s 92), (.s 93), (.s 95), (.s 97)]⟩,
    ⟨some 99, none, .pick (.s 91) (.s 98) (.c (.t (.bool false)))⟩,
    ⟨some 100, none, .mv (.s 99)⟩,
    ⟨some 101, some (100, true), .mv (.s 12)⟩,
    ⟨some 102, some (100, true), .mv (.s 101)⟩,
    ⟨some 103, some (102, false), .fa 4 (.s 7)⟩,
    ⟨some 104, some (102, false), .ld false 1 (.s 103)⟩,
    ⟨some 105, some (102, false), .call 25 [(.s 104), (.c (.t (.str [115, 104, 97, 114, 101, 97, 98, 108, 101])))]⟩,
    ⟨some 106, some (102, false), .un .not (.s 105)⟩,
    ⟨some 107, some (102, false), .mv (.s 106)⟩,
    ⟨some 108, some (107, true), .ld true 7 (.s 6)⟩,
    ⟨some 109, some (107, true), .fa 0 (.s 7)⟩,
    ⟨some 110, some (107, true), .ld false 1 (.s 109)⟩,
    ⟨some 111, some (107, true), .call 83 [(.s 108), (.s 110)]⟩,
    ⟨some 112, some (107, true), .un .not (.s 111)⟩,
    ⟨some 113, some (102, false), .pick (.s 107) (.s 112) (.c (.t (.bool false)))⟩,
    ⟨some 114, some (100, true), .pick (.s 102) (.c (.t (.bool true))) (.s 113)⟩,
    ⟨some 115, none, .pick (.s 100) (.s 114) (.c (.t (.bool false)))⟩] [] [10, 115]) c50_2) c50_0)
def c50_4 : ACode :=
  (.region false [⟨some 86, none, .mv (.s 10)⟩,
    ⟨some 87, none, .bsl false 1 [[.int .i64 0]] [(0, (.c (.t (.int .i64 44))))]⟩,
    ⟨some 88, none, .app 1 8 (.s 86) (.s 87)⟩,
    ⟨some 10, none, .mv (.s 88)⟩] [] [0, 1, 6, 7, 10, 11, 12])
def c50_5 : ACode :=
  (.cond (.s 85) c50_4 .skip)
def c50_6 : ACode :=
  (.seq (.seq (.region false [⟨some 77, none, .fa 4 (.s 7)⟩,
    ⟨some 78, none, .ld false 1 (.s 77)⟩,
    ⟨some 79, none, .call 25 [(.s 78), (.c (.t (.str [112, 114, 111, 118, 105, 100, 101, 115])))]⟩,
    ⟨some 80, none, .mv (.s 79)⟩,
    ⟨some 81, some (80, true), .ld true 1 (.s 9)⟩,
    ⟨some 82, some (80, true), .ld true 5 (.s 7)⟩,
    ⟨some 83, some (80, true), .call 82 [(.s 81), (.s 82)]⟩,
    ⟨some 84, some (80, true), .un .not (.s 83)⟩,
    ⟨some 85, none, .pick (.s 80) (.s 84) (.c (.t (.bool false)))⟩] [] [0, 1, 6, 7, 10, 11, 12, 85]) c50_5) c50_3)
def c50_7 : ACode :=
  (.region false [⟨some 74, none, .mv (.s 10)⟩,
    ⟨some 75, none, .bsl false 1 [[.int .i64 0]] [(0, (.c (.t (.int .i64 43))))]⟩,
    ⟨some 76, none, .app 1 8 (.s 74) (.s 75)⟩,
    ⟨some 10, none, .mv (.s 76)⟩] [] [0, 1, 6, 7, 9, 10, 11, 12])
def c50_8 : ACode :=
  (.cond (.s 73) c50_7 .skip)
def c50_9 : ACode :=
  (.seq (.seq (.region true [⟨some 46, none, .mv (.s 12)⟩,
    ⟨some 47, none, .mv (.s 46)⟩,
    ⟨some 48, some (47, true), .mv (.s 11)⟩,
    ⟨some 49, some (47, true), .mv (.s 48)⟩,
    ⟨some 50, some (49, false), .ld true 1 (.s 9)⟩,
    ⟨some 51, some (49, false), .ld true 7 (.s 6)⟩,
    ⟨some 52, some (49, false), .fa 4 (.s 7)⟩,
    ⟨some 53, some (49, false), .ld false 1 (.s 52)⟩,
    ⟨some 54, some (49, false), .call 26 [(.s 53), (.c (.t (.str [114, 101, 113, 117, 105, 114, 101, 115])))]⟩,
    ⟨some 55, some (49, false), .call 80 [(.s 50), (.s 51), (.s 54)]⟩,
    ⟨some 56, some (49, false), .un .not (.s 55)⟩,
    ⟨some 57, some (47, true), .pick (.s 49) (.c (.t (.bool true))) (.s 56)⟩,
    ⟨some 58, some (47, true), .mv (.s 57)⟩,
    ⟨some 59, some (58, false), .fa 3 (.s 6)⟩,
    ⟨some 60, some (58, false), .ld false 1 (.s 59)⟩,
    ⟨some 61, some (58, false), .call 24 [(.s 60), (.c (.t (.str [107, 101, 121])))]⟩,
    ⟨some 62, some (58, false), .len (.s 61)⟩,
    ⟨some 63, some (58, false), .bin .eql (.s 62) (.c (.t (.int .i64 0)))⟩,
    ⟨some 64, some (47, true), .pick (.s 58) (.c (.t (.bool true))) (.s 63)⟩,
    ⟨some 65, some (47, true), .mv (.s 64)⟩,
    ⟨some 66, some (65, false), .mv (.s 0)⟩,
    ⟨some 67, some (65, false), .fa 1 (.s 6)⟩,
    ⟨some 68, some (65, false), .ld false 1 (.s 67)⟩,
    ⟨some 69, some (65, false), .fa 0 (.s 7)⟩,
    ⟨some 70, some (65, false), .ld false 1 (.s 69)⟩,
    ⟨some 71, some (65, false), .call 81 [(.s 66), (.s 68), (.s 70)]⟩,
    ⟨some 72, some (47, true), .pick (.s 65) (.c (.t (.bool true))) (.s 71)⟩,
    ⟨some 73, none, .pick (.s 47) (.s 72) (.c (.t (.bool false)))⟩] [[], [0], [1], [2, 1, 1], [3], [3], [3], [6, 3], [7, 3, 3], [4, 5, 8, 8, 3], [9, 3], [3, 10, 1], [11, 9, 1], [12], [13, 12], [14, 12, 12], [15, 12], [16, 12], [12, 17, 1], [18, 15, 1], [19], [19], [21, 19], [19], [23, 19], [20, 22, 24, 19, 19], [19, 25, 1], [1, 26]] [0, 1, 6, 7, 9, 10, 11, 12, 73]) c50_8) c50_6)
def c50_10 : ACode :=
  (.region false [⟨some 43, none, .mv (.s 10)⟩,
    ⟨some 44, none, .bsl false 1 [[.int .i64 0]] [(0, (.c (.t (.int .i64 42))))]⟩,
    ⟨some 45, none, .app 1 8 (.s 43) (.s 44)⟩,
    ⟨some 10, none, .mv (.s 45)⟩] [] [0, 1, 6, 7, 9, 10, 11, 12])
def c50_11 : ACode :=
  (.cond (.s 42) c50_10 .skip)
def c50_12 : ACode :=
  (.seq (.seq (.region false [⟨some 24, none, .mv (.s 11)⟩,
    ⟨some 25, none, .mv (.s 24)⟩,
    ⟨some 26, some (25, true), .ld true 1 (.s 9)⟩,
    ⟨some 27, some (25, true), .ld true 7 (.s 6)⟩,
    ⟨some 28, some (25, true), .fa 0 (.s 7)⟩,
    ⟨some 29, some (25, true), .ld false 1 (.s 28)⟩,
    ⟨some 30, some (25, true), .call 78 [(.s 26), (.s 27), (.s 29)]⟩,
    ⟨some 31, some (25, true), .un .not (.s 30)⟩,
    ⟨some 32, some (25, true), .mv (.s 31)⟩,
    ⟨some 33, some (32, false), .mv (.s 0)⟩,
    ⟨some 34, some (32, false), .mv (.s 1)⟩,
    ⟨some 35, some (32, false), .fa 1 (.s 6)⟩,
    ⟨some 36, some (32, false), .ld false 1 (.s 35)⟩,
    ⟨some 37, some (32, false), .fa 0 (.s 7)⟩,
    ⟨some 38, some (32, false), .ld false 1 (.s 37)⟩,
    ⟨some 39, some (32, false), .call 79 [(.s 33), (.s 34), (.s 36), (.s 38)]⟩,
    ⟨some 40, some (32, false), .un .not (.s 39)⟩,
    ⟨some 41, some (25, true), .pick (.s 32) (.c (.t (.bool true))) (.s 40)⟩,
    ⟨some 42, none, .pick (.s 25) (.s 41) (.c (.t (.bool false)))⟩] [] [0, 1, 6, 7, 9, 10, 11, 12, 42]) c50_11) c50_9)
def c50_13 : ACode :=
  (.seq (.region false [⟨some 21, none, .fa 4 (.s 7)⟩,
    ⟨some 22, none, .ld false 1 (.s 21)⟩,
    ⟨some 23, none, .call 25 [(.s 22), (.c (.t (.str [114, 101, 113, 117, 105, 114, 101, 115])))]⟩,
    ⟨some 12, none, .mv (.s 23)⟩] [] [0, 1, 6, 7, 9, 10, 11, 12]) c50_12)
def c50_14 : ACode :=
  (.seq (.region false [⟨some 18, none, .fa 4 (.s 7)⟩,
    ⟨some 19, none, .ld false 1 (.s 18)⟩,
    ⟨some 20, none, .call 25 [(.s 19), (.c (.t (.str [101, 120, 116, 101, 114, 110, 97, 108])))]⟩,
    ⟨some 11, none, .mv (.s 20)⟩] [] [0, 1, 6, 7, 9, 10, 11]) c50_13)
def c50_15 : ACode :=
  (.seq (.region false [⟨some 10, none, .cst (.nils)⟩] [] [0, 1, 6, 7, 9, 10]) c50_14)
def c50_16 : ACode :=
  (.seq (.region false [⟨some 13, none, .mv (.s 0)⟩,
    ⟨some 14, none, .mv (.s 1)⟩,
    ⟨some 15, none, .ia 2 (.s 13) (.s 14)⟩,
    ⟨some 16, none, .fa 1 (.s 15)⟩,
    ⟨some 17, none, .ld true 1 (.s 16)⟩,
    ⟨some 9, none, .alloc [.nils]⟩,
    ⟨none, none, .st 1 (.s 9) (.s 17)⟩] [] [0, 1, 6, 7, 9]) c50_15)
def c50 : ACode :=
  (.seq (.region false [⟨some 6, none, .box 7 (.s 2)⟩,
    ⟨some 7, none, .box 5 (.s 3)⟩,
    ⟨some 8, none, .cst (.nils)⟩] [] [0, 1, 6, 7]) c50_16)
def r50 : List ARes := [.tmp 8]
def n50 : Nat := 120
/- 51 supergraph supergraphref23.All -/
def c51_0 : ACode :=
  (.seq (.region false [⟨some 40, none, .mv (.s 7)⟩,
    ⟨some 6, none, .mv (.s 40)⟩] [] [6]) .ret)
def c51_1 : ACode :=
  (.region false [⟨some 15, none, .mv (.s 8)⟩,
    ⟨some 16, none, .bin .add (.s 15) (.c (.t (.int .i64 1)))⟩,
    ⟨some 8, none, .mv (.s 16)⟩] [] [0, 1, 2, 7, 8])
def c51_2 : ACode :=
  (.region false [⟨some 36, none, .mv (.s 7)⟩,
    ⟨some 37, none, .ld true 5 (.s 9)⟩,
    ⟨some 38, none, .bsl false 5 [[.int .i64 0, .int .i64 0, .str [], .lst [], .lst []]] [(0, (.s 37))]⟩,
    ⟨some 39, none, .app 5 80 (.s 36) (.s 38)⟩,
    ⟨some 7, none, .mv (.s 39)⟩] [] [0, 1, 2, 7, 8])
def c51_3 : ACode :=
  (.cond (.s 35) c51_2 .skip)
def c51_4 : ACode :=
  (.seq (.region false [⟨some 26, none, .mv (.s 0)⟩,
    ⟨some 27, none, .mv (.s 8)⟩,
    ⟨some 28, none, .ia 2 (.s 26) (.s 27)⟩,
    ⟨some 29, none, .fa 0 (.s 28)⟩,
    ⟨some 30, none, .ld false 1 (.s 29)⟩,
    ⟨some 31, none, .mv (.s 1)⟩,
    ⟨some 32, none, .bin .eql (.s 30) (.s 31)⟩,
    ⟨some 33, none, .mv (.s 32)⟩,
    ⟨some 34, some (33, true), .mv (.s 10)⟩,
    ⟨some 35, none, .pick (.s 33) (.s 34) (.c (.t (.bool false)))⟩] [] [0, 1, 2, 7, 8, 9, 35]) c51_3)
def c51_5 : ACode :=
  (.seq (.region false [⟨some 18, none, .mv (.s 0)⟩,
    ⟨some 19, none, .mv (.s 8)⟩,
    ⟨some 20, none, .ia 2 (.s 18) (.s 19)⟩,
    ⟨some 21, none, .ld true 2 (.s 20)⟩,
    ⟨some 22, none, .mv (.s 2)⟩,
    ⟨some 23, none, .call 84 [(.s 21), (.s 22)]⟩,
    ⟨some 17, none, .mv (.s 23)⟩,
    ⟨some 24, none, .ext (.s 17) 0⟩,
    ⟨some 25, none, .ext (.s 17) 1⟩,
    ⟨some 9, none, .alloc [.t (.int .i64 0), .t (.int .i64 0), .t (.str []), .nils, .nils]⟩,
    ⟨none, none, .st 5 (.s 9) (.s 24)⟩,
    ⟨some 10, none, .mv (.s 25)⟩] [] [0, 1, 2, 7, 8, 9, 10]) c51_4)
def c51_6 : ACode :=
  (.seq (.block 1 c51_5) c51_1)
def c51_7 : ACode :=
  (.cond (.s 14) .skip (.exit 0))
def c51_8 : ACode :=
  (.seq (.seq (.region false [⟨some 11, none, .mv (.s 8)⟩,
    ⟨some 12, none, .mv (.s 0)⟩,
    ⟨some 13, none, .len (.s 12)⟩,
    ⟨some 14, none, .bin .lss (.s 11) (.s 13)⟩] [] [0, 1, 2, 7, 8, 14]) c51_7) c51_6)
def c51_9 : ACode :=
  (.loop c51_8)
def c51_10 : ACode :=
  (.block 0 c51_9)
def c51_11 : ACode :=
  (.seq (.seq (.region false [⟨some 8, none, .cst (.t (.int .i64 0))⟩] [] [0, 1, 2, 7, 8]) c51_10) c51_0)
def c51_12 : ACode :=
  (.seq (.region false [⟨some 7, none, .cst (.nils)⟩] [] [0, 1, 2, 7]) c51_11)
def c51 : ACode :=
  (.seq (.region false [⟨some 6, none, .cst (.nils)⟩] [] [0, 1, 2]) c51_12)
def r51 : List ARes := [.tmp 6]
def n51 : Nat := 41
/- 52 supergraph supergraphref25.set -/
def c52_0 : ACode :=
  (.seq (.region false [⟨some 13, none, .mv (.s 3)⟩,
    ⟨some 2, none, .mv (.s 13)⟩] [] [2]) .ret)
def c52_1 : ACode :=
  (.seq (.region false [⟨some 2, none, .cst (.nils)⟩] [] [2]) .ret)
def c52_2 : ACode :=
  (.cond (.s 12) c52_1 .skip)
def c52_3 : ACode :=
  (.seq (.seq (.region false [⟨some 11, none, .mv (.s 4)⟩,
    ⟨some 12, none, .bin .neq (.s 11) (.c (.t (.int .i64 0)))⟩] [] [3, 12]) c52_2) c52_0)
def c52_4 : ACode :=
  (.seq (.region false [⟨some 6, none, .fa 2 (.s 1)⟩,
    ⟨some 7, none, .ld false 1 (.s 6)⟩,
    ⟨some 8, none, .call 85 [(.s 7)]⟩,
    ⟨some 5, none, .mv (.s 8)⟩,
    ⟨some 9, none, .ext (.s 5) 0⟩,
    ⟨some 10, none, .ext (.s 5) 1⟩,
    ⟨some 3, none, .mv (.s 9)⟩,
    ⟨some 4, none, .mv (.s 10)⟩] [] [3, 4]) c52_3)
def c52 : ACode :=
  (.seq (.region false [⟨some 1, none, .box 5 (.s 0)⟩,
    ⟨some 2, none, .cst (.nils)⟩] [] [1]) c52_4)
def r52 : List ARes := [.tmp 2]
def n52 : Nat := 14
/- 53 supergraph supergraphref23.Arg -/
def c53_0 : ACode :=
  (.seq (.region false [⟨some 30, none, .build [.t (.int .i64 0), .t (.int .i64 0), .t (.str []), .nils, .nils] []⟩,
    ⟨none, none, .st 5 (.s 6) (.s 30)⟩,
    ⟨some 7, none, .cst (.t (.bool false))⟩] [] [6, 7]) .ret)
def c53_1 : ACode :=
  (.region false [⟨some 13, none, .mv (.s 8)⟩,
    ⟨some 14, none, .bin .add (.s 13) (.c (.t (.int .i64 1)))⟩,
    ⟨some 8, none, .mv (.s 14)⟩] [] [0, 1, 2, 6, 8])
def c53_2 : ACode :=
  (.seq (.region false [⟨some 22, none, .mv (.s 0)⟩,
    ⟨some 23, none, .mv (.s 8)⟩,
    ⟨some 24, none, .ia 2 (.s 22) (.s 23)⟩,
    ⟨some 25, none, .ld true 2 (.s 24)⟩,
    ⟨some 26, none, .mv (.s 2)⟩,
    ⟨some 27, none, .call 84 [(.s 25), (.s 26)]⟩,
    ⟨some 28, none, .ext (.s 27) 0⟩,
    ⟨some 29, none, .ext (.s 27) 1⟩,
    ⟨none, none, .st 5 (.s 6) (.s 28)⟩,
    ⟨some 7, none, .mv (.s 29)⟩] [] [6, 7]) .ret)
def c53_3 : ACode :=
  (.cond (.s 21) c53_2 .skip)
def c53_4 : ACode :=
  (.seq (.region false [⟨some 15, none, .mv (.s 0)⟩,
    ⟨some 16, none, .mv (.s 8)⟩,
    ⟨some 17, none, .ia 2 (.s 15) (.s 16)⟩,
    ⟨some 18, none, .fa 0 (.s 17)⟩,
    ⟨some 19, none, .ld false 1 (.s 18)⟩,
    ⟨some 20, none, .mv (.s 1)⟩,
    ⟨some 21, none, .bin .eql (.s 19) (.s 20)⟩] [] [0, 1, 2, 6, 8, 21]) c53_3)
def c53_5 : ACode :=
  (.seq (.block 1 c53_4) c53_1)
def c53_6 : ACode :=
  (.cond (.s 12) .skip (.exit 0))
def c53_7 : ACode :=
  (.seq (.seq (.region false [⟨some 9, none, .mv (.s 8)⟩,
    ⟨some 10, none, .mv (.s 0)⟩,
    ⟨some 11, none, .len (.s 10)⟩,
    ⟨some 12, none, .bin .lss (.s 9) (.s 11)⟩] [] [0, 1, 2, 6, 8, 12]) c53_6) c53_5)
def c53_8 : ACode :=
  (.loop c53_7)
def c53_9 : ACode :=
  (.block 0 c53_8)
def c53_10 : ACode :=
  (.seq (.seq (.region false [⟨some 8, none, .cst (.t (.int .i64 0))⟩] [] [0, 1, 2, 6, 8]) c53_9) c53_0)
def c53 : ACode :=
  (.seq (.region false [⟨some 6, none, .alloc [.t (.int .i64 0), .t (.int .i64 0), .t (.str []), .nils, .nils]⟩,
    ⟨some 7, none, .cst (.t (.bool false))⟩] [] [0, 1, 2, 6]) c53_10)
def r53 : List ARes := [.cell 6 true 5, .tmp 7]
def n53 : Nat := 31
/- 54 supergraph supergraphref10.Scalar -/
def c54_0 : ACode :=
  (.seq (.region false [⟨some 3, none, .mv (.s 0)⟩,
    ⟨some 4, none, .bin .eql (.s 3) (.c (.t (.str [73, 110, 116])))⟩,
    ⟨some 5, none, .mv (.s 4)⟩,
    ⟨some 6, some (5, false), .mv (.s 0)⟩,
    ⟨some 7, some (5, false), .bin .eql (.s 6) (.c (.t (.str [83, 116, 114, 105, 110, 103])))⟩,
    ⟨some 8, none, .pick (.s 5) (.c (.t (.bool true))) (.s 7)⟩,
    ⟨some 9, none, .mv (.s 8)⟩,
    ⟨some 10, some (9, false), .mv (.s 0)⟩,
    ⟨some 11, some (9, false), .bin .eql (.s 10) (.c (.t (.str [66, 111, 111, 108, 101, 97, 110])))⟩,
    ⟨some 12, none, .pick (.s 9) (.c (.t (.bool true))) (.s 11)⟩,
    ⟨some 13, none, .mv (.s 12)⟩,
    ⟨some 14, some (13, false), .mv (.s 0)⟩,
    ⟨some 15, some (13, false), .bin .eql (.s 14) (.c (.t (.str [73, 68])))⟩,
    ⟨some 16, none, .pick (.s 13) (.c (.t (.bool true))) (.s 15)⟩,
    ⟨some 2, none, .mv (.s 16)⟩] [] [2]) .ret)
def c54 : ACode :=
  (.seq (.region false [⟨some 2, none, .cst (.t (.bool false))⟩] [] [0]) c54_0)
def r54 : List ARes := [.tmp 2]
def n54 : Nat := 17
/- 55 supergraph supergraphref10.names -/
def c55_0 : ACode :=
  (.seq (.region false [⟨some 27, none, .mv (.s 9)⟩,
    ⟨some 8, none, .mv (.s 27)⟩] [] [8]) .ret)
def c55_1 : ACode :=
  (.region false [⟨some 22, none, .mv (.s 9)⟩,
    ⟨some 23, none, .mv (.s 3)⟩,
    ⟨some 24, none, .build [.t (.int .i64 0), .t (.str [])] [(0, 1, (.c (.t (.int .i64 7)))), (1, 1, (.s 23))]⟩,
    ⟨some 25, none, .bsl false 2 [[.int .i64 0, .str []]] [(0, (.s 24))]⟩,
    ⟨some 26, none, .app 2 24 (.s 22) (.s 25)⟩,
    ⟨some 9, none, .mv (.s 26)⟩] [] [9])
def c55_2 : ACode :=
  (.cond (.s 21) c55_1 .skip)
def c55_3 : ACode :=
  (.seq (.seq (.region false [⟨some 21, none, .mv (.s 2)⟩] [] [3, 9, 21]) c55_2) c55_0)
def c55_4 : ACode :=
  (.region false [⟨some 16, none, .mv (.s 9)⟩,
    ⟨some 17, none, .mv (.s 3)⟩,
    ⟨some 18, none, .build [.t (.int .i64 0), .t (.str [])] [(0, 1, (.c (.t (.int .i64 6)))), (1, 1, (.s 17))]⟩,
    ⟨some 19, none, .bsl false 2 [[.int .i64 0, .str []]] [(0, (.s 18))]⟩,
    ⟨some 20, none, .app 2 24 (.s 16) (.s 19)⟩,
    ⟨some 9, none, .mv (.s 20)⟩] [] [2, 3, 9])
def c55_5 : ACode :=
  (.cond (.s 15) c55_4 .skip)
def c55_6 : ACode :=
  (.seq (.seq (.region false [⟨some 10, none, .mv (.s 1)⟩,
    ⟨some 11, none, .mv (.s 10)⟩,
    ⟨some 12, some (11, false), .mv (.s 0)⟩,
    ⟨some 13, some (11, false), .call 86 [(.s 12)]⟩,
    ⟨some 14, some (11, false), .un .not (.s 13)⟩,
    ⟨some 15, none, .pick (.s 11) (.c (.t (.bool true))) (.s 14)⟩] [] [2, 3, 9, 15]) c55_5) c55_3)
def c55_7 : ACode :=
  (.seq (.region false [⟨some 9, none, .cst (.nils)⟩] [] [0, 1, 2, 3, 9]) c55_6)
def c55 : ACode :=
  (.seq (.region false [⟨some 8, none, .cst (.nils)⟩] [] [0, 1, 2, 3]) c55_7)
def r55 : List ARes := [.tmp 8]
def n55 : Nat := 28
/- 56 supergraph supergraphref10.empty -/
def c56_0 : ACode :=
  (.seq (.region false [⟨some 2, none, .cst (.t (.bool false))⟩] [] [2]) .ret)
def c56_1 : ACode :=
  (.seq (.region false [⟨some 8, none, .fa 4 (.s 1)⟩,
    ⟨some 9, none, .ld false 1 (.s 8)⟩,
    ⟨some 10, none, .len (.s 9)⟩,
    ⟨some 11, none, .bin .eql (.s 10) (.c (.t (.int .i64 0)))⟩,
    ⟨some 2, none, .mv (.s 11)⟩] [] [2]) .ret)
def c56_2 : ACode :=
  (.seq (.region false [⟨some 15, none, .fa 5 (.s 1)⟩,
    ⟨some 16, none, .ld false 1 (.s 15)⟩,
    ⟨some 17, none, .len (.s 16)⟩,
    ⟨some 18, none, .bin .eql (.s 17) (.c (.t (.int .i64 0)))⟩,
    ⟨some 2, none, .mv (.s 18)⟩] [] [2]) .ret)
def c56_3 : ACode :=
  (.seq (.region false [⟨some 21, none, .fa 6 (.s 1)⟩,
    ⟨some 22, none, .ld false 1 (.s 21)⟩,
    ⟨some 23, none, .len (.s 22)⟩,
    ⟨some 24, none, .bin .eql (.s 23) (.c (.t (.int .i64 0)))⟩,
    ⟨some 2, none, .mv (.s 24)⟩] [] [2]) .ret)
def c56_4 : ACode :=
  (.cond (.s 19) c56_3 .skip)
def c56_5 : ACode :=
  (.seq (.region false [⟨some 20, none, .bin .eql (.s 4) (.c (.t (.int .i64 5)))⟩,
    ⟨some 19, none, .mv (.s 20)⟩] [] [1, 19]) c56_4)
def c56_6 : ACode :=
  (.cond (.s 12) c56_2 c56_5)
def c56_7 : ACode :=
  (.region false [⟨some 14, none, .bin .eql (.s 4) (.c (.t (.int .i64 4)))⟩,
    ⟨some 12, none, .mv (.s 14)⟩] [] [1, 4, 12])
def c56_8 : ACode :=
  (.cond (.s 12) .skip c56_7)
def c56_9 : ACode :=
  (.seq (.seq (.region false [⟨some 13, none, .bin .eql (.s 4) (.c (.t (.int .i64 3)))⟩,
    ⟨some 12, none, .mv (.s 13)⟩] [] [1, 4, 12]) c56_8) c56_6)
def c56_10 : ACode :=
  (.cond (.s 5) c56_1 c56_9)
def c56_11 : ACode :=
  (.region false [⟨some 7, none, .bin .eql (.s 4) (.c (.t (.int .i64 2)))⟩,
    ⟨some 5, none, .mv (.s 7)⟩] [] [1, 4, 5])
def c56_12 : ACode :=
  (.cond (.s 5) .skip c56_11)
def c56_13 : ACode :=
  (.seq (.seq (.region false [⟨some 6, none, .bin .eql (.s 4) (.c (.t (.int .i64 1)))⟩,
    ⟨some 5, none, .mv (.s 6)⟩] [] [1, 4, 5]) c56_12) c56_10)
def c56_14 : ACode :=
  (.block 0 c56_13)
def c56_15 : ACode :=
  (.seq (.seq (.region false [⟨some 3, none, .fa 0 (.s 1)⟩,
    ⟨some 4, none, .ld false 1 (.s 3)⟩] [] [1, 4]) c56_14) c56_0)
def c56 : ACode :=
  (.seq (.region false [⟨some 1, none, .box 7 (.s 0)⟩,
    ⟨some 2, none, .cst (.t (.bool false))⟩] [] [1]) c56_15)
def r56 : List ARes := [.tmp 2]
def n56 : Nat := 25
/- 57 supergraph supergraphref10.circular -/
def c57_0 : ACode :=
  (.seq (.region false [⟨some 38, none, .mv (.s 5)⟩,
    ⟨some 39, none, .fa 1 (.s 3)⟩,
    ⟨some 40, none, .ld false 1 (.s 39)⟩,
    ⟨some 41, none, .call 88 [(.s 38), (.s 40)]⟩,
    ⟨some 4, none, .mv (.s 41)⟩] [] [4]) .ret)
def c57_1 : ACode :=
  (.region false [⟨some 21, none, .mv (.s 6)⟩,
    ⟨some 22, none, .bin .add (.s 21) (.c (.t (.int .i64 1)))⟩,
    ⟨some 6, none, .mv (.s 22)⟩] [] [2, 3, 5, 6])
def c57_2 : ACode :=
  (.region false [⟨some 32, none, .ld true 1 (.s 2)⟩,
    ⟨some 33, none, .ld true 7 (.s 7)⟩,
    ⟨some 34, none, .fa 1 (.s 3)⟩,
    ⟨some 35, none, .ld false 1 (.s 34)⟩,
    ⟨some 36, none, .mv (.s 5)⟩,
    ⟨some 37, none, .call 87 [(.s 32), (.s 33), (.s 35), (.s 36)]⟩,
    ⟨some 5, none, .mv (.s 37)⟩] [] [2, 3, 5, 6])
def c57_3 : ACode :=
  (.seq (.region true [⟨some 24, none, .ld true 1 (.s 2)⟩,
    ⟨some 25, none, .mv (.s 5)⟩,
    ⟨some 26, none, .mv (.s 6)⟩,
    ⟨some 27, none, .ia 1 (.s 25) (.s 26)⟩,
    ⟨some 28, none, .ld false 1 (.s 27)⟩,
    ⟨some 29, none, .call 33 [(.s 24), (.s 28)]⟩,
    ⟨some 23, none, .mv (.s 29)⟩,
    ⟨some 30, none, .ext (.s 23) 0⟩,
    ⟨some 31, none, .ext (.s 23) 1⟩,
    ⟨some 7, none, .alloc [.t (.int .i64 0), .t (.str []), .nils, .nils, .nils, .nils, .nils]⟩,
    ⟨none, none, .st 7 (.s 7) (.s 30)⟩,
    ⟨some 8, none, .mv (.s 31)⟩] [[], [], [], [1, 2], [3], [0, 4], [5], [6], [6], [], [9, 7, 5, 0, 1, 2, 3, 4, 5, 6, 7, 9], [8, 10, 0, 1, 2, 3, 4, 5, 6, 7, 8, 9, 10]] [2, 3, 5, 6, 7]) c57_2)
def c57_4 : ACode :=
  (.seq (.block 1 c57_3) c57_1)
def c57_5 : ACode :=
  (.cond (.s 20) .skip (.exit 0))
def c57_6 : ACode :=
  (.seq (.seq (.region false [⟨some 17, none, .mv (.s 6)⟩,
    ⟨some 18, none, .mv (.s 5)⟩,
    ⟨some 19, none, .len (.s 18)⟩,
    ⟨some 20, none, .bin .lss (.s 17) (.s 19)⟩] [] [2, 3, 5, 6, 20]) c57_5) c57_4)
def c57_7 : ACode :=
  (.loop c57_6)
def c57_8 : ACode :=
  (.block 0 c57_7)
def c57_9 : ACode :=
  (.seq (.seq (.region false [⟨some 6, none, .cst (.t (.int .i64 0))⟩] [] [2, 3, 5, 6]) c57_8) c57_0)
def c57_10 : ACode :=
  (.seq (.region false [⟨some 12, none, .ld true 1 (.s 2)⟩,
    ⟨some 13, none, .ld true 7 (.s 3)⟩,
    ⟨some 14, none, .fa 1 (.s 3)⟩,
    ⟨some 15, none, .ld false 1 (.s 14)⟩,
    ⟨some 16, none, .call 87 [(.s 12), (.s 13), (.s 15), (.c (.nils))]⟩,
    ⟨some 5, none, .mv (.s 16)⟩] [] [2, 3, 5]) c57_9)
def c57_11 : ACode :=
  (.seq (.region false [⟨some 4, none, .cst (.t (.bool false))⟩] [] [4]) .ret)
def c57_12 : ACode :=
  (.cond (.s 11) c57_11 .skip)
def c57_13 : ACode :=
  (.seq (.seq (.region false [⟨some 9, none, .fa 0 (.s 3)⟩,
    ⟨some 10, none, .ld false 1 (.s 9)⟩,
    ⟨some 11, none, .bin .neq (.s 10) (.c (.t (.int .i64 5)))⟩] [] [2, 3, 11]) c57_12) c57_10)
def c57 : ACode :=
  (.seq (.region false [⟨some 2, none, .box 1 (.s 0)⟩,
    ⟨some 3, none, .box 7 (.s 1)⟩,
    ⟨some 4, none, .cst (.t (.bool false))⟩] [] [2, 3]) c57_13)
def r57 : List ARes := [.tmp 4]
def n57 : Nat := 42
/- 58 supergraph supergraphref10.FieldOf -/
def c58_0 : ACode :=
  (.seq (.region false [⟨some 27, none, .build [.t (.str []), .nils, .t (.str []), .nils, .nils] []⟩,
    ⟨none, none, .st 5 (.s 4) (.s 27)⟩,
    ⟨some 5, none, .cst (.t (.bool false))⟩] [] [4, 5]) .ret)
def c58_1 : ACode :=
  (.region false [⟨some 12, none, .mv (.s 6)⟩,
    ⟨some 13, none, .bin .add (.s 12) (.c (.t (.int .i64 1)))⟩,
    ⟨some 6, none, .mv (.s 13)⟩] [] [1, 2, 4, 6])
def c58_2 : ACode :=
  (.seq (.region false [⟨some 22, none, .fa 4 (.s 2)⟩,
    ⟨some 23, none, .ld false 1 (.s 22)⟩,
    ⟨some 24, none, .mv (.s 6)⟩,
    ⟨some 25, none, .ia 5 (.s 23) (.s 24)⟩,
    ⟨some 26, none, .ld true 5 (.s 25)⟩,
    ⟨none, none, .st 5 (.s 4) (.s 26)⟩,
    ⟨some 5, none, .cst (.t (.bool true))⟩] [] [4, 5]) .ret)
def c58_3 : ACode :=
  (.cond (.s 21) c58_2 .skip)
def c58_4 : ACode :=
  (.seq (.region false [⟨some 14, none, .fa 4 (.s 2)⟩,
    ⟨some 15, none, .ld false 1 (.s 14)⟩,
    ⟨some 16, none, .mv (.s 6)⟩,
    ⟨some 17, none, .ia 5 (.s 15) (.s 16)⟩,
    ⟨some 18, none, .fa 0 (.s 17)⟩,
    ⟨some 19, none, .ld false 1 (.s 18)⟩,
    ⟨some 20, none, .mv (.s 1)⟩,
    ⟨some 21, none, .bin .eql (.s 19) (.s 20)⟩] [] [1, 2, 4, 6, 21]) c58_3)
def c58_5 : ACode :=
  (.seq (.block 1 c58_4) c58_1)
def c58_6 : ACode :=
  (.cond (.s 11) .skip (.exit 0))
def c58_7 : ACode :=
  (.seq (.seq (.region false [⟨some 7, none, .mv (.s 6)⟩,
    ⟨some 8, none, .fa 4 (.s 2)⟩,
    ⟨some 9, none, .ld false 1 (.s 8)⟩,
    ⟨some 10, none, .len (.s 9)⟩,
    ⟨some 11, none, .bin .lss (.s 7) (.s 10)⟩] [] [1, 2, 4, 6, 11]) c58_6) c58_5)
def c58_8 : ACode :=
  (.loop c58_7)
def c58_9 : ACode :=
  (.block 0 c58_8)
def c58_10 : ACode :=
  (.seq (.seq (.region false [⟨some 6, none, .cst (.t (.int .i64 0))⟩] [] [1, 2, 4, 6]) c58_9) c58_0)
def c58 : ACode :=
  (.seq (.region false [⟨some 2, none, .box 7 (.s 0)⟩,
    ⟨some 4, none, .alloc [.t (.str []), .nils, .t (.str []), .nils, .nils]⟩,
    ⟨some 5, none, .cst (.t (.bool false))⟩] [] [1, 2, 4]) c58_10)
def r58 : List ARes := [.cell 4 true 5, .tmp 5]
def n58 : Nat := 28
/- 59 supergraph supergraphref10.known -/
def c59_0 : ACode :=
  (.seq (.region false [⟨some 13, none, .mv (.s 1)⟩,
    ⟨some 14, none, .call 54 [(.s 13)]⟩,
    ⟨some 15, none, .mv (.s 14)⟩,
    ⟨some 16, some (15, false), .mv (.s 6)⟩,
    ⟨some 17, none, .pick (.s 15) (.c (.t (.bool true))) (.s 16)⟩,
    ⟨some 4, none, .mv (.s 17)⟩] [] [4]) .ret)
def c59_1 : ACode :=
  (.seq (.region false [⟨some 8, none, .ld true 1 (.s 2)⟩,
    ⟨some 9, none, .mv (.s 1)⟩,
    ⟨some 10, none, .call 33 [(.s 8), (.s 9)]⟩,
    ⟨some 7, none, .mv (.s 10)⟩,
    ⟨some 11, none, .ext (.s 7) 0⟩,
    ⟨some 12, none, .ext (.s 7) 1⟩,
    ⟨some 5, none, .alloc [.t (.int .i64 0), .t (.str []), .nils, .nils, .nils, .nils, .nils]⟩,
    ⟨none, none, .st 7 (.s 5) (.s 11)⟩,
    ⟨some 6, none, .mv (.s 12)⟩] [] [1, 6]) c59_0)
def c59 : ACode :=
  (.seq (.region false [⟨some 2, none, .box 1 (.s 0)⟩,
    ⟨some 4, none, .cst (.t (.bool false))⟩] [] [1, 2]) c59_1)
def r59 : List ARes := [.tmp 4]
def n59 : Nat := 18
/- 60 supergraph supergraphref10.InputOf -/
def c60_0 : ACode :=
  (.seq (.region false [⟨some 24, none, .build [.t (.str []), .t (.str []), .nils, .t (.bool false), .t (.int .i64 0), .t (.int .i64 0), .t (.str []), .nils, .nils, .nils] []⟩,
    ⟨none, none, .st 10 (.s 4) (.s 24)⟩,
    ⟨some 5, none, .cst (.t (.bool false))⟩] [] [4, 5]) .ret)
def c60_1 : ACode :=
  (.region false [⟨some 11, none, .mv (.s 6)⟩,
    ⟨some 12, none, .bin .add (.s 11) (.c (.t (.int .i64 1)))⟩,
    ⟨some 6, none, .mv (.s 12)⟩] [] [0, 1, 4, 6])
def c60_2 : ACode :=
  (.seq (.region false [⟨some 20, none, .mv (.s 0)⟩,
    ⟨some 21, none, .mv (.s 6)⟩,
    ⟨some 22, none, .ia 10 (.s 20) (.s 21)⟩,
    ⟨some 23, none, .ld true 10 (.s 22)⟩,
    ⟨none, none, .st 10 (.s 4) (.s 23)⟩,
    ⟨some 5, none, .cst (.t (.bool true))⟩] [] [4, 5]) .ret)
def c60_3 : ACode :=
  (.cond (.s 19) c60_2 .skip)
def c60_4 : ACode :=
  (.seq (.region false [⟨some 13, none, .mv (.s 0)⟩,
    ⟨some 14, none, .mv (.s 6)⟩,
    ⟨some 15, none, .ia 10 (.s 13) (.s 14)⟩,
    ⟨some 16, none, .fa 0 (.s 15)⟩,
    ⟨some 17, none, .ld false 1 (.s 16)⟩,
    ⟨some 18, none, .mv (.s 1)⟩,
    ⟨some 19, none, .bin .eql (.s 17) (.s 18)⟩] [] [0, 1, 4, 6, 19]) c60_3)
def c60_5 : ACode :=
  (.seq (.block 1 c60_4) c60_1)
def c60_6 : ACode :=
  (.cond (.s 10) .skip (.exit 0))
def c60_7 : ACode :=
  (.seq (.seq (.region false [⟨some 7, none, .mv (.s 6)⟩,
    ⟨some 8, none, .mv (.s 0)⟩,
    ⟨some 9, none, .len (.s 8)⟩,
    ⟨some 10, none, .bin .lss (.s 7) (.s 9)⟩] [] [0, 1, 4, 6, 10]) c60_6) c60_5)
def c60_8 : ACode :=
  (.loop c60_7)
def c60_9 : ACode :=
  (.block 0 c60_8)
def c60_10 : ACode :=
  (.seq (.seq (.region false [⟨some 6, none, .cst (.t (.int .i64 0))⟩] [] [0, 1, 4, 6]) c60_9) c60_0)
def c60 : ACode :=
  (.seq (.region false [⟨some 4, none, .alloc [.t (.str []), .t (.str []), .nils, .t (.bool false), .t (.int .i64 0), .t (.int .i64 0), .t (.str []), .nils, .nils, .nils]⟩,
    ⟨some 5, none, .cst (.t (.bool false))⟩] [] [0, 1, 4]) c60_10)
def r60 : List ARes := [.cell 4 true 10, .tmp 5]
def n60 : Nat := 25
/- 61 supergraph supergraphref10.IsInput -/
def c61_0 : ACode :=
  (.seq (.region false [⟨some 13, none, .ld true 1 (.s 2)⟩,
    ⟨some 14, none, .mv (.s 1)⟩,
    ⟨some 15, none, .call 77 [(.s 13), (.s 14)]⟩,
    ⟨some 16, none, .mv (.s 15)⟩,
    ⟨some 17, some (16, false), .mv (.s 6)⟩,
    ⟨some 18, some (16, false), .mv (.s 17)⟩,
    ⟨some 19, some (18, true), .fa 0 (.s 5)⟩,
    ⟨some 20, some (18, true), .ld false 1 (.s 19)⟩,
    ⟨some 21, some (18, true), .bin .eql (.s 20) (.c (.t (.int .i64 5)))⟩,
    ⟨some 22, some (16, false), .pick (.s 18) (.s 21) (.c (.t (.bool false)))⟩,
    ⟨some 23, none, .pick (.s 16) (.c (.t (.bool true))) (.s 22)⟩,
    ⟨some 4, none, .mv (.s 23)⟩] [] [4]) .ret)
def c61_1 : ACode :=
  (.seq (.region false [⟨some 8, none, .ld true 1 (.s 2)⟩,
    ⟨some 9, none, .mv (.s 1)⟩,
    ⟨some 10, none, .call 33 [(.s 8), (.s 9)]⟩,
    ⟨some 7, none, .mv (.s 10)⟩,
    ⟨some 11, none, .ext (.s 7) 0⟩,
    ⟨some 12, none, .ext (.s 7) 1⟩,
    ⟨some 5, none, .alloc [.t (.int .i64 0), .t (.str []), .nils, .nils, .nils, .nils, .nils]⟩,
    ⟨none, none, .st 7 (.s 5) (.s 11)⟩,
    ⟨some 6, none, .mv (.s 12)⟩] [] [1, 2, 5, 6]) c61_0)
def c61 : ACode :=
  (.seq (.region false [⟨some 2, none, .box 1 (.s 0)⟩,
    ⟨some 4, none, .cst (.t (.bool false))⟩] [] [1, 2]) c61_1)
def r61 : List ARes := [.tmp 4]
def n61 : Nat := 24
/- 62 supergraph supergraphref23.arguments -/
def c62_0 : ACode :=
  (.seq (.region false [⟨some 2, none, .cst (.t (.int .i64 0))⟩] [] [2]) .ret)
def c62_1 : ACode :=
  (.region false [⟨some 70, none, .mv (.s 9)⟩,
    ⟨some 71, none, .bin .add (.s 70) (.c (.t (.int .i64 1)))⟩,
    ⟨some 9, none, .mv (.s 71)⟩] [] [1, 9])
def c62_2 : ACode :=
  (.seq (.region false [⟨some 2, none, .cst (.t (.int .i64 23))⟩] [] [2]) .ret)
def c62_3 : ACode :=
  (.cond (.s 92) c62_2 .skip)
def c62_4 : ACode :=
  (.seq (.region false [⟨some 84, none, .fa 1 (.s 1)⟩,
    ⟨some 85, none, .ld false 1 (.s 84)⟩,
    ⟨some 86, none, .mv (.s 9)⟩,
    ⟨some 87, none, .ia 6 (.s 85) (.s 86)⟩,
    ⟨some 88, none, .fa 1 (.s 87)⟩,
    ⟨some 89, none, .ld true 5 (.s 88)⟩,
    ⟨some 90, none, .mv (.s 10)⟩,
    ⟨some 91, none, .call 91 [(.s 89), (.s 90)]⟩,
    ⟨some 92, none, .un .not (.s 91)⟩] [] [1, 9, 92]) c62_3)
def c62_5 : ACode :=
  (.seq (.region true [⟨some 73, none, .fa 0 (.s 1)⟩,
    ⟨some 74, none, .ld false 1 (.s 73)⟩,
    ⟨some 75, none, .fa 1 (.s 1)⟩,
    ⟨some 76, none, .ld false 1 (.s 75)⟩,
    ⟨some 77, none, .mv (.s 9)⟩,
    ⟨some 78, none, .ia 6 (.s 76) (.s 77)⟩,
    ⟨some 79, none, .fa 0 (.s 78)⟩,
    ⟨some 80, none, .ld false 1 (.s 79)⟩,
    ⟨some 81, none, .call 89 [(.s 74), (.s 80)]⟩,
    ⟨some 72, none, .mv (.s 81)⟩,
    ⟨some 82, none, .ext (.s 72) 0⟩,
    ⟨some 83, none, .ext (.s 72) 1⟩,
    ⟨some 10, none, .mv (.s 82)⟩,
    ⟨some 11, none, .mv (.s 83)⟩] [[], [0], [], [2], [], [3, 4], [5], [6], [1, 7], [8], [9], [9], [10, 8, 0, 1, 2, 3, 4, 5, 6, 7, 8, 9, 10], [11, 12, 0, 1, 2, 3, 4, 5, 6, 7, 8, 9, 10, 11, 12]] [1, 9, 10]) c62_4)
def c62_6 : ACode :=
  (.seq (.block 5 c62_5) c62_1)
def c62_7 : ACode :=
  (.cond (.s 69) .skip (.exit 4))
def c62_8 : ACode :=
  (.seq (.seq (.region false [⟨some 65, none, .mv (.s 9)⟩,
    ⟨some 66, none, .fa 1 (.s 1)⟩,
    ⟨some 67, none, .ld false 1 (.s 66)⟩,
    ⟨some 68, none, .len (.s 67)⟩,
    ⟨some 69, none, .bin .lss (.s 65) (.s 68)⟩] [] [1, 9, 69]) c62_7) c62_6)
def c62_9 : ACode :=
  (.loop c62_8)
def c62_10 : ACode :=
  (.block 4 c62_9)
def c62_11 : ACode :=
  (.seq (.seq (.region false [⟨some 9, none, .cst (.t (.int .i64 0))⟩] [] [1, 9]) c62_10) c62_0)
def c62_12 : ACode :=
  (.seq (.region false [⟨some 2, none, .cst (.t (.int .i64 22))⟩] [] [2]) .ret)
def c62_13 : ACode :=
  (.cond (.s 64) c62_12 .skip)
def c62_14 : ACode :=
  (.seq (.region false [⟨some 63, none, .mv (.s 8)⟩,
    ⟨some 64, none, .un .not (.s 63)⟩] [] [1, 64]) c62_13)
def c62_15 : ACode :=
  (.seq (.region true [⟨some 56, none, .ld true 2 (.s 1)⟩,
    ⟨some 57, none, .fa 0 (.s 1)⟩,
    ⟨some 58, none, .ld false 1 (.s 57)⟩,
    ⟨some 59, none, .call 90 [(.s 58)]⟩,
    ⟨some 60, none, .call 84 [(.s 56), (.s 59)]⟩,
    ⟨some 55, none, .mv (.s 60)⟩,
    ⟨some 61, none, .ext (.s 55) 0⟩,
    ⟨some 62, none, .ext (.s 55) 1⟩,
    ⟨some 7, none, .alloc [.t (.int .i64 0), .t (.int .i64 0), .t (.str []), .nils, .nils]⟩,
    ⟨none, none, .st 5 (.s 7) (.s 61)⟩,
    ⟨some 8, none, .mv (.s 62)⟩] [[], [], [1], [2], [0, 3, 3], [4], [5], [5], [], [8, 6, 4, 0, 1, 2, 3, 4, 5, 6, 8], [7, 9, 0, 1, 2, 3, 4, 5, 6, 7, 8, 9]] [1, 8]) c62_14)
def c62_16 : ACode :=
  (.cond (.s 54) c62_15 .skip)
def c62_17 : ACode :=
  (.seq (.seq (.region false [⟨some 51, none, .fa 0 (.s 1)⟩,
    ⟨some 52, none, .ld false 1 (.s 51)⟩,
    ⟨some 53, none, .call 90 [(.s 52)]⟩,
    ⟨some 54, none, .bin .neq (.s 53) (.c (.t (.str [])))⟩] [] [1, 54]) c62_16) c62_11)
def c62_18 : ACode :=
  (.region false [⟨some 17, none, .mv (.s 3)⟩,
    ⟨some 18, none, .bin .add (.s 17) (.c (.t (.int .i64 1)))⟩,
    ⟨some 3, none, .mv (.s 18)⟩] [] [1, 3])
def c62_19 : ACode :=
  (.region false [⟨some 36, none, .mv (.s 6)⟩,
    ⟨some 37, none, .bin .add (.s 36) (.c (.t (.int .i64 1)))⟩,
    ⟨some 6, none, .mv (.s 37)⟩] [] [1, 3, 6])
def c62_20 : ACode :=
  (.seq (.region false [⟨some 2, none, .cst (.t (.int .i64 22))⟩] [] [2]) .ret)
def c62_21 : ACode :=
  (.cond (.s 50) c62_20 .skip)
def c62_22 : ACode :=
  (.seq (.region true [⟨some 38, none, .fa 1 (.s 1)⟩,
    ⟨some 39, none, .ld false 1 (.s 38)⟩,
    ⟨some 40, none, .mv (.s 6)⟩,
    ⟨some 41, none, .ia 6 (.s 39) (.s 40)⟩,
    ⟨some 42, none, .fa 0 (.s 41)⟩,
    ⟨some 43, none, .ld false 1 (.s 42)⟩,
    ⟨some 44, none, .fa 1 (.s 1)⟩,
    ⟨some 45, none, .ld false 1 (.s 44)⟩,
    ⟨some 46, none, .mv (.s 3)⟩,
    ⟨some 47, none, .ia 6 (.s 45) (.s 46)⟩,
    ⟨some 48, none, .fa 0 (.s 47)⟩,
    ⟨some 49, none, .ld false 1 (.s 48)⟩,
    ⟨some 50, none, .bin .eql (.s 43) (.s 49)⟩] [[], [0], [], [1, 2], [3], [4], [], [6], [], [7, 8], [9], [10], [5, 11]] [1, 3, 6, 50]) c62_21)
def c62_23 : ACode :=
  (.seq (.block 3 c62_22) c62_19)
def c62_24 : ACode :=
  (.cond (.s 35) .skip (.exit 2))
def c62_25 : ACode :=
  (.seq (.seq (.region false [⟨some 33, none, .mv (.s 6)⟩,
    ⟨some 34, none, .mv (.s 3)⟩,
    ⟨some 35, none, .bin .lss (.s 33) (.s 34)⟩] [] [1, 3, 6, 35]) c62_24) c62_23)
def c62_26 : ACode :=
  (.loop c62_25)
def c62_27 : ACode :=
  (.block 2 c62_26)
def c62_28 : ACode :=
  (.seq (.region false [⟨some 6, none, .cst (.t (.int .i64 0))⟩] [] [1, 3, 6]) c62_27)
def c62_29 : ACode :=
  (.seq (.region false [⟨some 2, none, .cst (.t (.int .i64 22))⟩] [] [2]) .ret)
def c62_30 : ACode :=
  (.cond (.s 32) c62_29 .skip)
def c62_31 : ACode :=
  (.seq (.seq (.region false [⟨some 31, none, .mv (.s 4)⟩,
    ⟨some 32, none, .bin .eql (.s 31) (.c (.t (.str [])))⟩] [] [1, 3, 32]) c62_30) c62_28)
def c62_32 : ACode :=
  (.seq (.region true [⟨some 20, none, .fa 0 (.s 1)⟩,
    ⟨some 21, none, .ld false 1 (.s 20)⟩,
    ⟨some 22, none, .fa 1 (.s 1)⟩,
    ⟨some 23, none, .ld false 1 (.s 22)⟩,
    ⟨some 24, none, .mv (.s 3)⟩,
    ⟨some 25, none, .ia 6 (.s 23) (.s 24)⟩,
    ⟨some 26, none, .fa 0 (.s 25)⟩,
    ⟨some 27, none, .ld false 1 (.s 26)⟩,
    ⟨some 28, none, .call 89 [(.s 21), (.s 27)]⟩,
    ⟨some 19, none, .mv (.s 28)⟩,
    ⟨some 29, none, .ext (.s 19) 0⟩,
    ⟨some 30, none, .ext (.s 19) 1⟩,
    ⟨some 4, none, .mv (.s 29)⟩,
    ⟨some 5, none, .mv (.s 30)⟩] [[], [0], [], [2], [], [3, 4], [5], [6], [1, 7], [8], [9], [9], [10, 8, 0, 1, 2, 3, 4, 5, 6, 7, 8, 9, 10], [11, 12, 0, 1, 2, 3, 4, 5, 6, 7, 8, 9, 10, 11, 12]] [1, 3, 4]) c62_31)
def c62_33 : ACode :=
  (.seq (.block 1 c62_32) c62_18)
def c62_34 : ACode :=
  (.cond (.s 16) .skip (.exit 0))
def c62_35 : ACode :=
  (.seq (.seq (.region false [⟨some 12, none, .mv (.s 3)⟩,
    ⟨some 13, none, .fa 1 (.s 1)⟩,
    ⟨some 14, none, .ld false 1 (.s 13)⟩,
    ⟨some 15, none, .len (.s 14)⟩,
    ⟨some 16, none, .bin .lss (.s 12) (.s 15)⟩] [] [1, 3, 16]) c62_34) c62_33)
def c62_36 : ACode :=
  (.loop c62_35)
def c62_37 : ACode :=
  (.block 0 c62_36)
def c62_38 : ACode :=
  (.seq (.seq (.region false [⟨some 3, none, .cst (.t (.int .i64 0))⟩] [] [1, 3]) c62_37) c62_17)
def c62 : ACode :=
  (.seq (.region false [⟨some 1, none, .box 2 (.s 0)⟩,
    ⟨some 2, none, .cst (.t (.int .i64 0))⟩] [] [1]) c62_38)
def r62 : List ARes := [.tmp 2]
def n62 : Nat := 93
/- 63 supergraph supergraphref23.may -/
def c63_0 : ACode :=
  (.seq (.region false [⟨some 4, none, .cst (.t (.bool false))⟩] [] [4]) .ret)
def c63_1 : ACode :=
  (.seq (.region false [⟨some 15, none, .mv (.s 1)⟩,
    ⟨some 16, none, .bin .eql (.s 15) (.c (.t (.int .i64 1)))⟩,
    ⟨some 4, none, .mv (.s 16)⟩] [] [4]) .ret)
def c63_2 : ACode :=
  (.seq (.region false [⟨some 23, none, .mv (.s 1)⟩,
    ⟨some 24, none, .bin .eql (.s 23) (.c (.t (.int .i64 3)))⟩,
    ⟨some 4, none, .mv (.s 24)⟩] [] [4]) .ret)
def c63_3 : ACode :=
  (.seq (.region false [⟨some 27, none, .mv (.s 1)⟩,
    ⟨some 28, none, .bin .neq (.s 27) (.c (.t (.int .i64 6)))⟩,
    ⟨some 4, none, .mv (.s 28)⟩] [] [4]) .ret)
def c63_4 : ACode :=
  (.seq (.region false [⟨some 33, none, .mv (.s 5)⟩,
    ⟨some 34, none, .mv (.s 33)⟩,
    ⟨some 35, some (34, false), .mv (.s 1)⟩,
    ⟨some 36, some (34, false), .bin .eql (.s 35) (.c (.t (.int .i64 1)))⟩,
    ⟨some 37, none, .pick (.s 34) (.c (.t (.bool true))) (.s 36)⟩,
    ⟨some 4, none, .mv (.s 37)⟩] [] [4]) .ret)
def c63_5 : ACode :=
  (.seq (.region false [⟨some 41, none, .mv (.s 5)⟩,
    ⟨some 4, none, .mv (.s 41)⟩] [] [4]) .ret)
def c63_6 : ACode :=
  (.seq (.region false [⟨some 44, none, .mv (.s 5)⟩,
    ⟨some 45, none, .mv (.s 44)⟩,
    ⟨some 46, some (45, false), .mv (.s 1)⟩,
    ⟨some 47, some (45, false), .bin .eql (.s 46) (.c (.t (.int .i64 5)))⟩,
    ⟨some 48, none, .pick (.s 45) (.c (.t (.bool true))) (.s 47)⟩,
    ⟨some 4, none, .mv (.s 48)⟩] [] [4]) .ret)
def c63_7 : ACode :=
  (.cond (.s 42) c63_6 .skip)
def c63_8 : ACode :=
  (.seq (.region false [⟨some 43, none, .bin .eql (.s 12) (.c (.t (.str [100, 101, 112, 114, 101, 99, 97, 116, 101, 100])))⟩,
    ⟨some 42, none, .mv (.s 43)⟩] [] [1, 5, 42]) c63_7)
def c63_9 : ACode :=
  (.cond (.s 38) c63_5 c63_8)
def c63_10 : ACode :=
  (.region false [⟨some 40, none, .bin .eql (.s 12) (.c (.t (.str [108, 105, 115, 116, 83, 105, 122, 101])))⟩,
    ⟨some 38, none, .mv (.s 40)⟩] [] [1, 5, 12, 38])
def c63_11 : ACode :=
  (.cond (.s 38) .skip c63_10)
def c63_12 : ACode :=
  (.seq (.seq (.region false [⟨some 39, none, .bin .eql (.s 12) (.c (.t (.str [99, 111, 115, 116])))⟩,
    ⟨some 38, none, .mv (.s 39)⟩] [] [1, 5, 12, 38]) c63_11) c63_9)
def c63_13 : ACode :=
  (.cond (.s 29) c63_4 c63_12)
def c63_14 : ACode :=
  (.region false [⟨some 32, none, .bin .eql (.s 12) (.c (.t (.str [99, 97, 99, 104, 101, 67, 111, 110, 116, 114, 111, 108])))⟩,
    ⟨some 29, none, .mv (.s 32)⟩] [] [1, 5, 12, 29])
def c63_15 : ACode :=
  (.cond (.s 29) .skip c63_14)
def c63_16 : ACode :=
  (.seq (.region false [⟨some 31, none, .bin .eql (.s 12) (.c (.t (.str [115, 99, 111, 112, 101, 115])))⟩,
    ⟨some 29, none, .mv (.s 31)⟩] [] [1, 5, 12, 29]) c63_15)
def c63_17 : ACode :=
  (.cond (.s 29) .skip c63_16)
def c63_18 : ACode :=
  (.seq (.seq (.region false [⟨some 30, none, .bin .eql (.s 12) (.c (.t (.str [97, 117, 116, 104, 101, 110, 116, 105, 99, 97, 116, 101, 100])))⟩,
    ⟨some 29, none, .mv (.s 30)⟩] [] [1, 5, 12, 29]) c63_17) c63_13)
def c63_19 : ACode :=
  (.cond (.s 25) c63_3 c63_18)
def c63_20 : ACode :=
  (.seq (.region false [⟨some 26, none, .bin .eql (.s 12) (.c (.t (.str [116, 97, 103])))⟩,
    ⟨some 25, none, .mv (.s 26)⟩] [] [1, 5, 12, 25]) c63_19)
def c63_21 : ACode :=
  (.cond (.s 17) c63_2 c63_20)
def c63_22 : ACode :=
  (.region false [⟨some 22, none, .bin .eql (.s 12) (.c (.t (.str [112, 114, 111, 118, 105, 100, 101, 115])))⟩,
    ⟨some 17, none, .mv (.s 22)⟩] [] [1, 5, 12, 17])
def c63_23 : ACode :=
  (.cond (.s 17) .skip c63_22)
def c63_24 : ACode :=
  (.seq (.region false [⟨some 21, none, .bin .eql (.s 12) (.c (.t (.str [114, 101, 113, 117, 105, 114, 101, 115])))⟩,
    ⟨some 17, none, .mv (.s 21)⟩] [] [1, 5, 12, 17]) c63_23)
def c63_25 : ACode :=
  (.cond (.s 17) .skip c63_24)
def c63_26 : ACode :=
  (.seq (.region false [⟨some 20, none, .bin .eql (.s 12) (.c (.t (.str [105, 110, 97, 99, 99, 101, 115, 115, 105, 98, 108, 101])))⟩,
    ⟨some 17, none, .mv (.s 20)⟩] [] [1, 5, 12, 17]) c63_25)
def c63_27 : ACode :=
  (.cond (.s 17) .skip c63_26)
def c63_28 : ACode :=
  (.seq (.region false [⟨some 19, none, .bin .eql (.s 12) (.c (.t (.str [115, 104, 97, 114, 101, 97, 98, 108, 101])))⟩,
    ⟨some 17, none, .mv (.s 19)⟩] [] [1, 5, 12, 17]) c63_27)
def c63_29 : ACode :=
  (.cond (.s 17) .skip c63_28)
def c63_30 : ACode :=
  (.seq (.seq (.region false [⟨some 18, none, .bin .eql (.s 12) (.c (.t (.str [101, 120, 116, 101, 114, 110, 97, 108])))⟩,
    ⟨some 17, none, .mv (.s 18)⟩] [] [1, 5, 12, 17]) c63_29) c63_21)
def c63_31 : ACode :=
  (.cond (.s 13) c63_1 c63_30)
def c63_32 : ACode :=
  (.seq (.region false [⟨some 14, none, .bin .eql (.s 12) (.c (.t (.str [107, 101, 121])))⟩,
    ⟨some 13, none, .mv (.s 14)⟩] [] [1, 5, 12, 13]) c63_31)
def c63_33 : ACode :=
  (.block 0 c63_32)
def c63_34 : ACode :=
  (.seq (.seq (.region false [⟨some 12, none, .mv (.s 0)⟩] [] [1, 5, 12]) c63_33) c63_0)
def c63_35 : ACode :=
  (.seq (.region false [⟨some 6, none, .mv (.s 1)⟩,
    ⟨some 7, none, .bin .eql (.s 6) (.c (.t (.int .i64 3)))⟩,
    ⟨some 8, none, .mv (.s 7)⟩,
    ⟨some 9, some (8, false), .mv (.s 1)⟩,
    ⟨some 10, some (8, false), .bin .eql (.s 9) (.c (.t (.int .i64 4)))⟩,
    ⟨some 11, none, .pick (.s 8) (.c (.t (.bool true))) (.s 10)⟩,
    ⟨some 5, none, .mv (.s 11)⟩] [] [0, 1, 5]) c63_34)
def c63 : ACode :=
  (.seq (.region false [⟨some 4, none, .cst (.t (.bool false))⟩] [] [0, 1]) c63_35)
def r63 : List ARes := [.tmp 4]
def n63 : Nat := 49
/- 64 supergraph schema.Scalar -/
def c64_0 : ACode :=
  (.seq (.region false [⟨some 3, none, .mv (.s 0)⟩,
    ⟨some 4, none, .bin .eql (.s 3) (.c (.t (.str [73, 110, 116])))⟩,
    ⟨some 5, none, .mv (.s 4)⟩,
    ⟨some 6, some (5, false), .mv (.s 0)⟩,
    ⟨some 7, some (5, false), .bin .eql (.s 6) (.c (.t (.str [83, 116, 114, 105, 110, 103])))⟩,
    ⟨some 8, none, .pick (.s 5) (.c (.t (.bool true))) (.s 7)⟩,
    ⟨some 9, none, .mv (.s 8)⟩,
    ⟨some 10, some (9, false), .mv (.s 0)⟩,
    ⟨some 11, some (9, false), .bin .eql (.s 10) (.c (.t (.str [66, 111, 111, 108, 101, 97, 110])))⟩,
    ⟨some 12, none, .pick (.s 9) (.c (.t (.bool true))) (.s 11)⟩,
    ⟨some 13, none, .mv (.s 12)⟩,
    ⟨some 14, some (13, false), .mv (.s 0)⟩,
    ⟨some 15, some (13, false), .bin .eql (.s 14) (.c (.t (.str [73, 68])))⟩,
    ⟨some 16, none, .pick (.s 13) (.c (.t (.bool true))) (.s 15)⟩,
    ⟨some 2, none, .mv (.s 16)⟩] [] [2]) .ret)
def c64 : ACode :=
  (.seq (.region false [⟨some 2, none, .cst (.t (.bool false))⟩] [] [0]) c64_0)
def r64 : List ARes := [.tmp 2]
def n64 : Nat := 17
/- 65 supergraph schema.kind -/
def c65_0 : ACode :=
  (.seq (.region false [⟨some 13, none, .fa 0 (.s 5)⟩,
    ⟨some 14, none, .ld false 1 (.s 13)⟩,
    ⟨some 4, none, .mv (.s 14)⟩] [] [4]) .ret)
def c65_1 : ACode :=
  (.seq (.region false [⟨some 8, none, .ld true 1 (.s 2)⟩,
    ⟨some 9, none, .mv (.s 1)⟩,
    ⟨some 10, none, .call 45 [(.s 8), (.s 9)]⟩,
    ⟨some 7, none, .mv (.s 10)⟩,
    ⟨some 11, none, .ext (.s 7) 0⟩,
    ⟨some 12, none, .ext (.s 7) 1⟩,
    ⟨some 5, none, .alloc [.t (.int .i64 0), .t (.str []), .nils, .nils, .nils, .nils, .nils]⟩,
    ⟨none, none, .st 7 (.s 5) (.s 11)⟩,
    ⟨some 6, none, .mv (.s 12)⟩] [] [5]) c65_0)
def c65 : ACode :=
  (.seq (.region false [⟨some 2, none, .box 1 (.s 0)⟩,
    ⟨some 4, none, .cst (.t (.int .i64 0))⟩] [] [1, 2]) c65_1)
def r65 : List ARes := [.tmp 4]
def n65 : Nat := 15
/- 66 slices.Contains[[]string,string] -/
def c66_0 : ACode :=
  (.seq (.region false [⟨some 5, none, .mv (.s 0)⟩,
    ⟨some 6, none, .mv (.s 1)⟩,
    ⟨some 7, none, .call 92 [(.s 5), (.s 6)]⟩,
    ⟨some 8, none, .bin .geq (.s 7) (.c (.t (.int .i64 0)))⟩,
    ⟨some 4, none, .mv (.s 8)⟩] [] [4]) .ret)
def c66 : ACode :=
  (.seq (.region false [⟨some 4, none, .cst (.t (.bool false))⟩] [] [0, 1]) c66_0)
def r66 : List ARes := [.tmp 4]
def n66 : Nat := 9
/- 67 supergraph moves.resolves -/
def c67_0 : ACode :=
  (.seq (.region false [⟨some 24, none, .mv (.s 8)⟩,
    ⟨some 25, none, .mv (.s 24)⟩,
    ⟨some 26, some (25, true), .mv (.s 10)⟩,
    ⟨some 27, none, .pick (.s 25) (.s 26) (.c (.t (.bool false)))⟩,
    ⟨some 28, none, .mv (.s 27)⟩,
    ⟨some 29, some (28, true), .fa 0 (.s 7)⟩,
    ⟨some 30, some (28, true), .ld false 1 (.s 29)⟩,
    ⟨some 31, some (28, true), .bin .eql (.s 30) (.c (.t (.int .i64 1)))⟩,
    ⟨some 32, none, .pick (.s 28) (.s 31) (.c (.t (.bool false)))⟩,
    ⟨some 33, none, .mv (.s 32)⟩,
    ⟨some 34, some (33, true), .fa 4 (.s 9)⟩,
    ⟨some 35, some (33, true), .ld false 1 (.s 34)⟩,
    ⟨some 36, some (33, true), .call 21 [(.s 35), (.c (.t (.str [101, 120, 116, 101, 114, 110, 97, 108])))]⟩,
    ⟨some 37, some (33, true), .un .not (.s 36)⟩,
    ⟨some 38, none, .pick (.s 33) (.s 37) (.c (.t (.bool false)))⟩,
    ⟨some 6, none, .mv (.s 38)⟩] [] [6]) .ret)
def c67_1 : ACode :=
  (.seq (.region false [⟨some 19, none, .ld true 7 (.s 7)⟩,
    ⟨some 20, none, .mv (.s 2)⟩,
    ⟨some 21, none, .call 38 [(.s 19), (.s 20)]⟩,
    ⟨some 18, none, .mv (.s 21)⟩,
    ⟨some 22, none, .ext (.s 18) 0⟩,
    ⟨some 23, none, .ext (.s 18) 1⟩,
    ⟨some 9, none, .alloc [.t (.str []), .nils, .t (.str []), .nils, .nils]⟩,
    ⟨none, none, .st 5 (.s 9) (.s 22)⟩,
    ⟨some 10, none, .mv (.s 23)⟩] [] [7, 8, 9, 10]) c67_0)
def c67_2 : ACode :=
  (.seq (.region false [⟨some 12, none, .fa 1 (.s 3)⟩,
    ⟨some 13, none, .ld true 1 (.s 12)⟩,
    ⟨some 14, none, .mv (.s 1)⟩,
    ⟨some 15, none, .call 45 [(.s 13), (.s 14)]⟩,
    ⟨some 11, none, .mv (.s 15)⟩,
    ⟨some 16, none, .ext (.s 11) 0⟩,
    ⟨some 17, none, .ext (.s 11) 1⟩,
    ⟨some 7, none, .alloc [.t (.int .i64 0), .t (.str []), .nils, .nils, .nils, .nils, .nils]⟩,
    ⟨none, none, .st 7 (.s 7) (.s 16)⟩,
    ⟨some 8, none, .mv (.s 17)⟩] [] [2, 7, 8]) c67_1)
def c67 : ACode :=
  (.seq (.region false [⟨some 3, none, .box 2 (.s 0)⟩,
    ⟨some 6, none, .cst (.t (.bool false))⟩] [] [1, 2, 3]) c67_2)
def r67 : List ARes := [.tmp 6]
def n67 : Nat := 39
/- 68 slices.ContainsFunc[[]supergraph api.Field,supergraph api.Field] -/
def c68_0 : ACode :=
  (.seq (.region false [⟨some 5, none, .mv (.s 0)⟩,
    ⟨some 6, none, .mv (.s 1)⟩,
    ⟨some 7, none, .call 93 [(.s 5), (.s 6)]⟩,
    ⟨some 8, none, .bin .geq (.s 7) (.c (.t (.int .i64 0)))⟩,
    ⟨some 4, none, .mv (.s 8)⟩] [] [4]) .ret)
def c68 : ACode :=
  (.seq (.region false [⟨some 4, none, .cst (.t (.bool false))⟩] [] [0, 1]) c68_0)
def r68 : List ARes := [.tmp 4]
def n68 : Nat := 9
/- 69 (*supergraph moves.judge).leant 1 -/
def c69_0 : ACode :=
  (.seq (.region true [⟨some 4, none, .fa 4 (.s 2)⟩,
    ⟨some 5, none, .ld false 1 (.s 4)⟩,
    ⟨some 6, none, .call 22 [(.s 5), (.c (.t (.str [114, 101, 113, 117, 105, 114, 101, 115])))]⟩,
    ⟨some 7, none, .ld false 1 (.s 1)⟩,
    ⟨some 8, none, .call 66 [(.s 6), (.s 7)]⟩,
    ⟨some 3, none, .mv (.s 8)⟩] [[], [0], [1], [], [2, 3, 2], [4, 4, 0, 1, 2, 3, 4]] [3]) .ret)
def c69 : ACode :=
  (.seq (.region false [⟨some 2, none, .box 5 (.s 0)⟩,
    ⟨some 3, none, .cst (.t (.bool false))⟩] [] [1, 2]) c69_0)
def r69 : List ARes := [.tmp 3]
def n69 : Nat := 9
/- 70 slices.ContainsFunc[[][]string,[]string] -/
def c70_0 : ACode :=
  (.seq (.region false [⟨some 5, none, .mv (.s 0)⟩,
    ⟨some 6, none, .mv (.s 1)⟩,
    ⟨some 7, none, .call 94 [(.s 5), (.s 6)]⟩,
    ⟨some 8, none, .bin .geq (.s 7) (.c (.t (.int .i64 0)))⟩,
    ⟨some 4, none, .mv (.s 8)⟩] [] [4]) .ret)
def c70 : ACode :=
  (.seq (.region false [⟨some 4, none, .cst (.t (.bool false))⟩] [] [0, 1]) c70_0)
def r70 : List ARes := [.tmp 4]
def n70 : Nat := 9
/- 71 supergraph moves.isKey 1 -/
def c71_0 : ACode :=
  (.seq (.region false [⟨some 4, none, .mv (.s 0)⟩,
    ⟨some 5, none, .ld false 1 (.s 1)⟩,
    ⟨some 6, none, .call 66 [(.s 4), (.s 5)]⟩,
    ⟨some 3, none, .mv (.s 6)⟩] [] [3]) .ret)
def c71 : ACode :=
  (.seq (.region false [⟨some 3, none, .cst (.t (.bool false))⟩] [] [0, 1]) c71_0)
def r71 : List ARes := [.tmp 3]
def n71 : Nat := 7
/- 72 supergraph directives.argument -/
def c72_0 : ACode :=
  (.seq (.region false [⟨some 22, none, .build [.t (.int .i64 0), .t (.int .i64 0), .t (.str []), .nils, .nils] []⟩,
    ⟨none, none, .st 5 (.s 4) (.s 22)⟩,
    ⟨some 5, none, .cst (.t (.bool false))⟩] [] [4, 5]) .ret)
def c72_1 : ACode :=
  (.region false [⟨some 21, none, .bin .add (.s 11) (.c (.t (.int .i64 1)))⟩,
    ⟨some 11, none, .mv (.s 21)⟩] [] [1, 4, 9, 10, 11])
def c72_2 : ACode :=
  (.seq (.region false [⟨some 19, none, .fa 1 (.s 7)⟩,
    ⟨some 20, none, .ld true 5 (.s 19)⟩,
    ⟨none, none, .st 5 (.s 4) (.s 20)⟩,
    ⟨some 5, none, .cst (.t (.bool true))⟩] [] [4, 5]) .ret)
def c72_3 : ACode :=
  (.cond (.s 18) c72_2 .skip)
def c72_4 : ACode :=
  (.seq (.region false [⟨some 15, none, .fa 0 (.s 7)⟩,
    ⟨some 16, none, .ld false 1 (.s 15)⟩,
    ⟨some 17, none, .mv (.s 1)⟩,
    ⟨some 18, none, .bin .eql (.s 16) (.s 17)⟩] [] [1, 4, 7, 9, 10, 11, 18]) c72_3)
def c72_5 : ACode :=
  (.seq (.region false [⟨some 13, none, .ia 6 (.s 9) (.s 11)⟩,
    ⟨some 14, none, .ld true 6 (.s 13)⟩,
    ⟨some 7, none, .alloc [.t (.str []), .t (.int .i64 0), .t (.int .i64 0), .t (.str []), .nils, .nils]⟩,
    ⟨none, none, .st 6 (.s 7) (.s 14)⟩] [] [1, 4, 7, 9, 10, 11]) c72_4)
def c72_6 : ACode :=
  (.seq (.block 1 c72_5) c72_1)
def c72_7 : ACode :=
  (.seq (.cond (.s 12) .skip (.exit 0)) c72_6)
def c72_8 : ACode :=
  (.seq (.region false [⟨some 12, none, .bin .lss (.s 11) (.s 10)⟩] [] [1, 4, 9, 10, 11, 12]) c72_7)
def c72_9 : ACode :=
  (.loop c72_8)
def c72_10 : ACode :=
  (.block 0 c72_9)
def c72_11 : ACode :=
  (.seq (.seq (.region false [⟨some 8, none, .fa 1 (.s 2)⟩,
    ⟨some 9, none, .ld false 1 (.s 8)⟩,
    ⟨some 10, none, .len (.s 9)⟩,
    ⟨some 11, none, .cst (.t (.int .i64 0))⟩] [] [1, 4, 9, 10, 11]) c72_10) c72_0)
def c72 : ACode :=
  (.seq (.region false [⟨some 2, none, .box 2 (.s 0)⟩,
    ⟨some 4, none, .alloc [.t (.int .i64 0), .t (.int .i64 0), .t (.str []), .nils, .nils]⟩,
    ⟨some 5, none, .cst (.t (.bool false))⟩] [] [1, 2, 4]) c72_11)
def r72 : List ARes := [.cell 4 true 5, .tmp 5]
def n72 : Nat := 23
/- 73 strings.Split -/
def c73_0 : ACode :=
  (.seq (.region false [⟨some 5, none, .mv (.s 0)⟩,
    ⟨some 6, none, .mv (.s 1)⟩,
    ⟨some 7, none, .call 95 [(.s 5), (.s 6), (.c (.t (.int .i64 0))), (.c (.t (.int .i64 (-1))))]⟩,
    ⟨some 4, none, .mv (.s 7)⟩] [] [4]) .ret)
def c73 : ACode :=
  (.seq (.region false [⟨some 4, none, .cst (.nils)⟩] [] [0, 1]) c73_0)
def r73 : List ARes := [.tmp 4]
def n73 : Nat := 8
/- 74 supergraph text.Name -/
def c74_0 : ACode :=
  (.seq (.region false [⟨some 2, none, .cst (.t (.bool true))⟩] [] [2]) .ret)
def c74_1 : ACode :=
  (.region false [⟨some 57, none, .bin .add (.s 24) (.c (.t (.int .i64 1)))⟩,
    ⟨some 24, none, .mv (.s 57)⟩] [] [0, 23, 24])
def c74_2 : ACode :=
  (.seq (.region false [⟨some 2, none, .cst (.t (.bool false))⟩] [] [2]) .ret)
def c74_3 : ACode :=
  (.cond (.s 56) c74_2 .skip)
def c74_4 : ACode :=
  (.seq (.region false [⟨some 30, none, .mv (.s 4)⟩,
    ⟨some 31, none, .bin .geq (.s 30) (.c (.t (.int .u8 97)))⟩,
    ⟨some 32, none, .mv (.s 31)⟩,
    ⟨some 33, some (32, true), .mv (.s 4)⟩,
    ⟨some 34, some (32, true), .bin .leq (.s 33) (.c (.t (.int .u8 122)))⟩,
    ⟨some 35, none, .pick (.s 32) (.s 34) (.c (.t (.bool false)))⟩,
    ⟨some 36, none, .mv (.s 35)⟩,
    ⟨some 37, some (36, false), .mv (.s 4)⟩,
    ⟨some 38, some (36, false), .bin .geq (.s 37) (.c (.t (.int .u8 65)))⟩,
    ⟨some 39, some (36, false), .mv (.s 38)⟩,
    ⟨some 40, some (39, true), .mv (.s 4)⟩,
    ⟨some 41, some (39, true), .bin .leq (.s 40) (.c (.t (.int .u8 90)))⟩,
    ⟨some 42, some (36, false), .pick (.s 39) (.s 41) (.c (.t (.bool false)))⟩,
    ⟨some 43, none, .pick (.s 36) (.c (.t (.bool true))) (.s 42)⟩,
    ⟨some 44, none, .mv (.s 43)⟩,
    ⟨some 45, some (44, false), .mv (.s 4)⟩,
    ⟨some 46, some (44, false), .bin .geq (.s 45) (.c (.t (.int .u8 48)))⟩,
    ⟨some 47, some (44, false), .mv (.s 46)⟩,
    ⟨some 48, some (47, true), .mv (.s 4)⟩,
    ⟨some 49, some (47, true), .bin .leq (.s 48) (.c (.t (.int .u8 57)))⟩,
    ⟨some 50, some (44, false), .pick (.s 47) (.s 49) (.c (.t (.bool false)))⟩,
    ⟨some 51, none, .pick (.s 44) (.c (.t (.bool true))) (.s 50)⟩,
    ⟨some 52, none, .mv (.s 51)⟩,
    ⟨some 53, some (52, false), .mv (.s 4)⟩,
    ⟨some 54, some (52, false), .bin .eql (.s 53) (.c (.t (.int .u8 95)))⟩,
    ⟨some 55, none, .pick (.s 52) (.c (.t (.bool true))) (.s 54)⟩,
    ⟨some 56, none, .un .not (.s 55)⟩] [] [0, 23, 24, 56]) c74_3)
def c74_5 : ACode :=
  (.seq (.region false [⟨some 27, none, .mv (.s 0)⟩,
    ⟨some 28, none, .mv (.s 3)⟩,
    ⟨some 29, none, .ixs (.s 27) (.s 28)⟩,
    ⟨some 4, none, .mv (.s 29)⟩] [] [0, 4, 23, 24]) c74_4)
def c74_6 : ACode :=
  (.seq (.region false [⟨some 26, none, .mv (.s 24)⟩,
    ⟨some 3, none, .mv (.s 26)⟩] [] [0, 3, 23, 24]) c74_5)
def c74_7 : ACode :=
  (.seq (.block 1 c74_6) c74_1)
def c74_8 : ACode :=
  (.seq (.cond (.s 25) .skip (.exit 0)) c74_7)
def c74_9 : ACode :=
  (.seq (.region false [⟨some 25, none, .bin .lss (.s 24) (.s 23)⟩] [] [0, 23, 24, 25]) c74_8)
def c74_10 : ACode :=
  (.loop c74_9)
def c74_11 : ACode :=
  (.block 0 c74_10)
def c74_12 : ACode :=
  (.seq (.seq (.region false [⟨some 22, none, .mv (.s 0)⟩,
    ⟨some 23, none, .lens (.s 22)⟩,
    ⟨some 24, none, .cst (.t (.int .i64 0))⟩] [] [0, 23, 24]) c74_11) c74_0)
def c74_13 : ACode :=
  (.seq (.region false [⟨some 2, none, .cst (.t (.bool false))⟩] [] [2]) .ret)
def c74_14 : ACode :=
  (.cond (.s 21) c74_13 .skip)
def c74_15 : ACode :=
  (.seq (.seq (.region false [⟨some 5, none, .mv (.s 0)⟩,
    ⟨some 6, none, .bin .eql (.s 5) (.c (.t (.str [])))⟩,
    ⟨some 7, none, .mv (.s 6)⟩,
    ⟨some 8, some (7, false), .mv (.s 0)⟩,
    ⟨some 9, some (7, false), .lens (.s 8)⟩,
    ⟨some 10, some (7, false), .bin .gtr (.s 9) (.c (.t (.int .i64 64)))⟩,
    ⟨some 11, none, .pick (.s 7) (.c (.t (.bool true))) (.s 10)⟩,
    ⟨some 12, none, .mv (.s 11)⟩,
    ⟨some 13, some (12, false), .mv (.s 0)⟩,
    ⟨some 14, some (12, false), .ixs (.s 13) (.c (.t (.int .i64 0)))⟩,
    ⟨some 15, some (12, false), .bin .geq (.s 14) (.c (.t (.int .u8 48)))⟩,
    ⟨some 16, some (12, false), .mv (.s 15)⟩,
    ⟨some 17, some (16, true), .mv (.s 0)⟩,
    ⟨some 18, some (16, true), .ixs (.s 17) (.c (.t (.int .i64 0)))⟩,
    ⟨some 19, some (16, true), .bin .leq (.s 18) (.c (.t (.int .u8 57)))⟩,
    ⟨some 20, some (12, false), .pick (.s 16) (.s 19) (.c (.t (.bool false)))⟩,
    ⟨some 21, none, .pick (.s 12) (.c (.t (.bool true))) (.s 20)⟩] [] [0, 21]) c74_14) c74_12)
def c74 : ACode :=
  (.seq (.region false [⟨some 2, none, .cst (.t (.bool false))⟩] [] [0]) c74_15)
def r74 : List ARes := [.tmp 2]
def n74 : Nat := 58
/- 75 supergraph text.Reserved -/
def c75_0 : ACode :=
  (.seq (.region false [⟨some 3, none, .mv (.s 0)⟩,
    ⟨some 4, none, .call 96 [(.s 3), (.c (.t (.str [95, 95])))]⟩,
    ⟨some 2, none, .mv (.s 4)⟩] [] [2]) .ret)
def c75 : ACode :=
  (.seq (.region false [⟨some 2, none, .cst (.t (.bool false))⟩] [] [0]) c75_0)
def r75 : List ARes := [.tmp 2]
def n75 : Nat := 5
/- 76 supergraph supergraphref25.root -/
def c76_0 : ACode :=
  (.seq (.region false [⟨some 3, none, .mv (.s 0)⟩,
    ⟨some 4, none, .bin .eql (.s 3) (.c (.t (.str [81, 117, 101, 114, 121])))⟩,
    ⟨some 5, none, .mv (.s 4)⟩,
    ⟨some 6, some (5, false), .mv (.s 0)⟩,
    ⟨some 7, some (5, false), .bin .eql (.s 6) (.c (.t (.str [77, 117, 116, 97, 116, 105, 111, 110])))⟩,
    ⟨some 8, none, .pick (.s 5) (.c (.t (.bool true))) (.s 7)⟩,
    ⟨some 9, none, .mv (.s 8)⟩,
    ⟨some 10, some (9, false), .mv (.s 0)⟩,
    ⟨some 11, some (9, false), .bin .eql (.s 10) (.c (.t (.str [83, 117, 98, 115, 99, 114, 105, 112, 116, 105, 111, 110])))⟩,
    ⟨some 12, none, .pick (.s 9) (.c (.t (.bool true))) (.s 11)⟩,
    ⟨some 2, none, .mv (.s 12)⟩] [] [2]) .ret)
def c76 : ACode :=
  (.seq (.region false [⟨some 2, none, .cst (.t (.bool false))⟩] [] [0]) c76_0)
def r76 : List ARes := [.tmp 2]
def n76 : Nat := 13
/- 77 supergraph supergraphref10.Leaf -/
def c77_0 : ACode :=
  (.seq (.region false [⟨some 13, none, .mv (.s 1)⟩,
    ⟨some 14, none, .call 54 [(.s 13)]⟩,
    ⟨some 15, none, .mv (.s 14)⟩,
    ⟨some 16, some (15, false), .mv (.s 6)⟩,
    ⟨some 17, some (15, false), .mv (.s 16)⟩,
    ⟨some 18, some (17, true), .fa 0 (.s 5)⟩,
    ⟨some 19, some (17, true), .ld false 1 (.s 18)⟩,
    ⟨some 20, some (17, true), .bin .eql (.s 19) (.c (.t (.int .i64 4)))⟩,
    ⟨some 21, some (15, false), .pick (.s 17) (.s 20) (.c (.t (.bool false)))⟩,
    ⟨some 22, none, .pick (.s 15) (.c (.t (.bool true))) (.s 21)⟩,
    ⟨some 4, none, .mv (.s 22)⟩] [] [4]) .ret)
def c77_1 : ACode :=
  (.seq (.region false [⟨some 8, none, .ld true 1 (.s 2)⟩,
    ⟨some 9, none, .mv (.s 1)⟩,
    ⟨some 10, none, .call 33 [(.s 8), (.s 9)]⟩,
    ⟨some 7, none, .mv (.s 10)⟩,
    ⟨some 11, none, .ext (.s 7) 0⟩,
    ⟨some 12, none, .ext (.s 7) 1⟩,
    ⟨some 5, none, .alloc [.t (.int .i64 0), .t (.str []), .nils, .nils, .nils, .nils, .nils]⟩,
    ⟨none, none, .st 7 (.s 5) (.s 11)⟩,
    ⟨some 6, none, .mv (.s 12)⟩] [] [1, 5, 6]) c77_0)
def c77 : ACode :=
  (.seq (.region false [⟨some 2, none, .box 1 (.s 0)⟩,
    ⟨some 4, none, .cst (.t (.bool false))⟩] [] [1, 2]) c77_1)
def r77 : List ARes := [.tmp 4]
def n77 : Nat := 23
/- 78 supergraph supergraphref25.mentioned -/
def c78_0 : ACode :=
  (.seq (.region false [⟨some 6, none, .cst (.t (.bool false))⟩] [] [6]) .ret)
def c78_1 : ACode :=
  (.region false [⟨some 35, none, .mv (.s 8)⟩,
    ⟨some 36, none, .bin .add (.s 35) (.c (.t (.int .i64 1)))⟩,
    ⟨some 8, none, .mv (.s 36)⟩] [] [2, 3, 4, 8])
def c78_2 : ACode :=
  (.region false [⟨some 55, none, .mv (.s 9)⟩,
    ⟨some 56, none, .bin .add (.s 55) (.c (.t (.int .i64 1)))⟩,
    ⟨some 9, none, .mv (.s 56)⟩] [] [2, 3, 4, 8, 9])
def c78_3 : ACode :=
  (.seq (.region false [⟨some 6, none, .cst (.t (.bool true))⟩] [] [6]) .ret)
def c78_4 : ACode :=
  (.cond (.s 78) c78_3 .skip)
def c78_5 : ACode :=
  (.seq (.region false [⟨some 66, none, .fa 2 (.s 10)⟩,
    ⟨some 67, none, .fa 0 (.s 66)⟩,
    ⟨some 68, none, .ld false 1 (.s 67)⟩,
    ⟨some 69, none, .fa 1 (.s 4)⟩,
    ⟨some 70, none, .ld false 1 (.s 69)⟩,
    ⟨some 71, none, .bin .eql (.s 68) (.s 70)⟩,
    ⟨some 72, none, .mv (.s 71)⟩,
    ⟨some 73, some (72, true), .fa 4 (.s 10)⟩,
    ⟨some 74, some (72, true), .ld false 1 (.s 73)⟩,
    ⟨some 75, some (72, true), .call 26 [(.s 74), (.c (.t (.str [112, 114, 111, 118, 105, 100, 101, 115])))]⟩,
    ⟨some 76, some (72, true), .mv (.s 2)⟩,
    ⟨some 77, some (72, true), .call 97 [(.s 75), (.s 76)]⟩,
    ⟨some 78, none, .pick (.s 72) (.s 77) (.c (.t (.bool false)))⟩] [] [2, 3, 4, 8, 9, 78]) c78_4)
def c78_6 : ACode :=
  (.seq (.region false [⟨some 57, none, .fa 0 (.s 3)⟩,
    ⟨some 58, none, .ld false 1 (.s 57)⟩,
    ⟨some 59, none, .mv (.s 8)⟩,
    ⟨some 60, none, .ia 7 (.s 58) (.s 59)⟩,
    ⟨some 61, none, .fa 4 (.s 60)⟩,
    ⟨some 62, none, .ld false 1 (.s 61)⟩,
    ⟨some 63, none, .mv (.s 9)⟩,
    ⟨some 64, none, .ia 5 (.s 62) (.s 63)⟩,
    ⟨some 65, none, .ld true 5 (.s 64)⟩,
    ⟨some 10, none, .alloc [.t (.str []), .nils, .t (.str []), .nils, .nils]⟩,
    ⟨none, none, .st 5 (.s 10) (.s 65)⟩] [] [2, 3, 4, 8, 9, 10]) c78_5)
def c78_7 : ACode :=
  (.seq (.block 5 c78_6) c78_2)
def c78_8 : ACode :=
  (.cond (.s 54) .skip (.exit 4))
def c78_9 : ACode :=
  (.seq (.seq (.region false [⟨some 37, none, .mv (.s 9)⟩,
    ⟨some 38, none, .fa 0 (.s 3)⟩,
    ⟨some 39, none, .ld false 1 (.s 38)⟩,
    ⟨some 40, none, .mv (.s 8)⟩,
    ⟨some 41, none, .ia 7 (.s 39) (.s 40)⟩,
    ⟨some 42, none, .fa 4 (.s 41)⟩,
    ⟨some 43, none, .ld false 1 (.s 42)⟩,
    ⟨some 44, none, .len (.s 43)⟩,
    ⟨some 45, none, .bin .lss (.s 37) (.s 44)⟩,
    ⟨some 46, none, .mv (.s 45)⟩,
    ⟨some 47, some (46, true), .fa 0 (.s 3)⟩,
    ⟨some 48, some (46, true), .ld false 1 (.s 47)⟩,
    ⟨some 49, some (46, true), .mv (.s 8)⟩,
    ⟨some 50, some (46, true), .ia 7 (.s 48) (.s 49)⟩,
    ⟨some 51, some (46, true), .fa 0 (.s 50)⟩,
    ⟨some 52, some (46, true), .ld false 1 (.s 51)⟩,
    ⟨some 53, some (46, true), .bin .eql (.s 52) (.c (.t (.int .i64 1)))⟩,
    ⟨some 54, none, .pick (.s 46) (.s 53) (.c (.t (.bool false)))⟩] [] [2, 3, 4, 8, 9, 54]) c78_8) c78_7)
def c78_10 : ACode :=
  (.loop c78_9)
def c78_11 : ACode :=
  (.block 4 c78_10)
def c78_12 : ACode :=
  (.seq (.region false [⟨some 9, none, .cst (.t (.int .i64 0))⟩] [] [2, 3, 4, 8, 9]) c78_11)
def c78_13 : ACode :=
  (.seq (.block 3 c78_12) c78_1)
def c78_14 : ACode :=
  (.cond (.s 34) .skip (.exit 2))
def c78_15 : ACode :=
  (.seq (.seq (.region false [⟨some 30, none, .mv (.s 8)⟩,
    ⟨some 31, none, .fa 0 (.s 3)⟩,
    ⟨some 32, none, .ld false 1 (.s 31)⟩,
    ⟨some 33, none, .len (.s 32)⟩,
    ⟨some 34, none, .bin .lss (.s 30) (.s 33)⟩] [] [2, 3, 4, 8, 34]) c78_14) c78_13)
def c78_16 : ACode :=
  (.loop c78_15)
def c78_17 : ACode :=
  (.block 2 c78_16)
def c78_18 : ACode :=
  (.seq (.seq (.region false [⟨some 8, none, .cst (.t (.int .i64 0))⟩] [] [2, 3, 4, 8]) c78_17) c78_0)
def c78_19 : ACode :=
  (.region false [⟨some 19, none, .mv (.s 7)⟩,
    ⟨some 20, none, .bin .add (.s 19) (.c (.t (.int .i64 1)))⟩,
    ⟨some 7, none, .mv (.s 20)⟩] [] [2, 3, 4, 7])
def c78_20 : ACode :=
  (.seq (.region false [⟨some 6, none, .cst (.t (.bool true))⟩] [] [6]) .ret)
def c78_21 : ACode :=
  (.cond (.s 29) c78_20 .skip)
def c78_22 : ACode :=
  (.seq (.region false [⟨some 21, none, .fa 4 (.s 4)⟩,
    ⟨some 22, none, .ld false 1 (.s 21)⟩,
    ⟨some 23, none, .mv (.s 7)⟩,
    ⟨some 24, none, .ia 5 (.s 22) (.s 23)⟩,
    ⟨some 25, none, .fa 4 (.s 24)⟩,
    ⟨some 26, none, .ld false 1 (.s 25)⟩,
    ⟨some 27, none, .call 26 [(.s 26), (.c (.t (.str [114, 101, 113, 117, 105, 114, 101, 115])))]⟩,
    ⟨some 28, none, .mv (.s 2)⟩,
    ⟨some 29, none, .call 97 [(.s 27), (.s 28)]⟩] [] [2, 3, 4, 7, 29]) c78_21)
def c78_23 : ACode :=
  (.seq (.block 1 c78_22) c78_19)
def c78_24 : ACode :=
  (.cond (.s 18) .skip (.exit 0))
def c78_25 : ACode :=
  (.seq (.seq (.region false [⟨some 14, none, .mv (.s 7)⟩,
    ⟨some 15, none, .fa 4 (.s 4)⟩,
    ⟨some 16, none, .ld false 1 (.s 15)⟩,
    ⟨some 17, none, .len (.s 16)⟩,
    ⟨some 18, none, .bin .lss (.s 14) (.s 17)⟩] [] [2, 3, 4, 7, 18]) c78_24) c78_23)
def c78_26 : ACode :=
  (.loop c78_25)
def c78_27 : ACode :=
  (.block 0 c78_26)
def c78_28 : ACode :=
  (.seq (.seq (.region false [⟨some 7, none, .cst (.t (.int .i64 0))⟩] [] [2, 3, 4, 7]) c78_27) c78_18)
def c78_29 : ACode :=
  (.seq (.region false [⟨some 6, none, .cst (.t (.bool true))⟩] [] [6]) .ret)
def c78_30 : ACode :=
  (.cond (.s 13) c78_29 .skip)
def c78_31 : ACode :=
  (.seq (.seq (.region false [⟨some 11, none, .ld true 7 (.s 4)⟩,
    ⟨some 12, none, .mv (.s 2)⟩,
    ⟨some 13, none, .call 83 [(.s 11), (.s 12)]⟩] [] [2, 3, 4, 13]) c78_30) c78_28)
def c78 : ACode :=
  (.seq (.region false [⟨some 3, none, .box 1 (.s 0)⟩,
    ⟨some 4, none, .box 7 (.s 1)⟩,
    ⟨some 6, none, .cst (.t (.bool false))⟩] [] [2, 3, 4]) c78_31)
def r78 : List ARes := [.tmp 6]
def n78 : Nat := 79
/- 79 supergraph supergraphref25.elsewhere -/
def c79_0 : ACode :=
  (.seq (.region false [⟨some 8, none, .cst (.t (.bool false))⟩] [] [8]) .ret)
def c79_1 : ACode :=
  (.region false [⟨some 14, none, .mv (.s 9)⟩,
    ⟨some 15, none, .bin .add (.s 14) (.c (.t (.int .i64 1)))⟩,
    ⟨some 9, none, .mv (.s 15)⟩] [] [0, 1, 2, 3, 9])
def c79_2 : ACode :=
  (.seq (.region false [⟨some 8, none, .cst (.t (.bool true))⟩] [] [8]) .ret)
def c79_3 : ACode :=
  (.cond (.s 27) c79_2 .skip)
def c79_4 : ACode :=
  (.seq (.region false [⟨some 16, none, .mv (.s 9)⟩,
    ⟨some 17, none, .mv (.s 1)⟩,
    ⟨some 18, none, .bin .neq (.s 16) (.s 17)⟩,
    ⟨some 19, none, .mv (.s 18)⟩,
    ⟨some 20, some (19, true), .mv (.s 0)⟩,
    ⟨some 21, some (19, true), .mv (.s 9)⟩,
    ⟨some 22, some (19, true), .ia 2 (.s 20) (.s 21)⟩,
    ⟨some 23, some (19, true), .ld true 2 (.s 22)⟩,
    ⟨some 24, some (19, true), .mv (.s 2)⟩,
    ⟨some 25, some (19, true), .mv (.s 3)⟩,
    ⟨some 26, some (19, true), .call 98 [(.s 23), (.s 24), (.s 25)]⟩,
    ⟨some 27, none, .pick (.s 19) (.s 26) (.c (.t (.bool false)))⟩] [] [0, 1, 2, 3, 9, 27]) c79_3)
def c79_5 : ACode :=
  (.seq (.block 1 c79_4) c79_1)
def c79_6 : ACode :=
  (.cond (.s 13) .skip (.exit 0))
def c79_7 : ACode :=
  (.seq (.seq (.region false [⟨some 10, none, .mv (.s 9)⟩,
    ⟨some 11, none, .mv (.s 0)⟩,
    ⟨some 12, none, .len (.s 11)⟩,
    ⟨some 13, none, .bin .lss (.s 10) (.s 12)⟩] [] [0, 1, 2, 3, 9, 13]) c79_6) c79_5)
def c79_8 : ACode :=
  (.loop c79_7)
def c79_9 : ACode :=
  (.block 0 c79_8)
def c79_10 : ACode :=
  (.seq (.seq (.region false [⟨some 9, none, .cst (.t (.int .i64 0))⟩] [] [0, 1, 2, 3, 9]) c79_9) c79_0)
def c79 : ACode :=
  (.seq (.region false [⟨some 8, none, .cst (.t (.bool false))⟩] [] [0, 1, 2, 3]) c79_10)
def r79 : List ARes := [.tmp 8]
def n79 : Nat := 28
/- 80 supergraph supergraphref25.outside -/
def c80_0 : ACode :=
  (.seq (.region false [⟨some 47, none, .mv (.s 2)⟩,
    ⟨some 48, none, .len (.s 47)⟩,
    ⟨some 49, none, .bin .gtr (.s 48) (.c (.t (.int .i64 0)))⟩,
    ⟨some 6, none, .mv (.s 49)⟩] [] [6]) .ret)
def c80_1 : ACode :=
  (.region false [⟨some 14, none, .mv (.s 7)⟩,
    ⟨some 15, none, .bin .add (.s 14) (.c (.t (.int .i64 1)))⟩,
    ⟨some 7, none, .mv (.s 15)⟩] [] [2, 3, 4, 7])
def c80_2 : ACode :=
  (.seq (.region false [⟨some 6, none, .cst (.t (.bool false))⟩] [] [6]) .ret)
def c80_3 : ACode :=
  (.cond (.s 46) c80_2 .skip)
def c80_4 : ACode :=
  (.seq (.region false [⟨some 25, none, .mv (.s 9)⟩,
    ⟨some 26, none, .un .not (.s 25)⟩,
    ⟨some 27, none, .mv (.s 26)⟩,
    ⟨some 28, some (27, false), .fa 4 (.s 8)⟩,
    ⟨some 29, some (27, false), .ld false 1 (.s 28)⟩,
    ⟨some 30, some (27, false), .call 25 [(.s 29), (.c (.t (.str [101, 120, 116, 101, 114, 110, 97, 108])))]⟩,
    ⟨some 31, some (27, false), .un .not (.s 30)⟩,
    ⟨some 32, none, .pick (.s 27) (.c (.t (.bool true))) (.s 31)⟩,
    ⟨some 33, none, .mv (.s 32)⟩,
    ⟨some 34, some (33, false), .fa 1 (.s 8)⟩,
    ⟨some 35, some (33, false), .ld false 1 (.s 34)⟩,
    ⟨some 36, some (33, false), .len (.s 35)⟩,
    ⟨some 37, some (33, false), .bin .gtr (.s 36) (.c (.t (.int .i64 0)))⟩,
    ⟨some 38, none, .pick (.s 33) (.c (.t (.bool true))) (.s 37)⟩,
    ⟨some 39, none, .mv (.s 38)⟩,
    ⟨some 40, some (39, false), .ld true 1 (.s 3)⟩,
    ⟨some 41, some (39, false), .fa 2 (.s 8)⟩,
    ⟨some 42, some (39, false), .fa 0 (.s 41)⟩,
    ⟨some 43, some (39, false), .ld false 1 (.s 42)⟩,
    ⟨some 44, some (39, false), .call 77 [(.s 40), (.s 43)]⟩,
    ⟨some 45, some (39, false), .un .not (.s 44)⟩,
    ⟨some 46, none, .pick (.s 39) (.c (.t (.bool true))) (.s 45)⟩] [] [2, 3, 4, 7, 46]) c80_3)
def c80_5 : ACode :=
  (.seq (.region true [⟨some 17, none, .ld true 7 (.s 4)⟩,
    ⟨some 18, none, .mv (.s 2)⟩,
    ⟨some 19, none, .mv (.s 7)⟩,
    ⟨some 20, none, .ia 1 (.s 18) (.s 19)⟩,
    ⟨some 21, none, .ld false 1 (.s 20)⟩,
    ⟨some 22, none, .call 58 [(.s 17), (.s 21)]⟩,
    ⟨some 16, none, .mv (.s 22)⟩,
    ⟨some 23, none, .ext (.s 16) 0⟩,
    ⟨some 24, none, .ext (.s 16) 1⟩,
    ⟨some 8, none, .alloc [.t (.str []), .nils, .t (.str []), .nils, .nils]⟩,
    ⟨none, none, .st 5 (.s 8) (.s 23)⟩,
    ⟨some 9, none, .mv (.s 24)⟩] [[], [], [], [1, 2], [3], [0, 4], [5], [6], [6], [], [9, 7, 5, 0, 1, 2, 3, 4, 5, 6, 7, 9], [8, 10, 0, 1, 2, 3, 4, 5, 6, 7, 8, 9, 10]] [2, 3, 4, 7, 8, 9]) c80_4)
def c80_6 : ACode :=
  (.seq (.block 1 c80_5) c80_1)
def c80_7 : ACode :=
  (.cond (.s 13) .skip (.exit 0))
def c80_8 : ACode :=
  (.seq (.seq (.region false [⟨some 10, none, .mv (.s 7)⟩,
    ⟨some 11, none, .mv (.s 2)⟩,
    ⟨some 12, none, .len (.s 11)⟩,
    ⟨some 13, none, .bin .lss (.s 10) (.s 12)⟩] [] [2, 3, 4, 7, 13]) c80_7) c80_6)
def c80_9 : ACode :=
  (.loop c80_8)
def c80_10 : ACode :=
  (.block 0 c80_9)
def c80_11 : ACode :=
  (.seq (.seq (.region false [⟨some 7, none, .cst (.t (.int .i64 0))⟩] [] [2, 3, 4, 7]) c80_10) c80_0)
def c80 : ACode :=
  (.seq (.region false [⟨some 3, none, .box 1 (.s 0)⟩,
    ⟨some 4, none, .box 7 (.s 1)⟩,
    ⟨some 6, none, .cst (.t (.bool false))⟩] [] [2, 3, 4]) c80_11)
def r80 : List ARes := [.tmp 6]
def n80 : Nat := 50
/- 81 supergraph supergraphref25.asked -/
def c81_0 : ACode :=
  (.seq (.region false [⟨some 6, none, .cst (.t (.bool false))⟩] [] [6]) .ret)
def c81_1 : ACode :=
  (.region false [⟨some 15, none, .mv (.s 7)⟩,
    ⟨some 16, none, .bin .add (.s 15) (.c (.t (.int .i64 1)))⟩,
    ⟨some 7, none, .mv (.s 16)⟩] [] [0, 1, 2, 7])
def c81_2 : ACode :=
  (.region false [⟨some 35, none, .mv (.s 10)⟩,
    ⟨some 36, none, .bin .add (.s 35) (.c (.t (.int .i64 1)))⟩,
    ⟨some 10, none, .mv (.s 36)⟩] [] [0, 1, 2, 7, 8, 10])
def c81_3 : ACode :=
  (.seq (.region false [⟨some 6, none, .cst (.t (.bool true))⟩] [] [6]) .ret)
def c81_4 : ACode :=
  (.cond (.s 45) c81_3 .skip)
def c81_5 : ACode :=
  (.seq (.region false [⟨some 37, none, .fa 4 (.s 8)⟩,
    ⟨some 38, none, .ld false 1 (.s 37)⟩,
    ⟨some 39, none, .mv (.s 10)⟩,
    ⟨some 40, none, .ia 5 (.s 38) (.s 39)⟩,
    ⟨some 41, none, .fa 4 (.s 40)⟩,
    ⟨some 42, none, .ld false 1 (.s 41)⟩,
    ⟨some 43, none, .call 26 [(.s 42), (.c (.t (.str [114, 101, 113, 117, 105, 114, 101, 115])))]⟩,
    ⟨some 44, none, .mv (.s 2)⟩,
    ⟨some 45, none, .call 97 [(.s 43), (.s 44)]⟩] [] [0, 1, 2, 7, 8, 10, 45]) c81_4)
def c81_6 : ACode :=
  (.seq (.block 3 c81_5) c81_2)
def c81_7 : ACode :=
  (.cond (.s 34) .skip (.exit 2))
def c81_8 : ACode :=
  (.seq (.seq (.region false [⟨some 30, none, .mv (.s 10)⟩,
    ⟨some 31, none, .fa 4 (.s 8)⟩,
    ⟨some 32, none, .ld false 1 (.s 31)⟩,
    ⟨some 33, none, .len (.s 32)⟩,
    ⟨some 34, none, .bin .lss (.s 30) (.s 33)⟩] [] [0, 1, 2, 7, 8, 10, 34]) c81_7) c81_6)
def c81_9 : ACode :=
  (.loop c81_8)
def c81_10 : ACode :=
  (.block 2 c81_9)
def c81_11 : ACode :=
  (.seq (.region false [⟨some 10, none, .cst (.t (.int .i64 0))⟩] [] [0, 1, 2, 7, 8, 10]) c81_10)
def c81_12 : ACode :=
  (.seq (.region false [⟨some 6, none, .cst (.t (.bool true))⟩] [] [6]) .ret)
def c81_13 : ACode :=
  (.cond (.s 29) c81_12 .skip)
def c81_14 : ACode :=
  (.seq (.seq (.region false [⟨some 27, none, .ld true 7 (.s 8)⟩,
    ⟨some 28, none, .mv (.s 2)⟩,
    ⟨some 29, none, .call 83 [(.s 27), (.s 28)]⟩] [] [0, 1, 2, 7, 8, 29]) c81_13) c81_11)
def c81_15 : ACode :=
  (.seq (.region false [⟨some 18, none, .mv (.s 0)⟩,
    ⟨some 19, none, .mv (.s 7)⟩,
    ⟨some 20, none, .ia 2 (.s 18) (.s 19)⟩,
    ⟨some 21, none, .fa 1 (.s 20)⟩,
    ⟨some 22, none, .ld true 1 (.s 21)⟩,
    ⟨some 23, none, .mv (.s 1)⟩,
    ⟨some 24, none, .call 99 [(.s 22), (.s 23)]⟩,
    ⟨some 17, none, .mv (.s 24)⟩,
    ⟨some 25, none, .ext (.s 17) 0⟩,
    ⟨some 26, none, .ext (.s 17) 1⟩,
    ⟨some 8, none, .alloc [.t (.int .i64 0), .t (.str []), .nils, .nils, .nils, .nils, .nils]⟩,
    ⟨none, none, .st 7 (.s 8) (.s 25)⟩,
    ⟨some 9, none, .mv (.s 26)⟩] [] [0, 1, 2, 7, 8]) c81_14)
def c81_16 : ACode :=
  (.seq (.block 1 c81_15) c81_1)
def c81_17 : ACode :=
  (.cond (.s 14) .skip (.exit 0))
def c81_18 : ACode :=
  (.seq (.seq (.region false [⟨some 11, none, .mv (.s 7)⟩,
    ⟨some 12, none, .mv (.s 0)⟩,
    ⟨some 13, none, .len (.s 12)⟩,
    ⟨some 14, none, .bin .lss (.s 11) (.s 13)⟩] [] [0, 1, 2, 7, 14]) c81_17) c81_16)
def c81_19 : ACode :=
  (.loop c81_18)
def c81_20 : ACode :=
  (.block 0 c81_19)
def c81_21 : ACode :=
  (.seq (.seq (.region false [⟨some 7, none, .cst (.t (.int .i64 0))⟩] [] [0, 1, 2, 7]) c81_20) c81_0)
def c81 : ACode :=
  (.seq (.region false [⟨some 6, none, .cst (.t (.bool false))⟩] [] [0, 1, 2]) c81_21)
def r81 : List ARes := [.tmp 6]
def n81 : Nat := 46
/- 82 supergraph supergraphref25.provides -/
def c82_0 : ACode :=
  (.seq (.region true [⟨some 15, none, .mv (.s 6)⟩,
    ⟨some 16, none, .mv (.s 15)⟩,
    ⟨some 17, some (16, true), .ld true 1 (.s 2)⟩,
    ⟨some 18, some (16, true), .ld true 7 (.s 5)⟩,
    ⟨some 19, some (16, true), .fa 4 (.s 3)⟩,
    ⟨some 20, some (16, true), .ld false 1 (.s 19)⟩,
    ⟨some 21, some (16, true), .call 26 [(.s 20), (.c (.t (.str [112, 114, 111, 118, 105, 100, 101, 115])))]⟩,
    ⟨some 22, some (16, true), .call 80 [(.s 17), (.s 18), (.s 21)]⟩,
    ⟨some 23, none, .pick (.s 16) (.s 22) (.c (.t (.bool false)))⟩,
    ⟨some 4, none, .mv (.s 23)⟩] [[], [0], [1], [1], [1], [4, 1], [5, 1, 1], [2, 3, 6, 6, 1], [1, 7], [8, 7, 0, 1, 2, 3, 4, 5, 6, 7, 8]] [4]) .ret)
def c82_1 : ACode :=
  (.seq (.region false [⟨some 8, none, .ld true 1 (.s 2)⟩,
    ⟨some 9, none, .fa 2 (.s 3)⟩,
    ⟨some 10, none, .fa 0 (.s 9)⟩,
    ⟨some 11, none, .ld false 1 (.s 10)⟩,
    ⟨some 12, none, .call 99 [(.s 8), (.s 11)]⟩,
    ⟨some 7, none, .mv (.s 12)⟩,
    ⟨some 13, none, .ext (.s 7) 0⟩,
    ⟨some 14, none, .ext (.s 7) 1⟩,
    ⟨some 5, none, .alloc [.t (.int .i64 0), .t (.str []), .nils, .nils, .nils, .nils, .nils]⟩,
    ⟨none, none, .st 7 (.s 5) (.s 13)⟩,
    ⟨some 6, none, .mv (.s 14)⟩] [] [2, 3, 5, 6]) c82_0)
def c82 : ACode :=
  (.seq (.region false [⟨some 2, none, .box 1 (.s 0)⟩,
    ⟨some 3, none, .box 5 (.s 1)⟩,
    ⟨some 4, none, .cst (.t (.bool false))⟩] [] [2, 3]) c82_1)
def r82 : List ARes := [.tmp 4]
def n82 : Nat := 24
/- 83 supergraph supergraphref25.inKey -/
def c83_0 : ACode :=
  (.seq (.region false [⟨some 4, none, .cst (.t (.bool false))⟩] [] [4]) .ret)
def c83_1 : ACode :=
  (.region false [⟨some 14, none, .mv (.s 6)⟩,
    ⟨some 15, none, .bin .add (.s 14) (.c (.t (.int .i64 1)))⟩,
    ⟨some 6, none, .mv (.s 15)⟩] [] [1, 5, 6])
def c83_2 : ACode :=
  (.seq (.region false [⟨some 4, none, .cst (.t (.bool true))⟩] [] [4]) .ret)
def c83_3 : ACode :=
  (.cond (.s 21) c83_2 .skip)
def c83_4 : ACode :=
  (.seq (.region false [⟨some 16, none, .mv (.s 5)⟩,
    ⟨some 17, none, .mv (.s 6)⟩,
    ⟨some 18, none, .ia 1 (.s 16) (.s 17)⟩,
    ⟨some 19, none, .ld false 1 (.s 18)⟩,
    ⟨some 20, none, .mv (.s 1)⟩,
    ⟨some 21, none, .call 97 [(.s 19), (.s 20)]⟩] [] [1, 5, 6, 21]) c83_3)
def c83_5 : ACode :=
  (.seq (.block 1 c83_4) c83_1)
def c83_6 : ACode :=
  (.cond (.s 13) .skip (.exit 0))
def c83_7 : ACode :=
  (.seq (.seq (.region false [⟨some 10, none, .mv (.s 6)⟩,
    ⟨some 11, none, .mv (.s 5)⟩,
    ⟨some 12, none, .len (.s 11)⟩,
    ⟨some 13, none, .bin .lss (.s 10) (.s 12)⟩] [] [1, 5, 6, 13]) c83_6) c83_5)
def c83_8 : ACode :=
  (.loop c83_7)
def c83_9 : ACode :=
  (.block 0 c83_8)
def c83_10 : ACode :=
  (.seq (.seq (.region false [⟨some 6, none, .cst (.t (.int .i64 0))⟩] [] [1, 5, 6]) c83_9) c83_0)
def c83_11 : ACode :=
  (.seq (.region false [⟨some 7, none, .fa 3 (.s 2)⟩,
    ⟨some 8, none, .ld false 1 (.s 7)⟩,
    ⟨some 9, none, .call 24 [(.s 8), (.c (.t (.str [107, 101, 121])))]⟩,
    ⟨some 5, none, .mv (.s 9)⟩] [] [1, 5]) c83_10)
def c83 : ACode :=
  (.seq (.region false [⟨some 2, none, .box 7 (.s 0)⟩,
    ⟨some 4, none, .cst (.t (.bool false))⟩] [] [1, 2]) c83_11)
def r83 : List ARes := [.tmp 4]
def n83 : Nat := 22
/- 84 supergraph supergraphref23.argument -/
def c84_0 : ACode :=
  (.seq (.region false [⟨some 28, none, .build [.t (.int .i64 0), .t (.int .i64 0), .t (.str []), .nils, .nils] []⟩,
    ⟨none, none, .st 5 (.s 4) (.s 28)⟩,
    ⟨some 5, none, .cst (.t (.bool false))⟩] [] [4, 5]) .ret)
def c84_1 : ACode :=
  (.region false [⟨some 12, none, .mv (.s 6)⟩,
    ⟨some 13, none, .bin .add (.s 12) (.c (.t (.int .i64 1)))⟩,
    ⟨some 6, none, .mv (.s 13)⟩] [] [1, 2, 4, 6])
def c84_2 : ACode :=
  (.seq (.region false [⟨some 22, none, .fa 1 (.s 2)⟩,
    ⟨some 23, none, .ld false 1 (.s 22)⟩,
    ⟨some 24, none, .mv (.s 6)⟩,
    ⟨some 25, none, .ia 6 (.s 23) (.s 24)⟩,
    ⟨some 26, none, .fa 1 (.s 25)⟩,
    ⟨some 27, none, .ld true 5 (.s 26)⟩,
    ⟨none, none, .st 5 (.s 4) (.s 27)⟩,
    ⟨some 5, none, .cst (.t (.bool true))⟩] [] [4, 5]) .ret)
def c84_3 : ACode :=
  (.cond (.s 21) c84_2 .skip)
def c84_4 : ACode :=
  (.seq (.region false [⟨some 14, none, .fa 1 (.s 2)⟩,
    ⟨some 15, none, .ld false 1 (.s 14)⟩,
    ⟨some 16, none, .mv (.s 6)⟩,
    ⟨some 17, none, .ia 6 (.s 15) (.s 16)⟩,
    ⟨some 18, none, .fa 0 (.s 17)⟩,
    ⟨some 19, none, .ld false 1 (.s 18)⟩,
    ⟨some 20, none, .mv (.s 1)⟩,
    ⟨some 21, none, .bin .eql (.s 19) (.s 20)⟩] [] [1, 2, 4, 6, 21]) c84_3)
def c84_5 : ACode :=
  (.seq (.block 1 c84_4) c84_1)
def c84_6 : ACode :=
  (.cond (.s 11) .skip (.exit 0))
def c84_7 : ACode :=
  (.seq (.seq (.region false [⟨some 7, none, .mv (.s 6)⟩,
    ⟨some 8, none, .fa 1 (.s 2)⟩,
    ⟨some 9, none, .ld false 1 (.s 8)⟩,
    ⟨some 10, none, .len (.s 9)⟩,
    ⟨some 11, none, .bin .lss (.s 7) (.s 10)⟩] [] [1, 2, 4, 6, 11]) c84_6) c84_5)
def c84_8 : ACode :=
  (.loop c84_7)
def c84_9 : ACode :=
  (.block 0 c84_8)
def c84_10 : ACode :=
  (.seq (.seq (.region false [⟨some 6, none, .cst (.t (.int .i64 0))⟩] [] [1, 2, 4, 6]) c84_9) c84_0)
def c84 : ACode :=
  (.seq (.region false [⟨some 2, none, .box 2 (.s 0)⟩,
    ⟨some 4, none, .alloc [.t (.int .i64 0), .t (.int .i64 0), .t (.str []), .nils, .nils]⟩,
    ⟨some 5, none, .cst (.t (.bool false))⟩] [] [1, 2, 4]) c84_10)
def r84 : List ARes := [.cell 4 true 5, .tmp 5]
def n84 : Nat := 29
/- 85 supergraph supergraphref23.Set -/
def c85_0 : ACode :=
  (.seq (.region false [⟨some 52, none, .mv (.s 4)⟩,
    ⟨some 2, none, .mv (.s 52)⟩,
    ⟨some 3, none, .cst (.t (.int .i64 0))⟩] [] [2, 3]) .ret)
def c85_1 : ACode :=
  (.region false [⟨some 36, none, .mv (.s 6)⟩,
    ⟨some 37, none, .bin .add (.s 36) (.c (.t (.int .i64 1)))⟩,
    ⟨some 6, none, .mv (.s 37)⟩] [] [4, 6])
def c85_2 : ACode :=
  (.region false [⟨some 41, none, .mv (.s 7)⟩,
    ⟨some 42, none, .bin .add (.s 41) (.c (.t (.int .i64 1)))⟩,
    ⟨some 7, none, .mv (.s 42)⟩] [] [4, 6, 7])
def c85_3 : ACode :=
  (.seq (.region false [⟨some 2, none, .cst (.nils)⟩,
    ⟨some 3, none, .cst (.t (.int .i64 7))⟩] [] [2, 3]) .ret)
def c85_4 : ACode :=
  (.cond (.s 51) c85_3 .skip)
def c85_5 : ACode :=
  (.seq (.region true [⟨some 43, none, .mv (.s 4)⟩,
    ⟨some 44, none, .mv (.s 6)⟩,
    ⟨some 45, none, .ia 1 (.s 43) (.s 44)⟩,
    ⟨some 46, none, .ld false 1 (.s 45)⟩,
    ⟨some 47, none, .mv (.s 4)⟩,
    ⟨some 48, none, .mv (.s 7)⟩,
    ⟨some 49, none, .ia 1 (.s 47) (.s 48)⟩,
    ⟨some 50, none, .ld false 1 (.s 49)⟩,
    ⟨some 51, none, .bin .eql (.s 46) (.s 50)⟩] [[], [], [0, 1], [2], [], [], [4, 5], [6], [3, 7]] [4, 6, 7, 51]) c85_4)
def c85_6 : ACode :=
  (.seq (.block 5 c85_5) c85_2)
def c85_7 : ACode :=
  (.cond (.s 40) .skip (.exit 4))
def c85_8 : ACode :=
  (.seq (.seq (.region false [⟨some 38, none, .mv (.s 7)⟩,
    ⟨some 39, none, .mv (.s 6)⟩,
    ⟨some 40, none, .bin .lss (.s 38) (.s 39)⟩] [] [4, 6, 7, 40]) c85_7) c85_6)
def c85_9 : ACode :=
  (.loop c85_8)
def c85_10 : ACode :=
  (.block 4 c85_9)
def c85_11 : ACode :=
  (.seq (.region false [⟨some 7, none, .cst (.t (.int .i64 0))⟩] [] [4, 6, 7]) c85_10)
def c85_12 : ACode :=
  (.seq (.block 3 c85_11) c85_1)
def c85_13 : ACode :=
  (.cond (.s 35) .skip (.exit 2))
def c85_14 : ACode :=
  (.seq (.seq (.region false [⟨some 32, none, .mv (.s 6)⟩,
    ⟨some 33, none, .mv (.s 4)⟩,
    ⟨some 34, none, .len (.s 33)⟩,
    ⟨some 35, none, .bin .lss (.s 32) (.s 34)⟩] [] [4, 6, 35]) c85_13) c85_12)
def c85_15 : ACode :=
  (.loop c85_14)
def c85_16 : ACode :=
  (.block 2 c85_15)
def c85_17 : ACode :=
  (.seq (.seq (.region false [⟨some 6, none, .cst (.t (.int .i64 0))⟩] [] [4, 6]) c85_16) c85_0)
def c85_18 : ACode :=
  (.seq (.region false [⟨some 2, none, .cst (.nils)⟩,
    ⟨some 3, none, .cst (.t (.int .i64 4))⟩] [] [2, 3]) .ret)
def c85_19 : ACode :=
  (.cond (.s 31) c85_18 .skip)
def c85_20 : ACode :=
  (.seq (.seq (.region false [⟨some 29, none, .mv (.s 4)⟩,
    ⟨some 30, none, .len (.s 29)⟩,
    ⟨some 31, none, .bin .gtr (.s 30) (.c (.t (.int .i64 4)))⟩] [] [4, 31]) c85_19) c85_17)
def c85_21 : ACode :=
  (.region false [⟨some 14, none, .mv (.s 5)⟩,
    ⟨some 15, none, .bin .add (.s 14) (.c (.t (.int .i64 1)))⟩,
    ⟨some 5, none, .mv (.s 15)⟩] [] [4, 5])
def c85_22 : ACode :=
  (.seq (.region false [⟨some 2, none, .cst (.nils)⟩,
    ⟨some 3, none, .cst (.t (.int .i64 3))⟩] [] [2, 3]) .ret)
def c85_23 : ACode :=
  (.cond (.s 28) c85_22 .skip)
def c85_24 : ACode :=
  (.seq (.region false [⟨some 16, none, .mv (.s 4)⟩,
    ⟨some 17, none, .mv (.s 5)⟩,
    ⟨some 18, none, .ia 1 (.s 16) (.s 17)⟩,
    ⟨some 19, none, .ld false 1 (.s 18)⟩,
    ⟨some 20, none, .call 101 [(.s 19)]⟩,
    ⟨some 21, none, .un .not (.s 20)⟩,
    ⟨some 22, none, .mv (.s 21)⟩,
    ⟨some 23, some (22, false), .mv (.s 4)⟩,
    ⟨some 24, some (22, false), .mv (.s 5)⟩,
    ⟨some 25, some (22, false), .ia 1 (.s 23) (.s 24)⟩,
    ⟨some 26, some (22, false), .ld false 1 (.s 25)⟩,
    ⟨some 27, some (22, false), .call 102 [(.s 26)]⟩,
    ⟨some 28, none, .pick (.s 22) (.c (.t (.bool true))) (.s 27)⟩] [] [4, 5, 28]) c85_23)
def c85_25 : ACode :=
  (.seq (.block 1 c85_24) c85_21)
def c85_26 : ACode :=
  (.cond (.s 13) .skip (.exit 0))
def c85_27 : ACode :=
  (.seq (.seq (.region false [⟨some 10, none, .mv (.s 5)⟩,
    ⟨some 11, none, .mv (.s 4)⟩,
    ⟨some 12, none, .len (.s 11)⟩,
    ⟨some 13, none, .bin .lss (.s 10) (.s 12)⟩] [] [4, 5, 13]) c85_26) c85_25)
def c85_28 : ACode :=
  (.loop c85_27)
def c85_29 : ACode :=
  (.block 0 c85_28)
def c85_30 : ACode :=
  (.seq (.seq (.region false [⟨some 5, none, .cst (.t (.int .i64 0))⟩] [] [4, 5]) c85_29) c85_20)
def c85_31 : ACode :=
  (.seq (.region false [⟨some 8, none, .mv (.s 0)⟩,
    ⟨some 9, none, .call 100 [(.s 8)]⟩,
    ⟨some 4, none, .mv (.s 9)⟩] [] [4]) c85_30)
def c85 : ACode :=
  (.seq (.region false [⟨some 2, none, .cst (.nils)⟩,
    ⟨some 3, none, .cst (.t (.int .i64 0))⟩] [] [0]) c85_31)
def r85 : List ARes := [.tmp 2, .tmp 3]
def n85 : Nat := 53
/- 86 supergraph supergraphref10.allowed -/
def c86_0 : ACode :=
  (.seq (.region false [⟨some 3, none, .mv (.s 0)⟩,
    ⟨some 4, none, .call 101 [(.s 3)]⟩,
    ⟨some 5, none, .mv (.s 4)⟩,
    ⟨some 6, some (5, true), .mv (.s 0)⟩,
    ⟨some 7, some (5, true), .call 102 [(.s 6)]⟩,
    ⟨some 8, some (5, true), .un .not (.s 7)⟩,
    ⟨some 9, none, .pick (.s 5) (.s 8) (.c (.t (.bool false)))⟩,
    ⟨some 2, none, .mv (.s 9)⟩] [] [2]) .ret)
def c86 : ACode :=
  (.seq (.region false [⟨some 2, none, .cst (.t (.bool false))⟩] [] [0]) c86_0)
def r86 : List ARes := [.tmp 2]
def n86 : Nat := 10
/- 87 supergraph supergraphref10.next -/
def c87_0 : ACode :=
  (.seq (.region false [⟨some 61, none, .mv (.s 3)⟩,
    ⟨some 8, none, .mv (.s 61)⟩] [] [8]) .ret)
def c87_1 : ACode :=
  (.region false [⟨some 18, none, .mv (.s 9)⟩,
    ⟨some 19, none, .bin .add (.s 18) (.c (.t (.int .i64 1)))⟩,
    ⟨some 9, none, .mv (.s 19)⟩] [] [2, 3, 4, 5, 9])
def c87_2 : ACode :=
  (.region false [⟨some 56, none, .mv (.s 3)⟩,
    ⟨some 57, none, .fa 0 (.s 10)⟩,
    ⟨some 58, none, .ld false 1 (.s 57)⟩,
    ⟨some 59, none, .bsl false 1 [[.str []]] [(0, (.s 58))]⟩,
    ⟨some 60, none, .app 1 16 (.s 56) (.s 59)⟩,
    ⟨some 3, none, .mv (.s 60)⟩] [] [2, 3, 4, 5, 9])
def c87_3 : ACode :=
  (.cond (.s 55) c87_2 .skip)
def c87_4 : ACode :=
  (.seq (.region false [⟨some 33, none, .ld true 2 (.s 10)⟩,
    ⟨some 34, none, .call 103 [(.s 33)]⟩,
    ⟨some 35, none, .mv (.s 34)⟩,
    ⟨some 36, some (35, true), .fa 0 (.s 10)⟩,
    ⟨some 37, some (35, true), .ld false 1 (.s 36)⟩,
    ⟨some 38, some (35, true), .mv (.s 2)⟩,
    ⟨some 39, some (35, true), .bin .eql (.s 37) (.s 38)⟩,
    ⟨some 40, some (35, true), .mv (.s 39)⟩,
    ⟨some 41, some (40, false), .mv (.s 12)⟩,
    ⟨some 42, some (40, false), .mv (.s 41)⟩,
    ⟨some 43, some (42, true), .fa 0 (.s 11)⟩,
    ⟨some 44, some (42, true), .ld false 1 (.s 43)⟩,
    ⟨some 45, some (42, true), .bin .eql (.s 44) (.c (.t (.int .i64 5)))⟩,
    ⟨some 46, some (40, false), .pick (.s 42) (.s 45) (.c (.t (.bool false)))⟩,
    ⟨some 47, some (35, true), .pick (.s 40) (.c (.t (.bool true))) (.s 46)⟩,
    ⟨some 48, none, .pick (.s 35) (.s 47) (.c (.t (.bool false)))⟩,
    ⟨some 49, none, .mv (.s 48)⟩,
    ⟨some 50, some (49, true), .mv (.s 3)⟩,
    ⟨some 51, some (49, true), .fa 0 (.s 10)⟩,
    ⟨some 52, some (49, true), .ld false 1 (.s 51)⟩,
    ⟨some 53, some (49, true), .call 88 [(.s 50), (.s 52)]⟩,
    ⟨some 54, some (49, true), .un .not (.s 53)⟩,
    ⟨some 55, none, .pick (.s 49) (.s 54) (.c (.t (.bool false)))⟩] [] [2, 3, 4, 5, 9, 10, 55]) c87_3)
def c87_5 : ACode :=
  (.seq (.region false [⟨some 27, none, .ld true 1 (.s 4)⟩,
    ⟨some 28, none, .fa 0 (.s 10)⟩,
    ⟨some 29, none, .ld false 1 (.s 28)⟩,
    ⟨some 30, none, .call 33 [(.s 27), (.s 29)]⟩,
    ⟨some 26, none, .mv (.s 30)⟩,
    ⟨some 31, none, .ext (.s 26) 0⟩,
    ⟨some 32, none, .ext (.s 26) 1⟩,
    ⟨some 11, none, .alloc [.t (.int .i64 0), .t (.str []), .nils, .nils, .nils, .nils, .nils]⟩,
    ⟨none, none, .st 7 (.s 11) (.s 31)⟩,
    ⟨some 12, none, .mv (.s 32)⟩] [] [2, 3, 4, 5, 9, 10, 11, 12]) c87_4)
def c87_6 : ACode :=
  (.seq (.region false [⟨some 20, none, .fa 6 (.s 5)⟩,
    ⟨some 21, none, .ld false 1 (.s 20)⟩,
    ⟨some 22, none, .mv (.s 9)⟩,
    ⟨some 23, none, .ia 10 (.s 21) (.s 22)⟩,
    ⟨some 24, none, .fa 1 (.s 23)⟩,
    ⟨some 25, none, .ld true 2 (.s 24)⟩,
    ⟨some 10, none, .alloc [.t (.str []), .nils]⟩,
    ⟨none, none, .st 2 (.s 10) (.s 25)⟩] [] [2, 3, 4, 5, 9, 10]) c87_5)
def c87_7 : ACode :=
  (.seq (.block 1 c87_6) c87_1)
def c87_8 : ACode :=
  (.cond (.s 17) .skip (.exit 0))
def c87_9 : ACode :=
  (.seq (.seq (.region false [⟨some 13, none, .mv (.s 9)⟩,
    ⟨some 14, none, .fa 6 (.s 5)⟩,
    ⟨some 15, none, .ld false 1 (.s 14)⟩,
    ⟨some 16, none, .len (.s 15)⟩,
    ⟨some 17, none, .bin .lss (.s 13) (.s 16)⟩] [] [2, 3, 4, 5, 9, 17]) c87_8) c87_7)
def c87_10 : ACode :=
  (.loop c87_9)
def c87_11 : ACode :=
  (.block 0 c87_10)
def c87_12 : ACode :=
  (.seq (.seq (.region false [⟨some 9, none, .cst (.t (.int .i64 0))⟩] [] [2, 3, 4, 5, 9]) c87_11) c87_0)
def c87 : ACode :=
  (.seq (.region false [⟨some 4, none, .box 1 (.s 0)⟩,
    ⟨some 5, none, .box 7 (.s 1)⟩,
    ⟨some 8, none, .cst (.nils)⟩] [] [2, 3, 4, 5]) c87_12)
def r87 : List ARes := [.tmp 8]
def n87 : Nat := 62
/- 88 supergraph supergraphref10.has -/
def c88_0 : ACode :=
  (.seq (.region false [⟨some 4, none, .cst (.t (.bool false))⟩] [] [4]) .ret)
def c88_1 : ACode :=
  (.region false [⟨some 10, none, .mv (.s 5)⟩,
    ⟨some 11, none, .bin .add (.s 10) (.c (.t (.int .i64 1)))⟩,
    ⟨some 5, none, .mv (.s 11)⟩] [] [0, 1, 5])
def c88_2 : ACode :=
  (.seq (.region false [⟨some 4, none, .cst (.t (.bool true))⟩] [] [4]) .ret)
def c88_3 : ACode :=
  (.cond (.s 17) c88_2 .skip)
def c88_4 : ACode :=
  (.seq (.region false [⟨some 12, none, .mv (.s 0)⟩,
    ⟨some 13, none, .mv (.s 5)⟩,
    ⟨some 14, none, .ia 1 (.s 12) (.s 13)⟩,
    ⟨some 15, none, .ld false 1 (.s 14)⟩,
    ⟨some 16, none, .mv (.s 1)⟩,
    ⟨some 17, none, .bin .eql (.s 15) (.s 16)⟩] [] [0, 1, 5, 17]) c88_3)
def c88_5 : ACode :=
  (.seq (.block 1 c88_4) c88_1)
def c88_6 : ACode :=
  (.cond (.s 9) .skip (.exit 0))
def c88_7 : ACode :=
  (.seq (.seq (.region false [⟨some 6, none, .mv (.s 5)⟩,
    ⟨some 7, none, .mv (.s 0)⟩,
    ⟨some 8, none, .len (.s 7)⟩,
    ⟨some 9, none, .bin .lss (.s 6) (.s 8)⟩] [] [0, 1, 5, 9]) c88_6) c88_5)
def c88_8 : ACode :=
  (.loop c88_7)
def c88_9 : ACode :=
  (.block 0 c88_8)
def c88_10 : ACode :=
  (.seq (.seq (.region false [⟨some 5, none, .cst (.t (.int .i64 0))⟩] [] [0, 1, 5]) c88_9) c88_0)
def c88 : ACode :=
  (.seq (.region false [⟨some 4, none, .cst (.t (.bool false))⟩] [] [0, 1]) c88_10)
def r88 : List ARes := [.tmp 4]
def n88 : Nat := 18
/- 89 supergraph supergraphref23.kind -/
def c89_0 : ACode :=
  (.seq (.region false [⟨some 4, none, .cst (.t (.str []))⟩,
    ⟨some 5, none, .cst (.t (.bool false))⟩] [] [4, 5]) .ret)
def c89_1 : ACode :=
  (.seq (.region false [⟨some 4, none, .cst (.t (.str [115, 101, 116]))⟩,
    ⟨some 5, none, .cst (.t (.bool false))⟩] [] [4, 5]) .ret)
def c89_2 : ACode :=
  (.seq (.region false [⟨some 4, none, .cst (.t (.str [116, 101, 120, 116]))⟩,
    ⟨some 5, none, .cst (.t (.bool false))⟩] [] [4, 5]) .ret)
def c89_3 : ACode :=
  (.seq (.region false [⟨some 4, none, .cst (.t (.str [116, 101, 120, 116, 115]))⟩,
    ⟨some 5, none, .cst (.t (.bool false))⟩] [] [4, 5]) .ret)
def c89_4 : ACode :=
  (.seq (.region false [⟨some 4, none, .cst (.t (.str [110, 117, 109, 98, 101, 114]))⟩,
    ⟨some 5, none, .cst (.t (.bool false))⟩] [] [4, 5]) .ret)
def c89_5 : ACode :=
  (.seq (.region false [⟨some 4, none, .cst (.t (.str [116, 114, 117, 116, 104]))⟩,
    ⟨some 5, none, .cst (.t (.bool true))⟩] [] [4, 5]) .ret)
def c89_6 : ACode :=
  (.seq (.region false [⟨some 4, none, .cst (.t (.str [116, 101, 120, 116]))⟩,
    ⟨some 5, none, .cst (.t (.bool true))⟩] [] [4, 5]) .ret)
def c89_7 : ACode :=
  (.cond (.s 24) c89_6 .skip)
def c89_8 : ACode :=
  (.seq (.region false [⟨some 25, none, .bin .eql (.s 9) (.c (.t (.str [100, 101, 112, 114, 101, 99, 97, 116, 101, 100, 46, 114, 101, 97, 115, 111, 110])))⟩,
    ⟨some 24, none, .mv (.s 25)⟩] [] [24]) c89_7)
def c89_9 : ACode :=
  (.cond (.s 22) c89_5 c89_8)
def c89_10 : ACode :=
  (.seq (.region false [⟨some 23, none, .bin .eql (.s 9) (.c (.t (.str [99, 97, 99, 104, 101, 67, 111, 110, 116, 114, 111, 108, 46, 112, 114, 105, 118, 97, 116, 101])))⟩,
    ⟨some 22, none, .mv (.s 23)⟩] [] [9, 22]) c89_9)
def c89_11 : ACode :=
  (.cond (.s 18) c89_4 c89_10)
def c89_12 : ACode :=
  (.region false [⟨some 21, none, .bin .eql (.s 9) (.c (.t (.str [99, 97, 99, 104, 101, 67, 111, 110, 116, 114, 111, 108, 46, 109, 97, 120, 65, 103, 101])))⟩,
    ⟨some 18, none, .mv (.s 21)⟩] [] [9, 18])
def c89_13 : ACode :=
  (.cond (.s 18) .skip c89_12)
def c89_14 : ACode :=
  (.seq (.region false [⟨some 20, none, .bin .eql (.s 9) (.c (.t (.str [108, 105, 115, 116, 83, 105, 122, 101, 46, 97, 115, 115, 117, 109, 101, 100])))⟩,
    ⟨some 18, none, .mv (.s 20)⟩] [] [9, 18]) c89_13)
def c89_15 : ACode :=
  (.cond (.s 18) .skip c89_14)
def c89_16 : ACode :=
  (.seq (.seq (.region false [⟨some 19, none, .bin .eql (.s 9) (.c (.t (.str [99, 111, 115, 116, 46, 119, 101, 105, 103, 104, 116])))⟩,
    ⟨some 18, none, .mv (.s 19)⟩] [] [9, 18]) c89_15) c89_11)
def c89_17 : ACode :=
  (.cond (.s 16) c89_3 c89_16)
def c89_18 : ACode :=
  (.seq (.region false [⟨some 17, none, .bin .eql (.s 9) (.c (.t (.str [115, 99, 111, 112, 101, 115, 46, 97, 108, 108])))⟩,
    ⟨some 16, none, .mv (.s 17)⟩] [] [9, 16]) c89_17)
def c89_19 : ACode :=
  (.cond (.s 14) c89_2 c89_18)
def c89_20 : ACode :=
  (.seq (.region false [⟨some 15, none, .bin .eql (.s 9) (.c (.t (.str [116, 97, 103, 46, 110, 97, 109, 101])))⟩,
    ⟨some 14, none, .mv (.s 15)⟩] [] [9, 14]) c89_19)
def c89_21 : ACode :=
  (.cond (.s 10) c89_1 c89_20)
def c89_22 : ACode :=
  (.region false [⟨some 13, none, .bin .eql (.s 9) (.c (.t (.str [112, 114, 111, 118, 105, 100, 101, 115, 46, 102, 105, 101, 108, 100, 115])))⟩,
    ⟨some 10, none, .mv (.s 13)⟩] [] [9, 10])
def c89_23 : ACode :=
  (.cond (.s 10) .skip c89_22)
def c89_24 : ACode :=
  (.seq (.region false [⟨some 12, none, .bin .eql (.s 9) (.c (.t (.str [114, 101, 113, 117, 105, 114, 101, 115, 46, 102, 105, 101, 108, 100, 115])))⟩,
    ⟨some 10, none, .mv (.s 12)⟩] [] [9, 10]) c89_23)
def c89_25 : ACode :=
  (.cond (.s 10) .skip c89_24)
def c89_26 : ACode :=
  (.seq (.seq (.region false [⟨some 11, none, .bin .eql (.s 9) (.c (.t (.str [107, 101, 121, 46, 102, 105, 101, 108, 100, 115])))⟩,
    ⟨some 10, none, .mv (.s 11)⟩] [] [9, 10]) c89_25) c89_21)
def c89_27 : ACode :=
  (.block 0 c89_26)
def c89_28 : ACode :=
  (.seq (.seq (.region false [⟨some 6, none, .mv (.s 0)⟩,
    ⟨some 7, none, .bin .add (.s 6) (.c (.t (.str [46])))⟩,
    ⟨some 8, none, .mv (.s 1)⟩,
    ⟨some 9, none, .bin .add (.s 7) (.s 8)⟩] [] [9]) c89_27) c89_0)
def c89 : ACode :=
  (.seq (.region false [⟨some 4, none, .cst (.t (.str []))⟩,
    ⟨some 5, none, .cst (.t (.bool false))⟩] [] [0, 1]) c89_28)
def r89 : List ARes := [.tmp 4, .tmp 5]
def n89 : Nat := 26
/- 90 supergraph supergraphref23.needed -/
def c90_0 : ACode :=
  (.seq (.region false [⟨some 2, none, .cst (.t (.str []))⟩] [] [2]) .ret)
def c90_1 : ACode :=
  (.seq (.region false [⟨some 2, none, .cst (.t (.str [102, 105, 101, 108, 100, 115]))⟩] [] [2]) .ret)
def c90_2 : ACode :=
  (.seq (.region false [⟨some 2, none, .cst (.t (.str [110, 97, 109, 101]))⟩] [] [2]) .ret)
def c90_3 : ACode :=
  (.seq (.region false [⟨some 2, none, .cst (.t (.str [97, 108, 108]))⟩] [] [2]) .ret)
def c90_4 : ACode :=
  (.seq (.region false [⟨some 2, none, .cst (.t (.str [119, 101, 105, 103, 104, 116]))⟩] [] [2]) .ret)
def c90_5 : ACode :=
  (.seq (.region false [⟨some 2, none, .cst (.t (.str [97, 115, 115, 117, 109, 101, 100]))⟩] [] [2]) .ret)
def c90_6 : ACode :=
  (.seq (.region false [⟨some 2, none, .cst (.t (.str [109, 97, 120, 65, 103, 101]))⟩] [] [2]) .ret)
def c90_7 : ACode :=
  (.cond (.s 16) c90_6 .skip)
def c90_8 : ACode :=
  (.seq (.region false [⟨some 17, none, .bin .eql (.s 3) (.c (.t (.str [99, 97, 99, 104, 101, 67, 111, 110, 116, 114, 111, 108])))⟩,
    ⟨some 16, none, .mv (.s 17)⟩] [] [16]) c90_7)
def c90_9 : ACode :=
  (.cond (.s 14) c90_5 c90_8)
def c90_10 : ACode :=
  (.seq (.region false [⟨some 15, none, .bin .eql (.s 3) (.c (.t (.str [108, 105, 115, 116, 83, 105, 122, 101])))⟩,
    ⟨some 14, none, .mv (.s 15)⟩] [] [3, 14]) c90_9)
def c90_11 : ACode :=
  (.cond (.s 12) c90_4 c90_10)
def c90_12 : ACode :=
  (.seq (.region false [⟨some 13, none, .bin .eql (.s 3) (.c (.t (.str [99, 111, 115, 116])))⟩,
    ⟨some 12, none, .mv (.s 13)⟩] [] [3, 12]) c90_11)
def c90_13 : ACode :=
  (.cond (.s 10) c90_3 c90_12)
def c90_14 : ACode :=
  (.seq (.region false [⟨some 11, none, .bin .eql (.s 3) (.c (.t (.str [115, 99, 111, 112, 101, 115])))⟩,
    ⟨some 10, none, .mv (.s 11)⟩] [] [3, 10]) c90_13)
def c90_15 : ACode :=
  (.cond (.s 8) c90_2 c90_14)
def c90_16 : ACode :=
  (.seq (.region false [⟨some 9, none, .bin .eql (.s 3) (.c (.t (.str [116, 97, 103])))⟩,
    ⟨some 8, none, .mv (.s 9)⟩] [] [3, 8]) c90_15)
def c90_17 : ACode :=
  (.cond (.s 4) c90_1 c90_16)
def c90_18 : ACode :=
  (.region false [⟨some 7, none, .bin .eql (.s 3) (.c (.t (.str [112, 114, 111, 118, 105, 100, 101, 115])))⟩,
    ⟨some 4, none, .mv (.s 7)⟩] [] [3, 4])
def c90_19 : ACode :=
  (.cond (.s 4) .skip c90_18)
def c90_20 : ACode :=
  (.seq (.region false [⟨some 6, none, .bin .eql (.s 3) (.c (.t (.str [114, 101, 113, 117, 105, 114, 101, 115])))⟩,
    ⟨some 4, none, .mv (.s 6)⟩] [] [3, 4]) c90_19)
def c90_21 : ACode :=
  (.cond (.s 4) .skip c90_20)
def c90_22 : ACode :=
  (.seq (.seq (.region false [⟨some 5, none, .bin .eql (.s 3) (.c (.t (.str [107, 101, 121])))⟩,
    ⟨some 4, none, .mv (.s 5)⟩] [] [3, 4]) c90_21) c90_17)
def c90_23 : ACode :=
  (.block 0 c90_22)
def c90_24 : ACode :=
  (.seq (.seq (.region false [⟨some 3, none, .mv (.s 0)⟩] [] [3]) c90_23) c90_0)
def c90 : ACode :=
  (.seq (.region false [⟨some 2, none, .cst (.t (.str []))⟩] [] [0]) c90_24)
def r90 : List ARes := [.tmp 2]
def n90 : Nat := 18
/- 91 supergraph supergraphref23.fits -/
def c91_0 : ACode :=
  (.seq (.region false [⟨some 63, none, .fa 0 (.s 2)⟩,
    ⟨some 64, none, .ld false 1 (.s 63)⟩,
    ⟨some 65, none, .bin .eql (.s 64) (.c (.t (.int .i64 5)))⟩,
    ⟨some 4, none, .mv (.s 65)⟩] [] [4]) .ret)
def c91_1 : ACode :=
  (.region false [⟨some 54, none, .mv (.s 7)⟩,
    ⟨some 55, none, .bin .add (.s 54) (.c (.t (.int .i64 1)))⟩,
    ⟨some 7, none, .mv (.s 55)⟩] [] [2, 7])
def c91_2 : ACode :=
  (.seq (.region false [⟨some 4, none, .cst (.t (.bool false))⟩] [] [4]) .ret)
def c91_3 : ACode :=
  (.cond (.s 62) c91_2 .skip)
def c91_4 : ACode :=
  (.seq (.region false [⟨some 56, none, .fa 3 (.s 2)⟩,
    ⟨some 57, none, .ld false 1 (.s 56)⟩,
    ⟨some 58, none, .mv (.s 7)⟩,
    ⟨some 59, none, .ia 5 (.s 57) (.s 58)⟩,
    ⟨some 60, none, .fa 0 (.s 59)⟩,
    ⟨some 61, none, .ld false 1 (.s 60)⟩,
    ⟨some 62, none, .bin .neq (.s 61) (.c (.t (.int .i64 3)))⟩] [] [2, 7, 62]) c91_3)
def c91_5 : ACode :=
  (.seq (.block 2 c91_4) c91_1)
def c91_6 : ACode :=
  (.cond (.s 53) .skip (.exit 1))
def c91_7 : ACode :=
  (.seq (.seq (.region false [⟨some 49, none, .mv (.s 7)⟩,
    ⟨some 50, none, .fa 3 (.s 2)⟩,
    ⟨some 51, none, .ld false 1 (.s 50)⟩,
    ⟨some 52, none, .len (.s 51)⟩,
    ⟨some 53, none, .bin .lss (.s 49) (.s 52)⟩] [] [2, 7, 53]) c91_6) c91_5)
def c91_8 : ACode :=
  (.loop c91_7)
def c91_9 : ACode :=
  (.block 1 c91_8)
def c91_10 : ACode :=
  (.seq (.seq (.region false [⟨some 7, none, .cst (.t (.int .i64 0))⟩] [] [2, 7]) c91_9) c91_0)
def c91_11 : ACode :=
  (.seq (.region false [⟨some 17, none, .fa 0 (.s 2)⟩,
    ⟨some 18, none, .ld false 1 (.s 17)⟩,
    ⟨some 19, none, .bin .eql (.s 18) (.c (.t (.int .i64 3)))⟩,
    ⟨some 20, none, .mv (.s 19)⟩,
    ⟨some 21, some (20, true), .mv (.s 6)⟩,
    ⟨some 22, some (20, true), .bin .eql (.s 21) (.c (.t (.int .i64 0)))⟩,
    ⟨some 23, none, .pick (.s 20) (.s 22) (.c (.t (.bool false)))⟩,
    ⟨some 4, none, .mv (.s 23)⟩] [] [4]) .ret)
def c91_12 : ACode :=
  (.seq (.region false [⟨some 12, none, .fa 2 (.s 2)⟩,
    ⟨some 13, none, .ld false 1 (.s 12)⟩,
    ⟨some 14, none, .call 85 [(.s 13)]⟩,
    ⟨some 11, none, .mv (.s 14)⟩,
    ⟨some 15, none, .ext (.s 11) 0⟩,
    ⟨some 16, none, .ext (.s 11) 1⟩,
    ⟨some 5, none, .mv (.s 15)⟩,
    ⟨some 6, none, .mv (.s 16)⟩] [] [2, 6]) c91_11)
def c91_13 : ACode :=
  (.seq (.region false [⟨some 26, none, .fa 0 (.s 2)⟩,
    ⟨some 27, none, .ld false 1 (.s 26)⟩,
    ⟨some 28, none, .bin .eql (.s 27) (.c (.t (.int .i64 3)))⟩,
    ⟨some 4, none, .mv (.s 28)⟩] [] [4]) .ret)
def c91_14 : ACode :=
  (.seq (.region false [⟨some 31, none, .fa 0 (.s 2)⟩,
    ⟨some 32, none, .ld false 1 (.s 31)⟩,
    ⟨some 33, none, .bin .eql (.s 32) (.c (.t (.int .i64 1)))⟩,
    ⟨some 4, none, .mv (.s 33)⟩] [] [4]) .ret)
def c91_15 : ACode :=
  (.seq (.region false [⟨some 36, none, .fa 0 (.s 2)⟩,
    ⟨some 37, none, .ld false 1 (.s 36)⟩,
    ⟨some 38, none, .bin .eql (.s 37) (.c (.t (.int .i64 2)))⟩,
    ⟨some 39, none, .mv (.s 38)⟩,
    ⟨some 40, some (39, true), .fa 1 (.s 2)⟩,
    ⟨some 41, some (39, true), .ld false 1 (.s 40)⟩,
    ⟨some 42, some (39, true), .bin .geq (.s 41) (.c (.t (.int .i64 0)))⟩,
    ⟨some 43, none, .pick (.s 39) (.s 42) (.c (.t (.bool false)))⟩,
    ⟨some 44, none, .mv (.s 43)⟩,
    ⟨some 45, some (44, true), .fa 1 (.s 2)⟩,
    ⟨some 46, some (44, true), .ld false 1 (.s 45)⟩,
    ⟨some 47, some (44, true), .bin .leq (.s 46) (.c (.t (.int .i64 2147483647)))⟩,
    ⟨some 48, none, .pick (.s 44) (.s 47) (.c (.t (.bool false)))⟩,
    ⟨some 4, none, .mv (.s 48)⟩] [] [4]) .ret)
def c91_16 : ACode :=
  (.cond (.s 34) c91_15 .skip)
def c91_17 : ACode :=
  (.seq (.region false [⟨some 35, none, .bin .eql (.s 8) (.c (.t (.str [110, 117, 109, 98, 101, 114])))⟩,
    ⟨some 34, none, .mv (.s 35)⟩] [] [2, 34]) c91_16)
def c91_18 : ACode :=
  (.cond (.s 29) c91_14 c91_17)
def c91_19 : ACode :=
  (.seq (.region false [⟨some 30, none, .bin .eql (.s 8) (.c (.t (.str [116, 114, 117, 116, 104])))⟩,
    ⟨some 29, none, .mv (.s 30)⟩] [] [2, 8, 29]) c91_18)
def c91_20 : ACode :=
  (.cond (.s 24) c91_13 c91_19)
def c91_21 : ACode :=
  (.seq (.region false [⟨some 25, none, .bin .eql (.s 8) (.c (.t (.str [116, 101, 120, 116])))⟩,
    ⟨some 24, none, .mv (.s 25)⟩] [] [2, 8, 24]) c91_20)
def c91_22 : ACode :=
  (.cond (.s 9) c91_12 c91_21)
def c91_23 : ACode :=
  (.seq (.region false [⟨some 10, none, .bin .eql (.s 8) (.c (.t (.str [115, 101, 116])))⟩,
    ⟨some 9, none, .mv (.s 10)⟩] [] [2, 8, 9]) c91_22)
def c91_24 : ACode :=
  (.block 0 c91_23)
def c91_25 : ACode :=
  (.seq (.seq (.region false [⟨some 8, none, .mv (.s 1)⟩] [] [2, 8]) c91_24) c91_10)
def c91 : ACode :=
  (.seq (.region false [⟨some 2, none, .box 5 (.s 0)⟩,
    ⟨some 4, none, .cst (.t (.bool false))⟩] [] [1, 2]) c91_25)
def r91 : List ARes := [.tmp 4]
def n91 : Nat := 66
/- 92 slices.Index[[]string,string] -/
def c92_0 : ACode :=
  (.seq (.region false [⟨some 4, none, .cst (.t (.int .i64 (-1)))⟩] [] [4]) .ret)
def c92_1 : ACode :=
  (.region false [⟨some 18, none, .bin .add (.s 8) (.c (.t (.int .i64 1)))⟩,
    ⟨some 8, none, .mv (.s 18)⟩] [] [0, 1, 7, 8])
def c92_2 : ACode :=
  (.seq (.region false [⟨some 17, none, .mv (.s 5)⟩,
    ⟨some 4, none, .mv (.s 17)⟩] [] [4]) .ret)
def c92_3 : ACode :=
  (.cond (.s 16) c92_2 .skip)
def c92_4 : ACode :=
  (.seq (.region false [⟨some 11, none, .mv (.s 1)⟩,
    ⟨some 12, none, .mv (.s 0)⟩,
    ⟨some 13, none, .mv (.s 5)⟩,
    ⟨some 14, none, .ia 1 (.s 12) (.s 13)⟩,
    ⟨some 15, none, .ld false 1 (.s 14)⟩,
    ⟨some 16, none, .bin .eql (.s 11) (.s 15)⟩] [] [0, 1, 5, 7, 8, 16]) c92_3)
def c92_5 : ACode :=
  (.seq (.region false [⟨some 10, none, .mv (.s 8)⟩,
    ⟨some 5, none, .mv (.s 10)⟩] [] [0, 1, 5, 7, 8]) c92_4)
def c92_6 : ACode :=
  (.seq (.block 1 c92_5) c92_1)
def c92_7 : ACode :=
  (.seq (.cond (.s 9) .skip (.exit 0)) c92_6)
def c92_8 : ACode :=
  (.seq (.region false [⟨some 9, none, .bin .lss (.s 8) (.s 7)⟩] [] [0, 1, 7, 8, 9]) c92_7)
def c92_9 : ACode :=
  (.loop c92_8)
def c92_10 : ACode :=
  (.block 0 c92_9)
def c92_11 : ACode :=
  (.seq (.seq (.region false [⟨some 6, none, .mv (.s 0)⟩,
    ⟨some 7, none, .len (.s 6)⟩,
    ⟨some 8, none, .cst (.t (.int .i64 0))⟩] [] [0, 1, 7, 8]) c92_10) c92_0)
def c92 : ACode :=
  (.seq (.region false [⟨some 4, none, .cst (.t (.int .i64 0))⟩] [] [0, 1]) c92_11)
def r92 : List ARes := [.tmp 4]
def n92 : Nat := 19
/- 93 slices.IndexFunc[[]supergraph api.Field,supergraph api.Field] -/
def c93_0 : ACode :=
  (.seq (.region false [⟨some 4, none, .cst (.t (.int .i64 (-1)))⟩] [] [4]) .ret)
def c93_1 : ACode :=
  (.region false [⟨some 18, none, .bin .add (.s 8) (.c (.t (.int .i64 1)))⟩,
    ⟨some 8, none, .mv (.s 18)⟩] [] [0, 1, 7, 8])
def c93_2 : ACode :=
  (.seq (.region false [⟨some 17, none, .mv (.s 5)⟩,
    ⟨some 4, none, .mv (.s 17)⟩] [] [4]) .ret)
def c93_3 : ACode :=
  (.cond (.s 16) c93_2 .skip)
def c93_4 : ACode :=
  (.seq (.region false [⟨some 11, none, .mv (.s 1)⟩,
    ⟨some 12, none, .mv (.s 0)⟩,
    ⟨some 13, none, .mv (.s 5)⟩,
    ⟨some 14, none, .ia 5 (.s 12) (.s 13)⟩,
    ⟨some 15, none, .ld true 5 (.s 14)⟩,
    ⟨some 16, none, .callv (.s 11) [(.s 15)]⟩] [] [0, 1, 5, 7, 8, 16]) c93_3)
def c93_5 : ACode :=
  (.seq (.region false [⟨some 10, none, .mv (.s 8)⟩,
    ⟨some 5, none, .mv (.s 10)⟩] [] [0, 1, 5, 7, 8]) c93_4)
def c93_6 : ACode :=
  (.seq (.block 1 c93_5) c93_1)
def c93_7 : ACode :=
  (.seq (.cond (.s 9) .skip (.exit 0)) c93_6)
def c93_8 : ACode :=
  (.seq (.region false [⟨some 9, none, .bin .lss (.s 8) (.s 7)⟩] [] [0, 1, 7, 8, 9]) c93_7)
def c93_9 : ACode :=
  (.loop c93_8)
def c93_10 : ACode :=
  (.block 0 c93_9)
def c93_11 : ACode :=
  (.seq (.seq (.region false [⟨some 6, none, .mv (.s 0)⟩,
    ⟨some 7, none, .len (.s 6)⟩,
    ⟨some 8, none, .cst (.t (.int .i64 0))⟩] [] [0, 1, 7, 8]) c93_10) c93_0)
def c93 : ACode :=
  (.seq (.region false [⟨some 4, none, .cst (.t (.int .i64 0))⟩] [] [0, 1]) c93_11)
def r93 : List ARes := [.tmp 4]
def n93 : Nat := 19
/- 94 slices.IndexFunc[[][]string,[]string] -/
def c94_0 : ACode :=
  (.seq (.region false [⟨some 4, none, .cst (.t (.int .i64 (-1)))⟩] [] [4]) .ret)
def c94_1 : ACode :=
  (.region false [⟨some 18, none, .bin .add (.s 8) (.c (.t (.int .i64 1)))⟩,
    ⟨some 8, none, .mv (.s 18)⟩] [] [0, 1, 7, 8])
def c94_2 : ACode :=
  (.seq (.region false [⟨some 17, none, .mv (.s 5)⟩,
    ⟨some 4, none, .mv (.s 17)⟩] [] [4]) .ret)
def c94_3 : ACode :=
  (.cond (.s 16) c94_2 .skip)
def c94_4 : ACode :=
  (.seq (.region false [⟨some 11, none, .mv (.s 1)⟩,
    ⟨some 12, none, .mv (.s 0)⟩,
    ⟨some 13, none, .mv (.s 5)⟩,
    ⟨some 14, none, .ia 1 (.s 12) (.s 13)⟩,
    ⟨some 15, none, .ld false 1 (.s 14)⟩,
    ⟨some 16, none, .callv (.s 11) [(.s 15)]⟩] [] [0, 1, 5, 7, 8, 16]) c94_3)
def c94_5 : ACode :=
  (.seq (.region false [⟨some 10, none, .mv (.s 8)⟩,
    ⟨some 5, none, .mv (.s 10)⟩] [] [0, 1, 5, 7, 8]) c94_4)
def c94_6 : ACode :=
  (.seq (.block 1 c94_5) c94_1)
def c94_7 : ACode :=
  (.seq (.cond (.s 9) .skip (.exit 0)) c94_6)
def c94_8 : ACode :=
  (.seq (.region false [⟨some 9, none, .bin .lss (.s 8) (.s 7)⟩] [] [0, 1, 7, 8, 9]) c94_7)
def c94_9 : ACode :=
  (.loop c94_8)
def c94_10 : ACode :=
  (.block 0 c94_9)
def c94_11 : ACode :=
  (.seq (.seq (.region false [⟨some 6, none, .mv (.s 0)⟩,
    ⟨some 7, none, .len (.s 6)⟩,
    ⟨some 8, none, .cst (.t (.int .i64 0))⟩] [] [0, 1, 7, 8]) c94_10) c94_0)
def c94 : ACode :=
  (.seq (.region false [⟨some 4, none, .cst (.t (.int .i64 0))⟩] [] [0, 1]) c94_11)
def r94 : List ARes := [.tmp 4]
def n94 : Nat := 19
/- 95 strings.genSplit -/
def c95_0 : ACode :=
  (.seq (.region false [⟨some 62, none, .mv (.s 9)⟩,
    ⟨some 63, none, .mv (.s 10)⟩,
    ⟨some 64, none, .bin .add (.s 63) (.c (.t (.int .i64 1)))⟩,
    ⟨some 65, none, .sll 1 (.s 62) none (some (.s 64))⟩,
    ⟨some 8, none, .mv (.s 65)⟩] [] [8]) .ret)
def c95_1 : ACode :=
  (.seq (.region false [⟨some 58, none, .mv (.s 9)⟩,
    ⟨some 59, none, .mv (.s 10)⟩,
    ⟨some 60, none, .mv (.s 0)⟩,
    ⟨some 61, none, .ia 1 (.s 58) (.s 59)⟩,
    ⟨none, none, .st 1 (.s 61) (.s 60)⟩] [] [9, 10]) c95_0)
def c95_2 : ACode :=
  (.region false [⟨some 56, none, .mv (.s 10)⟩,
    ⟨some 57, none, .bin .add (.s 56) (.c (.t (.int .i64 1)))⟩,
    ⟨some 10, none, .mv (.s 57)⟩] [] [0, 1, 2, 3, 9, 10])
def c95_3 : ACode :=
  (.seq (.region false [⟨some 50, none, .mv (.s 0)⟩,
    ⟨some 51, none, .mv (.s 11)⟩,
    ⟨some 52, none, .mv (.s 1)⟩,
    ⟨some 53, none, .lens (.s 52)⟩,
    ⟨some 54, none, .bin .add (.s 51) (.s 53)⟩,
    ⟨some 55, none, .sls (.s 50) (some (.s 54)) none⟩,
    ⟨some 0, none, .mv (.s 55)⟩] [] [0, 1, 2, 3, 9, 10]) c95_2)
def c95_4 : ACode :=
  (.seq (.region false [⟨some 42, none, .mv (.s 9)⟩,
    ⟨some 43, none, .mv (.s 10)⟩,
    ⟨some 44, none, .mv (.s 0)⟩,
    ⟨some 45, none, .mv (.s 11)⟩,
    ⟨some 46, none, .mv (.s 2)⟩,
    ⟨some 47, none, .bin .add (.s 45) (.s 46)⟩,
    ⟨some 48, none, .sls (.s 44) none (some (.s 47))⟩,
    ⟨some 49, none, .ia 1 (.s 42) (.s 43)⟩,
    ⟨none, none, .st 1 (.s 49) (.s 48)⟩] [] [0, 1, 2, 3, 9, 10, 11]) c95_3)
def c95_5 : ACode :=
  (.cond (.s 41) (.exit 0) .skip)
def c95_6 : ACode :=
  (.seq (.seq (.region false [⟨some 40, none, .mv (.s 11)⟩,
    ⟨some 41, none, .bin .lss (.s 40) (.c (.t (.int .i64 0)))⟩] [] [0, 1, 2, 3, 9, 10, 11, 41]) c95_5) c95_4)
def c95_7 : ACode :=
  (.seq (.region false [⟨some 37, none, .mv (.s 0)⟩,
    ⟨some 38, none, .mv (.s 1)⟩,
    ⟨some 39, none, .call 106 [(.s 37), (.s 38)]⟩,
    ⟨some 11, none, .mv (.s 39)⟩] [] [0, 1, 2, 3, 9, 10, 11]) c95_6)
def c95_8 : ACode :=
  (.block 1 c95_7)
def c95_9 : ACode :=
  (.cond (.s 36) .skip (.exit 0))
def c95_10 : ACode :=
  (.seq (.seq (.region false [⟨some 34, none, .mv (.s 10)⟩,
    ⟨some 35, none, .mv (.s 3)⟩,
    ⟨some 36, none, .bin .lss (.s 34) (.s 35)⟩] [] [0, 1, 2, 3, 9, 10, 36]) c95_9) c95_8)
def c95_11 : ACode :=
  (.loop c95_10)
def c95_12 : ACode :=
  (.seq (.block 0 c95_11) c95_1)
def c95_13 : ACode :=
  (.seq (.region false [⟨some 10, none, .cst (.t (.int .i64 0))⟩] [] [0, 1, 2, 3, 9, 10]) c95_12)
def c95_14 : ACode :=
  (.seq (.region false [⟨some 32, none, .mv (.s 3)⟩,
    ⟨some 33, none, .bin .sub (.s 32) (.c (.t (.int .i64 1)))⟩,
    ⟨some 3, none, .mv (.s 33)⟩] [] [0, 1, 2, 3, 9]) c95_13)
def c95_15 : ACode :=
  (.seq (.region false [⟨some 30, none, .mv (.s 3)⟩,
    ⟨some 31, none, .mksl 1 16 [.t (.str [])] (.s 30)⟩,
    ⟨some 9, none, .mv (.s 31)⟩] [] [0, 1, 2, 3, 9]) c95_14)
def c95_16 : ACode :=
  (.seq (.region false [⟨some 25, none, .mv (.s 3)⟩,
    ⟨some 26, none, .mv (.s 0)⟩,
    ⟨some 27, none, .lens (.s 26)⟩,
    ⟨some 28, none, .bin .add (.s 27) (.c (.t (.int .i64 1)))⟩,
    ⟨some 29, none, .mini (.s 25) (.s 28)⟩,
    ⟨some 3, none, .mv (.s 29)⟩] [] [0, 1, 2, 3]) c95_15)
def c95_17 : ACode :=
  (.region false [⟨some 21, none, .mv (.s 0)⟩,
    ⟨some 22, none, .mv (.s 1)⟩,
    ⟨some 23, none, .call 105 [(.s 21), (.s 22)]⟩,
    ⟨some 24, none, .bin .add (.s 23) (.c (.t (.int .i64 1)))⟩,
    ⟨some 3, none, .mv (.s 24)⟩] [] [0, 1, 2, 3])
def c95_18 : ACode :=
  (.cond (.s 20) c95_17 .skip)
def c95_19 : ACode :=
  (.seq (.seq (.region false [⟨some 19, none, .mv (.s 3)⟩,
    ⟨some 20, none, .bin .lss (.s 19) (.c (.t (.int .i64 0)))⟩] [] [0, 1, 2, 3, 20]) c95_18) c95_16)
def c95_20 : ACode :=
  (.seq (.region false [⟨some 16, none, .mv (.s 0)⟩,
    ⟨some 17, none, .mv (.s 3)⟩,
    ⟨some 18, none, .call 104 [(.s 16), (.s 17)]⟩,
    ⟨some 8, none, .mv (.s 18)⟩] [] [8]) .ret)
def c95_21 : ACode :=
  (.cond (.s 15) c95_20 .skip)
def c95_22 : ACode :=
  (.seq (.seq (.region false [⟨some 14, none, .mv (.s 1)⟩,
    ⟨some 15, none, .bin .eql (.s 14) (.c (.t (.str [])))⟩] [] [0, 1, 2, 3, 15]) c95_21) c95_19)
def c95_23 : ACode :=
  (.seq (.region false [⟨some 8, none, .cst (.nils)⟩] [] [8]) .ret)
def c95_24 : ACode :=
  (.cond (.s 13) c95_23 .skip)
def c95_25 : ACode :=
  (.seq (.seq (.region false [⟨some 12, none, .mv (.s 3)⟩,
    ⟨some 13, none, .bin .eql (.s 12) (.c (.t (.int .i64 0)))⟩] [] [0, 1, 2, 3, 13]) c95_24) c95_22)
def c95 : ACode :=
  (.seq (.region false [⟨some 8, none, .cst (.nils)⟩] [] [0, 1, 2, 3]) c95_25)
def r95 : List ARes := [.tmp 8]
def n95 : Nat := 66
/- 96 strings.HasPrefix -/
def c96_0 : ACode :=
  (.seq (.region false [⟨some 5, none, .mv (.s 0)⟩,
    ⟨some 6, none, .mv (.s 1)⟩,
    ⟨some 7, none, .call 107 [(.s 5), (.s 6)]⟩,
    ⟨some 4, none, .mv (.s 7)⟩] [] [4]) .ret)
def c96 : ACode :=
  (.seq (.region false [⟨some 4, none, .cst (.t (.bool false))⟩] [] [0, 1]) c96_0)
def r96 : List ARes := [.tmp 4]
def n96 : Nat := 8
/- 97 supergraph supergraphref25.in -/
def c97_0 : ACode :=
  (.seq (.region false [⟨some 4, none, .cst (.t (.bool false))⟩] [] [4]) .ret)
def c97_1 : ACode :=
  (.region false [⟨some 10, none, .mv (.s 5)⟩,
    ⟨some 11, none, .bin .add (.s 10) (.c (.t (.int .i64 1)))⟩,
    ⟨some 5, none, .mv (.s 11)⟩] [] [0, 1, 5])
def c97_2 : ACode :=
  (.seq (.region false [⟨some 4, none, .cst (.t (.bool true))⟩] [] [4]) .ret)
def c97_3 : ACode :=
  (.cond (.s 17) c97_2 .skip)
def c97_4 : ACode :=
  (.seq (.region false [⟨some 12, none, .mv (.s 0)⟩,
    ⟨some 13, none, .mv (.s 5)⟩,
    ⟨some 14, none, .ia 1 (.s 12) (.s 13)⟩,
    ⟨some 15, none, .ld false 1 (.s 14)⟩,
    ⟨some 16, none, .mv (.s 1)⟩,
    ⟨some 17, none, .bin .eql (.s 15) (.s 16)⟩] [] [0, 1, 5, 17]) c97_3)
def c97_5 : ACode :=
  (.seq (.block 1 c97_4) c97_1)
def c97_6 : ACode :=
  (.cond (.s 9) .skip (.exit 0))
def c97_7 : ACode :=
  (.seq (.seq (.region false [⟨some 6, none, .mv (.s 5)⟩,
    ⟨some 7, none, .mv (.s 0)⟩,
    ⟨some 8, none, .len (.s 7)⟩,
    ⟨some 9, none, .bin .lss (.s 6) (.s 8)⟩] [] [0, 1, 5, 9]) c97_6) c97_5)
def c97_8 : ACode :=
  (.loop c97_7)
def c97_9 : ACode :=
  (.block 0 c97_8)
def c97_10 : ACode :=
  (.seq (.seq (.region false [⟨some 5, none, .cst (.t (.int .i64 0))⟩] [] [0, 1, 5]) c97_9) c97_0)
def c97 : ACode :=
  (.seq (.region false [⟨some 4, none, .cst (.t (.bool false))⟩] [] [0, 1]) c97_10)
def r97 : List ARes := [.tmp 4]
def n97 : Nat := 18
/- 98 supergraph supergraphref25.resolvable -/
def c98_0 : ACode :=
  (.seq (.region false [⟨some 25, none, .mv (.s 8)⟩,
    ⟨some 26, none, .mv (.s 25)⟩,
    ⟨some 27, some (26, true), .fa 4 (.s 9)⟩,
    ⟨some 28, some (26, true), .ld false 1 (.s 27)⟩,
    ⟨some 29, some (26, true), .call 25 [(.s 28), (.c (.t (.str [101, 120, 116, 101, 114, 110, 97, 108])))]⟩,
    ⟨some 30, some (26, true), .un .not (.s 29)⟩,
    ⟨some 31, none, .pick (.s 26) (.s 30) (.c (.t (.bool false)))⟩,
    ⟨some 6, none, .mv (.s 31)⟩] [] [6]) .ret)
def c98_1 : ACode :=
  (.seq (.region false [⟨some 20, none, .ld true 7 (.s 7)⟩,
    ⟨some 21, none, .mv (.s 2)⟩,
    ⟨some 22, none, .call 58 [(.s 20), (.s 21)]⟩,
    ⟨some 19, none, .mv (.s 22)⟩,
    ⟨some 23, none, .ext (.s 19) 0⟩,
    ⟨some 24, none, .ext (.s 19) 1⟩,
    ⟨some 9, none, .alloc [.t (.str []), .nils, .t (.str []), .nils, .nils]⟩,
    ⟨none, none, .st 5 (.s 9) (.s 23)⟩,
    ⟨some 8, none, .mv (.s 24)⟩] [] [8, 9]) c98_0)
def c98_2 : ACode :=
  (.seq (.region false [⟨some 6, none, .cst (.t (.bool false))⟩] [] [6]) .ret)
def c98_3 : ACode :=
  (.cond (.s 18) c98_2 .skip)
def c98_4 : ACode :=
  (.seq (.seq (.region false [⟨some 17, none, .mv (.s 8)⟩,
    ⟨some 18, none, .un .not (.s 17)⟩] [] [2, 7, 18]) c98_3) c98_1)
def c98_5 : ACode :=
  (.seq (.region false [⟨some 11, none, .fa 1 (.s 3)⟩,
    ⟨some 12, none, .ld true 1 (.s 11)⟩,
    ⟨some 13, none, .mv (.s 1)⟩,
    ⟨some 14, none, .call 99 [(.s 12), (.s 13)]⟩,
    ⟨some 10, none, .mv (.s 14)⟩,
    ⟨some 15, none, .ext (.s 10) 0⟩,
    ⟨some 16, none, .ext (.s 10) 1⟩,
    ⟨some 7, none, .alloc [.t (.int .i64 0), .t (.str []), .nils, .nils, .nils, .nils, .nils]⟩,
    ⟨none, none, .st 7 (.s 7) (.s 15)⟩,
    ⟨some 8, none, .mv (.s 16)⟩] [] [2, 7, 8]) c98_4)
def c98 : ACode :=
  (.seq (.region false [⟨some 3, none, .box 2 (.s 0)⟩,
    ⟨some 6, none, .cst (.t (.bool false))⟩] [] [1, 2, 3]) c98_5)
def r98 : List ARes := [.tmp 6]
def n98 : Nat := 32
/- 99 supergraph supergraphref25.object -/
def c99_0 : ACode :=
  (.seq (.region false [⟨some 22, none, .ld true 7 (.s 6)⟩,
    ⟨none, none, .st 7 (.s 4) (.s 22)⟩,
    ⟨some 5, none, .cst (.t (.bool true))⟩] [] [4, 5]) .ret)
def c99_1 : ACode :=
  (.seq (.region false [⟨some 21, none, .build [.t (.int .i64 0), .t (.str []), .nils, .nils, .nils, .nils, .nils] []⟩,
    ⟨none, none, .st 7 (.s 4) (.s 21)⟩,
    ⟨some 5, none, .cst (.t (.bool false))⟩] [] [4, 5]) .ret)
def c99_2 : ACode :=
  (.cond (.s 20) c99_1 .skip)
def c99_3 : ACode :=
  (.seq (.seq (.region false [⟨some 14, none, .mv (.s 7)⟩,
    ⟨some 15, none, .un .not (.s 14)⟩,
    ⟨some 16, none, .mv (.s 15)⟩,
    ⟨some 17, some (16, false), .fa 0 (.s 6)⟩,
    ⟨some 18, some (16, false), .ld false 1 (.s 17)⟩,
    ⟨some 19, some (16, false), .bin .neq (.s 18) (.c (.t (.int .i64 1)))⟩,
    ⟨some 20, none, .pick (.s 16) (.c (.t (.bool true))) (.s 19)⟩] [] [4, 6, 20]) c99_2) c99_0)
def c99_4 : ACode :=
  (.seq (.region false [⟨some 9, none, .ld true 1 (.s 2)⟩,
    ⟨some 10, none, .mv (.s 1)⟩,
    ⟨some 11, none, .call 33 [(.s 9), (.s 10)]⟩,
    ⟨some 8, none, .mv (.s 11)⟩,
    ⟨some 12, none, .ext (.s 8) 0⟩,
    ⟨some 13, none, .ext (.s 8) 1⟩,
    ⟨some 6, none, .alloc [.t (.int .i64 0), .t (.str []), .nils, .nils, .nils, .nils, .nils]⟩,
    ⟨none, none, .st 7 (.s 6) (.s 12)⟩,
    ⟨some 7, none, .mv (.s 13)⟩] [] [4, 6, 7]) c99_3)
def c99 : ACode :=
  (.seq (.region false [⟨some 2, none, .box 1 (.s 0)⟩,
    ⟨some 4, none, .alloc [.t (.int .i64 0), .t (.str []), .nils, .nils, .nils, .nils, .nils]⟩,
    ⟨some 5, none, .cst (.t (.bool false))⟩] [] [1, 2, 4]) c99_4)
def r99 : List ARes := [.cell 4 true 7, .tmp 5]
def n99 : Nat := 23
/- 100 supergraph supergraphref23.split -/
def c100_0 : ACode :=
  (.seq (.region false [⟨some 31, none, .mv (.s 3)⟩,
    ⟨some 2, none, .mv (.s 31)⟩] [] [2]) .ret)
def c100_1 : ACode :=
  (.region false [⟨some 10, none, .mv (.s 5)⟩,
    ⟨some 11, none, .bin .add (.s 10) (.c (.t (.int .i64 1)))⟩,
    ⟨some 5, none, .mv (.s 11)⟩] [] [0, 3, 4, 5])
def c100_2 : ACode :=
  (.region false [⟨some 29, none, .mv (.s 5)⟩,
    ⟨some 30, none, .bin .add (.s 29) (.c (.t (.int .i64 1)))⟩,
    ⟨some 4, none, .mv (.s 30)⟩] [] [0, 3, 4, 5])
def c100_3 : ACode :=
  (.seq (.region false [⟨some 22, none, .mv (.s 3)⟩,
    ⟨some 23, none, .mv (.s 0)⟩,
    ⟨some 24, none, .mv (.s 4)⟩,
    ⟨some 25, none, .mv (.s 5)⟩,
    ⟨some 26, none, .sls (.s 23) (some (.s 24)) (some (.s 25))⟩,
    ⟨some 27, none, .bsl false 1 [[.str []]] [(0, (.s 26))]⟩,
    ⟨some 28, none, .app 1 16 (.s 22) (.s 27)⟩,
    ⟨some 3, none, .mv (.s 28)⟩] [] [0, 3, 5]) c100_2)
def c100_4 : ACode :=
  (.cond (.s 21) c100_3 .skip)
def c100_5 : ACode :=
  (.seq (.region false [⟨some 12, none, .mv (.s 5)⟩,
    ⟨some 13, none, .mv (.s 0)⟩,
    ⟨some 14, none, .lens (.s 13)⟩,
    ⟨some 15, none, .bin .eql (.s 12) (.s 14)⟩,
    ⟨some 16, none, .mv (.s 15)⟩,
    ⟨some 17, some (16, false), .mv (.s 0)⟩,
    ⟨some 18, some (16, false), .mv (.s 5)⟩,
    ⟨some 19, some (16, false), .ixs (.s 17) (.s 18)⟩,
    ⟨some 20, some (16, false), .bin .eql (.s 19) (.c (.t (.int .u8 32)))⟩,
    ⟨some 21, none, .pick (.s 16) (.c (.t (.bool true))) (.s 20)⟩] [] [0, 3, 4, 5, 21]) c100_4)
def c100_6 : ACode :=
  (.seq (.block 1 c100_5) c100_1)
def c100_7 : ACode :=
  (.cond (.s 9) .skip (.exit 0))
def c100_8 : ACode :=
  (.seq (.seq (.region false [⟨some 6, none, .mv (.s 5)⟩,
    ⟨some 7, none, .mv (.s 0)⟩,
    ⟨some 8, none, .lens (.s 7)⟩,
    ⟨some 9, none, .bin .leq (.s 6) (.s 8)⟩] [] [0, 3, 4, 5, 9]) c100_7) c100_6)
def c100_9 : ACode :=
  (.loop c100_8)
def c100_10 : ACode :=
  (.block 0 c100_9)
def c100_11 : ACode :=
  (.seq (.seq (.region false [⟨some 5, none, .cst (.t (.int .i64 0))⟩] [] [0, 3, 4, 5]) c100_10) c100_0)
def c100_12 : ACode :=
  (.seq (.region false [⟨some 4, none, .cst (.t (.int .i64 0))⟩] [] [0, 3, 4]) c100_11)
def c100_13 : ACode :=
  (.seq (.region false [⟨some 3, none, .cst (.nils)⟩] [] [0, 3]) c100_12)
def c100 : ACode :=
  (.seq (.region false [⟨some 2, none, .cst (.nils)⟩] [] [0]) c100_13)
def r100 : List ARes := [.tmp 2]
def n100 : Nat := 32
/- 101 supergraph supergraphref01.Name -/
def c101_0 : ACode :=
  (.seq (.region false [⟨some 2, none, .cst (.t (.bool true))⟩] [] [2]) .ret)
def c101_1 : ACode :=
  (.region false [⟨some 16, none, .mv (.s 3)⟩,
    ⟨some 17, none, .bin .add (.s 16) (.c (.t (.int .i64 1)))⟩,
    ⟨some 3, none, .mv (.s 17)⟩] [] [0, 3])
def c101_2 : ACode :=
  (.seq (.region false [⟨some 2, none, .cst (.t (.bool false))⟩] [] [2]) .ret)
def c101_3 : ACode :=
  (.cond (.s 33) c101_2 .skip)
def c101_4 : ACode :=
  (.seq (.region false [⟨some 18, none, .mv (.s 0)⟩,
    ⟨some 19, none, .mv (.s 3)⟩,
    ⟨some 20, none, .ixs (.s 18) (.s 19)⟩,
    ⟨some 21, none, .call 108 [(.s 20)]⟩,
    ⟨some 22, none, .un .not (.s 21)⟩,
    ⟨some 23, none, .mv (.s 22)⟩,
    ⟨some 24, some (23, true), .mv (.s 3)⟩,
    ⟨some 25, some (23, true), .bin .eql (.s 24) (.c (.t (.int .i64 0)))⟩,
    ⟨some 26, some (23, true), .mv (.s 25)⟩,
    ⟨some 27, some (26, false), .mv (.s 0)⟩,
    ⟨some 28, some (26, false), .mv (.s 3)⟩,
    ⟨some 29, some (26, false), .ixs (.s 27) (.s 28)⟩,
    ⟨some 30, some (26, false), .call 109 [(.s 29)]⟩,
    ⟨some 31, some (26, false), .un .not (.s 30)⟩,
    ⟨some 32, some (23, true), .pick (.s 26) (.c (.t (.bool true))) (.s 31)⟩,
    ⟨some 33, none, .pick (.s 23) (.s 32) (.c (.t (.bool false)))⟩] [] [0, 3, 33]) c101_3)
def c101_5 : ACode :=
  (.seq (.block 1 c101_4) c101_1)
def c101_6 : ACode :=
  (.cond (.s 15) .skip (.exit 0))
def c101_7 : ACode :=
  (.seq (.seq (.region false [⟨some 12, none, .mv (.s 3)⟩,
    ⟨some 13, none, .mv (.s 0)⟩,
    ⟨some 14, none, .lens (.s 13)⟩,
    ⟨some 15, none, .bin .lss (.s 12) (.s 14)⟩] [] [0, 3, 15]) c101_6) c101_5)
def c101_8 : ACode :=
  (.loop c101_7)
def c101_9 : ACode :=
  (.block 0 c101_8)
def c101_10 : ACode :=
  (.seq (.seq (.region false [⟨some 3, none, .cst (.t (.int .i64 0))⟩] [] [0, 3]) c101_9) c101_0)
def c101_11 : ACode :=
  (.seq (.region false [⟨some 2, none, .cst (.t (.bool false))⟩] [] [2]) .ret)
def c101_12 : ACode :=
  (.cond (.s 11) c101_11 .skip)
def c101_13 : ACode :=
  (.seq (.seq (.region false [⟨some 4, none, .mv (.s 0)⟩,
    ⟨some 5, none, .lens (.s 4)⟩,
    ⟨some 6, none, .bin .lss (.s 5) (.c (.t (.int .i64 1)))⟩,
    ⟨some 7, none, .mv (.s 6)⟩,
    ⟨some 8, some (7, false), .mv (.s 0)⟩,
    ⟨some 9, some (7, false), .lens (.s 8)⟩,
    ⟨some 10, some (7, false), .bin .gtr (.s 9) (.c (.t (.int .i64 64)))⟩,
    ⟨some 11, none, .pick (.s 7) (.c (.t (.bool true))) (.s 10)⟩] [] [0, 11]) c101_12) c101_10)
def c101 : ACode :=
  (.seq (.region false [⟨some 2, none, .cst (.t (.bool false))⟩] [] [0]) c101_13)
def r101 : List ARes := [.tmp 2]
def n101 : Nat := 34
/- 102 supergraph supergraphref01.Reserved -/
def c102_0 : ACode :=
  (.seq (.region false [⟨some 3, none, .mv (.s 0)⟩,
    ⟨some 4, none, .lens (.s 3)⟩,
    ⟨some 5, none, .bin .geq (.s 4) (.c (.t (.int .i64 2)))⟩,
    ⟨some 6, none, .mv (.s 5)⟩,
    ⟨some 7, some (6, true), .mv (.s 0)⟩,
    ⟨some 8, some (6, true), .ixs (.s 7) (.c (.t (.int .i64 0)))⟩,
    ⟨some 9, some (6, true), .bin .eql (.s 8) (.c (.t (.int .u8 95)))⟩,
    ⟨some 10, none, .pick (.s 6) (.s 9) (.c (.t (.bool false)))⟩,
    ⟨some 11, none, .mv (.s 10)⟩,
    ⟨some 12, some (11, true), .mv (.s 0)⟩,
    ⟨some 13, some (11, true), .ixs (.s 12) (.c (.t (.int .i64 1)))⟩,
    ⟨some 14, some (11, true), .bin .eql (.s 13) (.c (.t (.int .u8 95)))⟩,
    ⟨some 15, none, .pick (.s 11) (.s 14) (.c (.t (.bool false)))⟩,
    ⟨some 2, none, .mv (.s 15)⟩] [] [2]) .ret)
def c102 : ACode :=
  (.seq (.region false [⟨some 2, none, .cst (.t (.bool false))⟩] [] [0]) c102_0)
def r102 : List ARes := [.tmp 2]
def n102 : Nat := 16
/- 103 supergraph supergraphref10.direct -/
def c103_0 : ACode :=
  (.seq (.region false [⟨some 3, none, .fa 1 (.s 1)⟩,
    ⟨some 4, none, .ld false 1 (.s 3)⟩,
    ⟨some 5, none, .len (.s 4)⟩,
    ⟨some 6, none, .bin .eql (.s 5) (.c (.t (.int .i64 1)))⟩,
    ⟨some 7, none, .mv (.s 6)⟩,
    ⟨some 8, some (7, true), .fa 1 (.s 1)⟩,
    ⟨some 9, some (7, true), .ld false 1 (.s 8)⟩,
    ⟨some 10, some (7, true), .ia 1 (.s 9) (.c (.t (.int .i64 0)))⟩,
    ⟨some 11, some (7, true), .ld false 1 (.s 10)⟩,
    ⟨some 12, some (7, true), .bin .eql (.s 11) (.c (.t (.int .i64 1)))⟩,
    ⟨some 13, none, .pick (.s 7) (.s 12) (.c (.t (.bool false)))⟩,
    ⟨some 2, none, .mv (.s 13)⟩] [] [2]) .ret)
def c103 : ACode :=
  (.seq (.region false [⟨some 1, none, .box 2 (.s 0)⟩,
    ⟨some 2, none, .cst (.t (.bool false))⟩] [] [1]) c103_0)
def r103 : List ARes := [.tmp 2]
def n103 : Nat := 14
/- 104 strings.explode -/
/- 105 strings.Count -/
def c105_0 : ACode :=
  (.region false [⟨some 28, none, .mv (.s 0)⟩,
    ⟨some 29, none, .mv (.s 6)⟩,
    ⟨some 30, none, .mv (.s 1)⟩,
    ⟨some 31, none, .lens (.s 30)⟩,
    ⟨some 32, none, .bin .add (.s 29) (.s 31)⟩,
    ⟨some 33, none, .sls (.s 28) (some (.s 32)) none⟩,
    ⟨some 0, none, .mv (.s 33)⟩] [] [0, 1, 5])
def c105_1 : ACode :=
  (.seq (.region false [⟨some 26, none, .mv (.s 5)⟩,
    ⟨some 27, none, .bin .add (.s 26) (.c (.t (.int .i64 1)))⟩,
    ⟨some 5, none, .mv (.s 27)⟩] [] [0, 1, 5, 6]) c105_0)
def c105_2 : ACode :=
  (.seq (.region false [⟨some 25, none, .mv (.s 5)⟩,
    ⟨some 4, none, .mv (.s 25)⟩] [] [4]) .ret)
def c105_3 : ACode :=
  (.cond (.s 24) c105_2 .skip)
def c105_4 : ACode :=
  (.seq (.seq (.region false [⟨some 23, none, .mv (.s 6)⟩,
    ⟨some 24, none, .bin .eql (.s 23) (.c (.t (.int .i64 (-1))))⟩] [] [0, 1, 5, 6, 24]) c105_3) c105_1)
def c105_5 : ACode :=
  (.seq (.region false [⟨some 20, none, .mv (.s 0)⟩,
    ⟨some 21, none, .mv (.s 1)⟩,
    ⟨some 22, none, .call 106 [(.s 20), (.s 21)]⟩,
    ⟨some 6, none, .mv (.s 22)⟩] [] [0, 1, 5, 6]) c105_4)
def c105_6 : ACode :=
  (.block 1 c105_5)
def c105_7 : ACode :=
  (.loop c105_6)
def c105_8 : ACode :=
  (.block 0 c105_7)
def c105_9 : ACode :=
  (.seq (.region false [⟨some 5, none, .cst (.t (.int .i64 0))⟩] [] [0, 1, 5]) c105_8)
def c105_10 : ACode :=
  (.seq (.region false [⟨some 16, none, .mv (.s 0)⟩,
    ⟨some 17, none, .mv (.s 1)⟩,
    ⟨some 18, none, .ixs (.s 17) (.c (.t (.int .i64 0)))⟩,
    ⟨some 19, none, .nw (.xtr true (.s 16) (.s 18))⟩,
    ⟨some 4, none, .mv (.s 19)⟩] [] [4]) .ret)
def c105_11 : ACode :=
  (.cond (.s 15) c105_10 .skip)
def c105_12 : ACode :=
  (.seq (.seq (.region false [⟨some 13, none, .mv (.s 1)⟩,
    ⟨some 14, none, .lens (.s 13)⟩,
    ⟨some 15, none, .bin .eql (.s 14) (.c (.t (.int .i64 1)))⟩] [] [0, 1, 15]) c105_11) c105_9)
def c105_13 : ACode :=
  (.seq (.region false [⟨some 10, none, .mv (.s 0)⟩,
    ⟨some 11, none, .call 110 [(.s 10)]⟩,
    ⟨some 12, none, .bin .add (.s 11) (.c (.t (.int .i64 1)))⟩,
    ⟨some 4, none, .mv (.s 12)⟩] [] [4]) .ret)
def c105_14 : ACode :=
  (.cond (.s 9) c105_13 .skip)
def c105_15 : ACode :=
  (.seq (.seq (.region false [⟨some 7, none, .mv (.s 1)⟩,
    ⟨some 8, none, .lens (.s 7)⟩,
    ⟨some 9, none, .bin .eql (.s 8) (.c (.t (.int .i64 0)))⟩] [] [0, 1, 9]) c105_14) c105_12)
def c105 : ACode :=
  (.seq (.region false [⟨some 4, none, .cst (.t (.int .i64 0))⟩] [] [0, 1]) c105_15)
def r105 : List ARes := [.tmp 4]
def n105 : Nat := 34
/- 106 strings.Index -/
def c106_0 : ACode :=
  (.seq (.region false [⟨some 5, none, .mv (.s 0)⟩,
    ⟨some 6, none, .mv (.s 1)⟩,
    ⟨some 7, none, .call 113 [(.s 5), (.s 6)]⟩,
    ⟨some 4, none, .mv (.s 7)⟩] [] [4]) .ret)
def c106 : ACode :=
  (.seq (.region false [⟨some 4, none, .cst (.t (.int .i64 0))⟩] [] [0, 1]) c106_0)
def r106 : List ARes := [.tmp 4]
def n106 : Nat := 8
/- 107 internal stringslite.HasPrefix -/
def c107_0 : ACode :=
  (.seq (.region false [⟨some 5, none, .mv (.s 0)⟩,
    ⟨some 6, none, .lens (.s 5)⟩,
    ⟨some 7, none, .mv (.s 1)⟩,
    ⟨some 8, none, .lens (.s 7)⟩,
    ⟨some 9, none, .bin .geq (.s 6) (.s 8)⟩,
    ⟨some 10, none, .mv (.s 9)⟩,
    ⟨some 11, some (10, true), .mv (.s 0)⟩,
    ⟨some 12, some (10, true), .mv (.s 1)⟩,
    ⟨some 13, some (10, true), .lens (.s 12)⟩,
    ⟨some 14, some (10, true), .sls (.s 11) none (some (.s 13))⟩,
    ⟨some 15, some (10, true), .mv (.s 1)⟩,
    ⟨some 16, some (10, true), .bin .eql (.s 14) (.s 15)⟩,
    ⟨some 17, none, .pick (.s 10) (.s 16) (.c (.t (.bool false)))⟩,
    ⟨some 4, none, .mv (.s 17)⟩] [] [4]) .ret)
def c107 : ACode :=
  (.seq (.region false [⟨some 4, none, .cst (.t (.bool false))⟩] [] [0, 1]) c107_0)
def r107 : List ARes := [.tmp 4]
def n107 : Nat := 18
/- 108 supergraph supergraphref01.letter -/
def c108_0 : ACode :=
  (.seq (.region false [⟨some 3, none, .mv (.s 0)⟩,
    ⟨some 4, none, .bin .geq (.s 3) (.c (.t (.int .u8 65)))⟩,
    ⟨some 5, none, .mv (.s 4)⟩,
    ⟨some 6, some (5, true), .mv (.s 0)⟩,
    ⟨some 7, some (5, true), .bin .leq (.s 6) (.c (.t (.int .u8 90)))⟩,
    ⟨some 8, none, .pick (.s 5) (.s 7) (.c (.t (.bool false)))⟩,
    ⟨some 9, none, .mv (.s 8)⟩,
    ⟨some 10, some (9, false), .mv (.s 0)⟩,
    ⟨some 11, some (9, false), .bin .geq (.s 10) (.c (.t (.int .u8 97)))⟩,
    ⟨some 12, some (9, false), .mv (.s 11)⟩,
    ⟨some 13, some (12, true), .mv (.s 0)⟩,
    ⟨some 14, some (12, true), .bin .leq (.s 13) (.c (.t (.int .u8 122)))⟩,
    ⟨some 15, some (9, false), .pick (.s 12) (.s 14) (.c (.t (.bool false)))⟩,
    ⟨some 16, none, .pick (.s 9) (.c (.t (.bool true))) (.s 15)⟩,
    ⟨some 17, none, .mv (.s 16)⟩,
    ⟨some 18, some (17, false), .mv (.s 0)⟩,
    ⟨some 19, some (17, false), .bin .eql (.s 18) (.c (.t (.int .u8 95)))⟩,
    ⟨some 20, none, .pick (.s 17) (.c (.t (.bool true))) (.s 19)⟩,
    ⟨some 2, none, .mv (.s 20)⟩] [] [2]) .ret)
def c108 : ACode :=
  (.seq (.region false [⟨some 2, none, .cst (.t (.bool false))⟩] [] [0]) c108_0)
def r108 : List ARes := [.tmp 2]
def n108 : Nat := 21
/- 109 supergraph supergraphref01.digit -/
def c109_0 : ACode :=
  (.seq (.region false [⟨some 3, none, .mv (.s 0)⟩,
    ⟨some 4, none, .bin .geq (.s 3) (.c (.t (.int .u8 48)))⟩,
    ⟨some 5, none, .mv (.s 4)⟩,
    ⟨some 6, some (5, true), .mv (.s 0)⟩,
    ⟨some 7, some (5, true), .bin .leq (.s 6) (.c (.t (.int .u8 57)))⟩,
    ⟨some 8, none, .pick (.s 5) (.s 7) (.c (.t (.bool false)))⟩,
    ⟨some 2, none, .mv (.s 8)⟩] [] [2]) .ret)
def c109 : ACode :=
  (.seq (.region false [⟨some 2, none, .cst (.t (.bool false))⟩] [] [0]) c109_0)
def r109 : List ARes := [.tmp 2]
def n109 : Nat := 9
/- 110 unicode utf8.RuneCountInString -/
/- 111 unicode utf8.DecodeRuneInString -/
/- 113 internal stringslite.Index -/
def c113_0 : ACode :=
  (.seq (.region false [⟨some 4, none, .cst (.t (.int .i64 (-1)))⟩] [] [4]) .ret)
def c113_1 : ACode :=
  (.seq (.region false [⟨some 4, none, .cst (.t (.int .i64 (-1)))⟩] [] [4]) .ret)
def c113_2 : ACode :=
  (.seq (.region false [⟨some 115, none, .mv (.s 12)⟩,
    ⟨some 116, none, .mv (.s 8)⟩,
    ⟨some 117, none, .bin .add (.s 115) (.s 116)⟩,
    ⟨some 4, none, .mv (.s 117)⟩] [] [4]) .ret)
def c113_3 : ACode :=
  (.cond (.s 114) c113_2 .skip)
def c113_4 : ACode :=
  (.seq (.seq (.region false [⟨some 113, none, .mv (.s 12)⟩,
    ⟨some 114, none, .bin .geq (.s 113) (.c (.t (.int .i64 0)))⟩] [] [8, 12, 114]) c113_3) c113_1)
def c113_5 : ACode :=
  (.seq (.region false [⟨some 108, none, .mv (.s 0)⟩,
    ⟨some 109, none, .mv (.s 8)⟩,
    ⟨some 110, none, .sls (.s 108) (some (.s 109)) none⟩,
    ⟨some 111, none, .mv (.s 1)⟩,
    ⟨some 112, none, .call 116 [(.s 110), (.s 111)]⟩,
    ⟨some 12, none, .mv (.s 112)⟩] [] [8, 12]) c113_4)
def c113_6 : ACode :=
  (.seq (.region false [⟨some 140, none, .mv (.s 8)⟩,
    ⟨some 141, none, .mv (.s 13)⟩,
    ⟨some 142, none, .bin .add (.s 140) (.s 141)⟩,
    ⟨some 4, none, .mv (.s 142)⟩] [] [4]) .ret)
def c113_7 : ACode :=
  (.seq (.region false [⟨some 4, none, .cst (.t (.int .i64 (-1)))⟩] [] [4]) .ret)
def c113_8 : ACode :=
  (.cond (.s 139) c113_7 .skip)
def c113_9 : ACode :=
  (.seq (.seq (.region false [⟨some 138, none, .mv (.s 13)⟩,
    ⟨some 139, none, .bin .lss (.s 138) (.c (.t (.int .i64 0)))⟩] [] [8, 13, 139]) c113_8) c113_6)
def c113_10 : ACode :=
  (.seq (.region false [⟨some 133, none, .mv (.s 0)⟩,
    ⟨some 134, none, .mv (.s 8)⟩,
    ⟨some 135, none, .sls (.s 133) (some (.s 134)) none⟩,
    ⟨some 136, none, .mv (.s 1)⟩,
    ⟨some 137, none, .call 118 [(.s 135), (.s 136)]⟩,
    ⟨some 13, none, .mv (.s 137)⟩] [] [8, 13]) c113_9)
def c113_11 : ACode :=
  (.cond (.s 132) c113_10 .skip)
def c113_12 : ACode :=
  (.seq (.region false [⟨some 118, none, .mv (.s 5)⟩,
    ⟨some 119, none, .nw (.bad)⟩,
    ⟨some 120, none, .bin .gtr (.s 118) (.s 119)⟩,
    ⟨some 121, none, .mv (.s 120)⟩,
    ⟨some 122, some (121, true), .mv (.s 10)⟩,
    ⟨some 123, some (121, true), .mv (.s 8)⟩,
    ⟨some 124, some (121, true), .bin .shr (.s 123) (.c (.t (.int .u64 4)))⟩,
    ⟨some 125, some (121, true), .bin .add (.c (.t (.int .i64 4))) (.s 124)⟩,
    ⟨some 126, some (121, true), .bin .geq (.s 122) (.s 125)⟩,
    ⟨some 127, none, .pick (.s 121) (.s 126) (.c (.t (.bool false)))⟩,
    ⟨some 128, none, .mv (.s 127)⟩,
    ⟨some 129, some (128, true), .mv (.s 8)⟩,
    ⟨some 130, some (128, true), .mv (.s 9)⟩,
    ⟨some 131, some (128, true), .bin .lss (.s 129) (.s 130)⟩,
    ⟨some 132, none, .pick (.s 128) (.s 131) (.c (.t (.bool false)))⟩] [] [0, 1, 5, 6, 7, 8, 9, 10, 132]) c113_11)
def c113_13 : ACode :=
  (.cond (.s 107) c113_5 c113_12)
def c113_14 : ACode :=
  (.seq (.region false [⟨some 99, none, .mv (.s 5)⟩,
    ⟨some 100, none, .nw (.bad)⟩,
    ⟨some 101, none, .bin .leq (.s 99) (.s 100)⟩,
    ⟨some 102, none, .mv (.s 101)⟩,
    ⟨some 103, some (102, true), .mv (.s 10)⟩,
    ⟨some 104, some (102, true), .mv (.s 8)⟩,
    ⟨some 105, some (102, true), .call 117 [(.s 104)]⟩,
    ⟨some 106, some (102, true), .bin .gtr (.s 103) (.s 105)⟩,
    ⟨some 107, none, .pick (.s 102) (.s 106) (.c (.t (.bool false)))⟩] [] [0, 1, 5, 6, 7, 8, 9, 10, 107]) c113_13)
def c113_15 : ACode :=
  (.seq (.region false [⟨some 97, none, .mv (.s 10)⟩,
    ⟨some 98, none, .bin .add (.s 97) (.c (.t (.int .i64 1)))⟩,
    ⟨some 10, none, .mv (.s 98)⟩] [] [0, 1, 5, 6, 7, 8, 9, 10]) c113_14)
def c113_16 : ACode :=
  (.seq (.region false [⟨some 95, none, .mv (.s 8)⟩,
    ⟨some 96, none, .bin .add (.s 95) (.c (.t (.int .i64 1)))⟩,
    ⟨some 8, none, .mv (.s 96)⟩] [] [0, 1, 5, 6, 7, 8, 9, 10]) c113_15)
def c113_17 : ACode :=
  (.seq (.region false [⟨some 94, none, .mv (.s 8)⟩,
    ⟨some 4, none, .mv (.s 94)⟩] [] [4]) .ret)
def c113_18 : ACode :=
  (.cond (.s 93) c113_17 .skip)
def c113_19 : ACode :=
  (.seq (.seq (.region false [⟨some 78, none, .mv (.s 0)⟩,
    ⟨some 79, none, .mv (.s 8)⟩,
    ⟨some 80, none, .bin .add (.s 79) (.c (.t (.int .i64 1)))⟩,
    ⟨some 81, none, .ixs (.s 78) (.s 80)⟩,
    ⟨some 82, none, .mv (.s 7)⟩,
    ⟨some 83, none, .bin .eql (.s 81) (.s 82)⟩,
    ⟨some 84, none, .mv (.s 83)⟩,
    ⟨some 85, some (84, true), .mv (.s 0)⟩,
    ⟨some 86, some (84, true), .mv (.s 8)⟩,
    ⟨some 87, some (84, true), .mv (.s 8)⟩,
    ⟨some 88, some (84, true), .mv (.s 5)⟩,
    ⟨some 89, some (84, true), .bin .add (.s 87) (.s 88)⟩,
    ⟨some 90, some (84, true), .sls (.s 85) (some (.s 86)) (some (.s 89))⟩,
    ⟨some 91, some (84, true), .mv (.s 1)⟩,
    ⟨some 92, some (84, true), .bin .eql (.s 90) (.s 91)⟩,
    ⟨some 93, none, .pick (.s 84) (.s 92) (.c (.t (.bool false)))⟩] [] [0, 1, 5, 6, 7, 8, 9, 10, 93]) c113_18) c113_16)
def c113_20 : ACode :=
  (.region false [⟨some 74, none, .mv (.s 8)⟩,
    ⟨some 75, none, .mv (.s 11)⟩,
    ⟨some 76, none, .bin .add (.s 75) (.c (.t (.int .i64 1)))⟩,
    ⟨some 77, none, .bin .add (.s 74) (.s 76)⟩,
    ⟨some 8, none, .mv (.s 77)⟩] [] [0, 1, 5, 6, 7, 8, 9, 10])
def c113_21 : ACode :=
  (.seq (.region false [⟨some 4, none, .cst (.t (.int .i64 (-1)))⟩] [] [4]) .ret)
def c113_22 : ACode :=
  (.cond (.s 73) c113_21 .skip)
def c113_23 : ACode :=
  (.seq (.seq (.region false [⟨some 72, none, .mv (.s 11)⟩,
    ⟨some 73, none, .bin .lss (.s 72) (.c (.t (.int .i64 0)))⟩] [] [0, 1, 5, 6, 7, 8, 9, 10, 11, 73]) c113_22) c113_20)
def c113_24 : ACode :=
  (.seq (.region false [⟨some 65, none, .mv (.s 0)⟩,
    ⟨some 66, none, .mv (.s 8)⟩,
    ⟨some 67, none, .bin .add (.s 66) (.c (.t (.int .i64 1)))⟩,
    ⟨some 68, none, .mv (.s 9)⟩,
    ⟨some 69, none, .sls (.s 65) (some (.s 67)) (some (.s 68))⟩,
    ⟨some 70, none, .mv (.s 6)⟩,
    ⟨some 71, none, .call 115 [(.s 69), (.s 70)]⟩,
    ⟨some 11, none, .mv (.s 71)⟩] [] [0, 1, 5, 6, 7, 8, 9, 10, 11]) c113_23)
def c113_25 : ACode :=
  (.cond (.s 64) c113_24 .skip)
def c113_26 : ACode :=
  (.seq (.seq (.region false [⟨some 60, none, .mv (.s 0)⟩,
    ⟨some 61, none, .mv (.s 8)⟩,
    ⟨some 62, none, .ixs (.s 60) (.s 61)⟩,
    ⟨some 63, none, .mv (.s 6)⟩,
    ⟨some 64, none, .bin .neq (.s 62) (.s 63)⟩] [] [0, 1, 5, 6, 7, 8, 9, 10, 64]) c113_25) c113_19)
def c113_27 : ACode :=
  (.block 2 c113_26)
def c113_28 : ACode :=
  (.cond (.s 59) .skip (.exit 1))
def c113_29 : ACode :=
  (.seq (.seq (.region false [⟨some 57, none, .mv (.s 8)⟩,
    ⟨some 58, none, .mv (.s 9)⟩,
    ⟨some 59, none, .bin .lss (.s 57) (.s 58)⟩] [] [0, 1, 5, 6, 7, 8, 9, 10, 59]) c113_28) c113_27)
def c113_30 : ACode :=
  (.loop c113_29)
def c113_31 : ACode :=
  (.seq (.block 1 c113_30) c113_0)
def c113_32 : ACode :=
  (.seq (.region false [⟨some 10, none, .cst (.t (.int .i64 0))⟩] [] [0, 1, 5, 6, 7, 8, 9, 10]) c113_31)
def c113_33 : ACode :=
  (.seq (.region false [⟨some 52, none, .mv (.s 0)⟩,
    ⟨some 53, none, .lens (.s 52)⟩,
    ⟨some 54, none, .mv (.s 5)⟩,
    ⟨some 55, none, .bin .sub (.s 53) (.s 54)⟩,
    ⟨some 56, none, .bin .add (.s 55) (.c (.t (.int .i64 1)))⟩,
    ⟨some 9, none, .mv (.s 56)⟩] [] [0, 1, 5, 6, 7, 8, 9]) c113_32)
def c113_34 : ACode :=
  (.seq (.region false [⟨some 8, none, .cst (.t (.int .i64 0))⟩] [] [0, 1, 5, 6, 7, 8]) c113_33)
def c113_35 : ACode :=
  (.seq (.region false [⟨some 50, none, .mv (.s 1)⟩,
    ⟨some 51, none, .ixs (.s 50) (.c (.t (.int .i64 1)))⟩,
    ⟨some 7, none, .mv (.s 51)⟩] [] [0, 1, 5, 6, 7]) c113_34)
def c113_36 : ACode :=
  (.seq (.region false [⟨some 48, none, .mv (.s 1)⟩,
    ⟨some 49, none, .ixs (.s 48) (.c (.t (.int .i64 0)))⟩,
    ⟨some 6, none, .mv (.s 49)⟩] [] [0, 1, 5, 6]) c113_35)
def c113_37 : ACode :=
  (.seq (.region false [⟨some 4, none, .cst (.t (.int .i64 0))⟩] [] [4]) .ret)
def c113_38 : ACode :=
  (.seq (.region false [⟨some 27, none, .mv (.s 0)⟩,
    ⟨some 28, none, .mv (.s 1)⟩,
    ⟨some 29, none, .ixs (.s 28) (.c (.t (.int .i64 0)))⟩,
    ⟨some 30, none, .call 115 [(.s 27), (.s 29)]⟩,
    ⟨some 4, none, .mv (.s 30)⟩] [] [4]) .ret)
def c113_39 : ACode :=
  (.seq (.region false [⟨some 4, none, .cst (.t (.int .i64 (-1)))⟩] [] [4]) .ret)
def c113_40 : ACode :=
  (.seq (.region false [⟨some 45, none, .mv (.s 0)⟩,
    ⟨some 46, none, .mv (.s 1)⟩,
    ⟨some 47, none, .call 116 [(.s 45), (.s 46)]⟩,
    ⟨some 4, none, .mv (.s 47)⟩] [] [4]) .ret)
def c113_41 : ACode :=
  (.cond (.s 36) c113_40 .skip)
def c113_42 : ACode :=
  (.seq (.region false [⟨some 37, none, .mv (.s 5)⟩,
    ⟨some 38, none, .nw (.bad)⟩,
    ⟨some 39, none, .bin .leq (.s 37) (.s 38)⟩,
    ⟨some 40, none, .mv (.s 39)⟩,
    ⟨some 41, some (40, true), .mv (.s 0)⟩,
    ⟨some 42, some (40, true), .lens (.s 41)⟩,
    ⟨some 43, some (40, true), .bin .leq (.s 42) (.c (.t (.int .i64 64)))⟩,
    ⟨some 44, none, .pick (.s 40) (.s 43) (.c (.t (.bool false)))⟩,
    ⟨some 36, none, .mv (.s 44)⟩] [] [0, 1, 5, 36]) c113_41)
def c113_43 : ACode :=
  (.cond (.s 31) c113_39 c113_42)
def c113_44 : ACode :=
  (.seq (.region false [⟨some 32, none, .mv (.s 5)⟩,
    ⟨some 33, none, .mv (.s 0)⟩,
    ⟨some 34, none, .lens (.s 33)⟩,
    ⟨some 35, none, .bin .geq (.s 32) (.s 34)⟩,
    ⟨some 31, none, .mv (.s 35)⟩] [] [0, 1, 5, 31]) c113_43)
def c113_45 : ACode :=
  (.cond (.s 24) c113_38 c113_44)
def c113_46 : ACode :=
  (.seq (.region false [⟨some 25, none, .mv (.s 5)⟩,
    ⟨some 26, none, .bin .eql (.s 25) (.c (.t (.int .i64 1)))⟩,
    ⟨some 24, none, .mv (.s 26)⟩] [] [0, 1, 5, 24]) c113_45)
def c113_47 : ACode :=
  (.cond (.s 16) c113_37 c113_46)
def c113_48 : ACode :=
  (.seq (.region false [⟨some 17, none, .mv (.s 5)⟩,
    ⟨some 18, none, .bin .eql (.s 17) (.c (.t (.int .i64 0)))⟩,
    ⟨some 19, none, .mv (.s 18)⟩,
    ⟨some 20, some (19, false), .mv (.s 1)⟩,
    ⟨some 21, some (19, false), .mv (.s 0)⟩,
    ⟨some 22, some (19, false), .bin .eql (.s 20) (.s 21)⟩,
    ⟨some 23, none, .pick (.s 19) (.c (.t (.bool true))) (.s 22)⟩,
    ⟨some 16, none, .mv (.s 23)⟩] [] [0, 1, 5, 16]) c113_47)
def c113_49 : ACode :=
  (.seq (.block 0 c113_48) c113_36)
def c113_50 : ACode :=
  (.seq (.region false [⟨some 14, none, .mv (.s 1)⟩,
    ⟨some 15, none, .lens (.s 14)⟩,
    ⟨some 5, none, .mv (.s 15)⟩] [] [0, 1, 5]) c113_49)
def c113 : ACode :=
  (.seq (.region false [⟨some 4, none, .cst (.t (.int .i64 0))⟩] [] [0, 1]) c113_50)
def r113 : List ARes := [.tmp 4]
def n113 : Nat := 143
/- 114 unicode utf8.decodeRuneInStringSlow -/
/- 115 internal stringslite.IndexByte -/
def c115_0 : ACode :=
  (.seq (.region false [⟨some 5, none, .mv (.s 0)⟩,
    ⟨some 6, none, .mv (.s 1)⟩,
    ⟨some 7, none, .nw (.xtr false (.s 5) (.s 6))⟩,
    ⟨some 4, none, .mv (.s 7)⟩] [] [4]) .ret)
def c115 : ACode :=
  (.seq (.region false [⟨some 4, none, .cst (.t (.int .i64 0))⟩] [] [0, 1]) c115_0)
def r115 : List ARes := [.tmp 4]
def n115 : Nat := 8
/- 117 internal bytealg.Cutover -/
/- 118 internal bytealg.IndexRabinKarp[string] -/
/- 120 internal bytealg.hashStr[string] -/

end Go.GB.C11


/-
  GbY: calls of functions that are handed objects: the whole store goes along.
-/
namespace Go.GB
section
variable {P : Program}

/-- the labels behind a call that was handed the names below m -/
def L.backFrom (Λ : L) (m m' : Nat) (Λ' : L) : L where
  lab := fun b => if Λ.high m b then Λ.lab b else Λ'.lab b
  fro := fun k => if k < m' then Λ'.fro k else Λ.fro k
  nxt := Λ.nxt
  w := Λ'.w

theorem FnOk.same {f : FuncId} {vs : List V} {m : Nat} {sto : List (Nat × AObj)} {out : Out} (h : FnOk P f vs ⟨sto, m⟩ out) (hrd : out.rd = true) (hb : V.bds m vs = true) (hs : stoBd m sto = true) (hob : ∀ k o, (k, o) ∈ out.ob → aget sto k ≠ none ∨ (m ≤ k ∧ k < m + out.n)) : FnAt P f vs m sto out := by
  refine ⟨h.1, hob, fun Λ args hr hle hfree hsz hargs => ?_⟩
  refine (h.2 (Λ.hideFrom m) args (hr.hf hs) rfl hsz fun j v y h1 h2 => (hargs j v y h1 h2).hf (V.bds_at hb j y h2)).mono fun e w' he => ?_
  obtain ⟨v, Λ', rfl, rfl, k1, k2, k3, k4⟩ := he
  simp only at k2 k3
  have hlt : ∀ {b : Nat}, Λ.high m b = true → b < Λ.w.heap.size := by
    intro b hh
    rcases Nat.lt_or_ge b Λ.w.heap.size with h | h
    · exact h
    · unfold L.high at hh; rw [hr.new b h] at hh; simp at hh
  have hH : ∀ {b : Nat}, Λ.high m b = true → (Λ.backFrom m (m + out.n) Λ').lab b = Λ.lab b := fun h => by simp [L.backFrom, h]
  have hL : ∀ {b : Nat}, Λ.high m b = false → (Λ.backFrom m (m + out.n) Λ').lab b = Λ'.lab b := fun h => by simp [L.backFrom, h]
  have hheap : ∀ {b : Nat}, Λ.high m b = true → ∃ fr, Λ'.lab b = .fix (some fr) ∧ Λ'.w.heap[b]? = Λ.w.heap[b]? ∧ ((∃ k, Λ.lab b = .obj k ∧ m ≤ k ∧ fr = 0) ∨ ∃ k, Λ.lab b = .arr k fr ∧ m ≤ k) := by
    intro b hh
    obtain ⟨fr, e1, e2⟩ := hf_high hh
    obtain ⟨g1, g2⟩ := k1.fr.fix b (hlt hh) _ e1
    exact ⟨fr, g1, g2, e2⟩
  have hlow : ∀ {b k : Nat}, k < m → (Λ.lab b = .obj k ∨ ∃ n, Λ.lab b = .arr k n) → Λ.high m b = false := by
    intro b k hk hb
    unfold L.high
    rcases hb with hb | ⟨n, hb⟩ <;> rw [hb] <;> simp <;> omega
  have hkp : Kp Λ (Λ.backFrom m (m + out.n) Λ') := by
    refine ⟨⟨k1.fr.os, k1.fr.tape, k1.fr.output, k1.fr.size, fun b hb fr hl => ?_, fun b hb k fr hl o ho => ?_⟩, Nat.le_refl _, fun b k _ hl => ?_, fun b k n _ hb hl hf => ?_, fun k hk => ?_⟩
    · have hh : Λ.high m b = false := by unfold L.high; rw [hl]
      obtain ⟨g1, g2⟩ := k1.fr.fix b hb fr (by rw [hf_low hh]; exact hl)
      exact ⟨by rw [hL hh]; exact g1, g2⟩
    · cases hh : Λ.high m b with
      | true =>
        obtain ⟨fr', g1, g2, g3⟩ := hheap hh
        exact ⟨by unfold Rd; rw [hH hh, hl]; exact ho, cell?_heap g2⟩
      | false =>
        obtain ⟨g1, g2⟩ := k1.fr.arr b hb k fr (by rw [hf_low hh]; exact hl) o ho
        exact ⟨by unfold Rd; rw [hL hh]; exact g1, g2⟩
    · cases hh : Λ.high m b with
      | true => rw [hH hh]; exact hl
      | false =>
        have hk : k < m := by unfold L.high at hh; rw [hl] at hh; simpa using hh
        rw [hL hh]; exact k1.obj b k hk (hf_obj hl hk)
    · cases hh : Λ.high m b with
      | true =>
        obtain ⟨fr', g1, g2, g3⟩ := hheap hh
        exact ⟨by rw [hH hh]; exact hl, g2⟩
      | false =>
        have hk : k < m := by unfold L.high at hh; rw [hl] at hh; simpa using hh
        have e1 : (Λ.hideFrom m).fro k = Λ.fro k := by simp [L.hideFrom, hk]
        have e2 : (Λ.backFrom m (m + out.n) Λ').fro k = Λ'.fro k := by simp [L.backFrom]; omega
        obtain ⟨g1, g2⟩ := k1.own b k n hk hb (hf_arr hl hk) (by rw [← e2, hf, e1])
        exact ⟨by rw [hL hh]; exact g1, g2⟩
    · simp only [L.backFrom]
      by_cases h1 : k < m
      · have := k1.fro k h1
        have e1 : (Λ.hideFrom m).fro k = Λ.fro k := by simp [L.hideFrom, h1]
        rw [if_pos (by omega)]; omega
      · by_cases h2 : k < m + out.n
        · rw [if_pos h2, (hfree k (by omega) h2).2.1.fro]; omega
        · rw [if_neg h2]; exact Nat.le_refl _
  -- values of the callee, seen again by the caller
  have hobj : ∀ {b k : Nat}, Λ'.lab b = .obj k → (Λ.backFrom m (m + out.n) Λ').lab b = .obj k := by
    intro b k hb
    cases hh : Λ.high m b with
    | true => obtain ⟨fr, g1, _⟩ := hheap hh; rw [g1] at hb; simp at hb
    | false => rw [hL hh]; exact hb
  have harr : ∀ {b k n : Nat}, Λ'.lab b = .arr k n → (Λ.backFrom m (m + out.n) Λ').lab b = .arr k n := by
    intro b k n hb
    cases hh : Λ.high m b with
    | true => obtain ⟨fr, g1, _⟩ := hheap hh; rw [g1] at hb; simp at hb
    | false => rw [hL hh]; exact hb
  have hrep : ∀ {u : Value} {y : T}, RepT Λ'.lab Λ'.w u y → RepT (Λ.backFrom m (m + out.n) Λ').lab (Λ.backFrom m (m + out.n) Λ').w u y := by
    intro u y hy
    refine hy.keep fun b o _ _ hrd => ⟨?_, rfl⟩
    cases hh : Λ.high m b with
    | true =>
      obtain ⟨fr, g1, _, g3⟩ := hheap hh
      unfold Rd at hrd ⊢
      rw [g1] at hrd
      rw [hH hh]
      rcases g3 with ⟨k, e, _, rfl⟩ | ⟨k, e, _⟩
      · omega
      · rw [e]; exact hrd
    | false => unfold Rd; rw [hL hh]; exact hrd
  have hfro : ∀ {k : Nat}, k < Λ'.nxt → (Λ.backFrom m (m + out.n) Λ').fro k = Λ'.fro k := by
    intro k hk; rw [k2] at hk; simp [L.backFrom, hk]
  have hval : ∀ {u : Value} {y : V}, RelV Λ' u y → RelV (Λ.backFrom m (m + out.n) Λ') u y := by
    intro u y hy
    induction hy with
    | t h => exact .t (hrep h)
    | nils => exact .nils
    | @own v k sz xs h hsz hl hn ho =>
      refine .own (hrep h) hsz (by show k < Λ.nxt; omega) (by rw [hfro hl]; exact hn) fun he => ?_
      rcases ho (by rw [← hfro hl]; exact he) with ho | ⟨b, cap, arr, e, hv, hb', hh, hc, hn'⟩
      · exact .inl ho
      · exact .inr ⟨b, cap, arr, e, hv, harr hb', hh, hc, hn'⟩
    | slc hl hc h => exact .slc (by show _ < Λ.nxt; omega) hc (hobj h)
    | agg hs _ ih => exact .agg hs ih
    | tup hs _ ih => exact .tup hs ih
    | ptr hl h => exact .ptr (by show _ < Λ.nxt; omega) (hobj h)
    | mp hl h => exact .mp (by show _ < Λ.nxt; omega) (hobj h)
    | fn hs h => exact .fn hs fun j v c h1 h2 => let ⟨b, e1, e2, e3⟩ := h j v c h1 h2; ⟨b, e1, hobj e2, by show _ < Λ.nxt; omega⟩
    | gd _ h' ih => exact .gd ih h'
    | top => exact .top
    | ub h h' => exact .ub h h'
  have hname : ∀ {b k : Nat}, Λ.high m b = true → ((Λ.backFrom m (m + out.n) Λ').lab b = .obj k ∨ ∃ n, (Λ.backFrom m (m + out.n) Λ').lab b = .arr k n) → m + out.n ≤ k ∧ (Λ.lab b = .obj k ∨ ∃ n, Λ.lab b = .arr k n) := by
    intro b k hh hb
    rw [hH hh] at hb
    refine ⟨?_, hb⟩
    have hge : m ≤ k := by unfold L.high at hh; rcases hb with hb | ⟨n, hb⟩ <;> rw [hb] at hh <;> simpa using hh
    rcases Nat.lt_or_ge k (m + out.n) with h | h
    · have := (hfree k hge h).2.1
      rcases hb with hb | ⟨n, hb⟩
      · exact absurd hb (this.obj b)
      · exact absurd hb (this.arr b n)
    · exact h
  have hlowname : ∀ {b k : Nat}, Λ.high m b = false → ((Λ.backFrom m (m + out.n) Λ').lab b = .obj k ∨ ∃ n, (Λ.backFrom m (m + out.n) Λ').lab b = .arr k n) → k < m + out.n ∧ (Λ'.lab b = .obj k ∨ ∃ n, Λ'.lab b = .arr k n) := by
    intro b k hh hb
    rw [hL hh] at hb
    have := k3.bnd b k hb
    exact ⟨by omega, hb⟩
  refine ⟨v, Λ.backFrom m (m + out.n) Λ', rfl, rfl, hkp, rfl, ?_, hval k4, fun k hk hn hcase => ?_⟩
  · refine ⟨fun k o ho => ?_, fun b b' k h1 h2 => ?_, fun b hb => ?_, fun b k hb => ?_, fun k hk => ?_⟩
    · obtain ⟨g1, g2⟩ := k3.sto k o ho
      refine ⟨by show k < Λ.nxt; omega, ?_⟩
      cases o with
      | cells cs =>
        obtain ⟨b, arr, e, e1, e2, e3, e4⟩ := g2
        exact ⟨b, arr, e, hobj e1, e2, e3, fun j v c a1 a2 => hval (e4 j v c a1 a2)⟩
      | map kag es sx =>
        obtain ⟨b, ents, clock, e1, e2, e3⟩ := g2
        exact ⟨b, ents, clock, hobj e1, e2, e3.keep (fun _ _ h => hrep h) (fun _ _ _ _ h => hval h)⟩
      | arr n => unfold RelO at *; rw [hfro g1]; exact g2
      | iter q s seen c =>
        obtain ⟨b, bm, e1, e2, e3, e4⟩ := g2
        exact ⟨b, bm, hobj e1, e2, hobj e3, by show q < Λ.nxt; omega⟩
    · cases hh : Λ.high m b with
      | true =>
        obtain ⟨q1, q2⟩ := hname hh (.inl h1)
        cases hh' : Λ.high m b' with
        | true =>
          rw [hH hh] at h1; rw [hH hh'] at h2
          exact hr.inj b b' k h1 h2
        | false => have := (hlowname hh' (.inl h2)).1; omega
      | false =>
        have q := (hlowname hh (.inl h1)).1
        cases hh' : Λ.high m b' with
        | true => have := (hname hh' (.inl h2)).1; omega
        | false => rw [hL hh] at h1; rw [hL hh'] at h2; exact k3.inj b b' k h1 h2
    · have hge : Λ.w.heap.size ≤ b := Nat.le_trans k1.fr.size hb
      have hh : Λ.high m b = false := by unfold L.high; rw [hr.new b hge]
      rw [hL hh]; exact k3.new b hb
    · show k < Λ.nxt
      cases hh : Λ.high m b with
      | true => exact hr.bnd b k (hname hh hb).2
      | false => have := (hlowname hh hb).1; omega
    · have hk' : Λ.nxt ≤ k := hk
      simp only [L.backFrom]
      rw [if_neg (by omega)]; exact hr.frz k hk'
  · rcases hcase with hge | ⟨hlt', hrd'⟩
    · refine ⟨fun b hb => ?_, fun b n hb => ?_, ?_⟩
      · cases hh : Λ.high m b with
        | true => rw [hH hh] at hb; exact hk.obj b hb
        | false => have := (hlowname hh (.inl hb)).1; omega
      · cases hh : Λ.high m b with
        | true => rw [hH hh] at hb; exact hk.arr b n hb
        | false => have := (hlowname hh (.inr ⟨n, hb⟩)).1; omega
      · simp only [L.backFrom]; rw [if_neg (by omega)]; exact hk.fro
    · rw [hrd] at hrd'; cases hrd'

/-- a call that is handed the whole store and leaves it as it is -/
theorem callSame {f : FuncId} {vs : List V} {x : V} {base : Nat} {sto : List (Nat × AObj)} {K : Out → Prop} (h : FnOk P f vs ⟨sto, base⟩ { v := x, rd := true }) (hb : V.bds base vs = true) (hs : stoBd base sto = true) (hk : K { v := x, rd := true }) : FnEv P f vs base sto K :=
  ⟨_, by simp only [if_true]; exact h.same rfl hb hs (by simp), hk⟩

end
end Go.GB


/-
  GbYe: objects that are lists, and maps of a type, without names in them.
-/
namespace Go.GB
def mE {κ ν : Type} (ek : κ → List T) (ev : ν → T) (l : List (κ × ν)) : List (List T × V) := l.map fun e => (ek e.1, .t (ev e.2))
def cE {ν : Type} (ev : ν → T) (l : List ν) : List V := l.map fun x => .t (ev x)
theorem V.bds_cE {ν : Type} (m : Nat) (ev : ν → T) : ∀ (l : List ν), V.bds m (cE ev l) = true
  | [] => rfl
  | x :: r => by have := V.bds_cE m ev r; simp only [cE] at this; simp [cE, V.bds, V.bd, this]
theorem LeXs.cE {ν : Type} {m m' : Nat} {ev : ν → T} {l l' : List ν} (h : l = l') : LeXs m m' (cE ev l) (cE ev l') := h ▸ .same (V.bds_cE m ev l)
theorem LeO.cE {ν : Type} {m m' : Nat} {ev : ν → T} {l l' : List ν} (h : l = l') : LeO m m' (.cells (cE ev l)) (.cells (cE ev l')) := .cells (.cE h)
theorem LeO.mE {κ ν : Type} {m m' : Nat} {kag : Bool} {ek : κ → List T} {ev : ν → T} {l l' : List (κ × ν)} {sx sx' : Option (Nat × List Nat)} (h : l = l') (hs : sx' = none ∨ sx' = sx) : LeO m m' (.map kag (mE ek ev l) sx) (.map kag (mE ek ev l') sx') := by
  subst h
  have := V.bds_cE m (fun e : κ × ν => ev e.2) l
  simp only [Go.GB.cE] at this
  exact .map rfl (by simp only [Go.GB.mE, List.map_map, Function.comp_def]; exact .same this) hs

end Go.GB


/-
  GbYr: calls in bigger stores: the callee knows some of the caller's objects, by its own names.
-/
namespace Go.GB
section
variable {P : Program}

mutual
/-- a value under other names -/
def V.ren (ρ : Nat → Nat) : V → V
  | .t x => .t x
  | .nils => .nils
  | .top => .top
  | .own k sz xs => .own (ρ k) sz xs
  | .slc k o l s => .slc (ρ k) o l s
  | .ptr k o => .ptr (ρ k) o
  | .mp k => .mp (ρ k)
  | .fn f cs => .fn f (cs.map fun c => (ρ c.1, c.2))
  | .agg cs => .agg (V.rens ρ cs)
  | .tup cs => .tup (V.rens ρ cs)
  | .gd c x => .gd c (x.ren ρ)
  | .ub c d => .ub c d
def V.rens (ρ : Nat → Nat) : List V → List V
  | [] => []
  | x :: r => x.ren ρ :: V.rens ρ r
end
theorem V.rens_eq (ρ : Nat → Nat) : ∀ (cs : List V), V.rens ρ cs = cs.map (V.ren ρ)
  | [] => rfl
  | x :: r => by simp [V.rens, V.rens_eq ρ r]

def AObj.ren (ρ : Nat → Nat) : AObj → AObj
  | .cells cs => .cells (V.rens ρ cs)
  | .map kag es st => .map kag (es.map fun e => (e.1, e.2.ren ρ)) st
  | .arr n => .arr n
  | .iter q s seen c => .iter (ρ q) s seen c

structure Rn (ρ : Nat → Nat) (σ : Nat → Option Nat) (m1 m n : Nat) : Prop where
  inv : ∀ k j, σ k = some j → ρ j = k ∧ j < m1 + n
  at_ : ∀ j, j < m1 + n → σ (ρ j) = some j
  low : ∀ j, j < m1 → ρ j < m
  new : ∀ j, m1 ≤ j → j < m1 + n → ρ j = m + (j - m1)

/-- what the callee sees -/
def L.view (Λ : L) (ρ : Nat → Nat) (σ : Nat → Option Nat) (m1 : Nat) : L where
  lab := fun b => match Λ.lab b with
    | .obj k => match σ k with | some j => .obj j | none => .fix (some 0)
    | .arr k fr => match σ k with | some j => .arr j fr | none => .fix (some fr)
    | x => x
  fro := fun j => if j < m1 then Λ.fro (ρ j) else 0
  nxt := m1
  w := Λ.w

/-- a block that the callee does not see as an object -/
def L.hid (Λ : L) (σ : Nat → Option Nat) (b : Nat) : Bool :=
  match Λ.lab b with
  | .obj k => (σ k).isNone
  | .arr k _ => (σ k).isNone
  | _ => false

def Lab.ren (ρ : Nat → Nat) : Lab → Lab
  | .obj k => .obj (ρ k)
  | .arr k fr => .arr (ρ k) fr
  | x => x

/-- the caller's labels behind the call -/
def L.unview (Λ : L) (ρ : Nat → Nat) (σ : Nat → Option Nat) (Λ' : L) : L where
  lab := fun b => if Λ.hid σ b then Λ.lab b else (Λ'.lab b).ren ρ
  fro := fun k => match σ k with | some j => Λ'.fro j | none => Λ.fro k
  nxt := Λ.nxt
  w := Λ'.w

variable {ρ : Nat → Nat} {σ : Nat → Option Nat} {m1 m n : Nat}

theorem view_hid {Λ : L} {b : Nat} (h : Λ.hid σ b = true) : ∃ fr, (Λ.view ρ σ m1).lab b = .fix (some fr) ∧ ((∃ k, Λ.lab b = .obj k ∧ σ k = none ∧ fr = 0) ∨ ∃ k, Λ.lab b = .arr k fr ∧ σ k = none) := by
  unfold L.hid at h
  simp only [L.view]
  cases hl : Λ.lab b with
  | fix fr => rw [hl] at h; simp at h
  | obj k => rw [hl] at h; simp at h; exact ⟨0, by simp [h], .inl ⟨k, rfl, h, rfl⟩⟩
  | arr k fr => rw [hl] at h; simp at h; exact ⟨fr, by simp [h], .inr ⟨k, rfl, h⟩⟩
theorem view_obj {Λ : L} {b k j : Nat} (h : Λ.lab b = .obj k) (hk : σ k = some j) : (Λ.view ρ σ m1).lab b = .obj j := by simp [L.view, h, hk]
theorem view_arr {Λ : L} {b k j fr : Nat} (h : Λ.lab b = .arr k fr) (hk : σ k = some j) : (Λ.view ρ σ m1).lab b = .arr j fr := by simp [L.view, h, hk]
theorem view_fix {Λ : L} {b : Nat} {fr : Option Nat} (h : Λ.lab b = .fix fr) : (Λ.view ρ σ m1).lab b = .fix fr := by simp [L.view, h]
theorem view_obj_inv {Λ : L} {b j : Nat} (h : (Λ.view ρ σ m1).lab b = .obj j) : ∃ k, Λ.lab b = .obj k ∧ σ k = some j := by
  simp only [L.view] at h
  cases hl : Λ.lab b with
  | fix fr => simp [hl] at h
  | obj k => simp only [hl] at h; split at h <;> simp_all
  | arr k fr => simp only [hl] at h; split at h <;> simp_all
theorem view_arr_inv {Λ : L} {b j fr : Nat} (h : (Λ.view ρ σ m1).lab b = .arr j fr) : ∃ k, Λ.lab b = .arr k fr ∧ σ k = some j := by
  simp only [L.view] at h
  cases hl : Λ.lab b with
  | fix fr => simp [hl] at h
  | obj k => simp only [hl] at h; split at h <;> simp_all
  | arr k fr => simp only [hl] at h; split at h <;> simp_all
theorem view_rd {Λ : L} {b o : Nat} (h : Rd Λ.lab b o) : Rd (Λ.view ρ σ m1).lab b o := by
  unfold Rd at *
  cases hl : Λ.lab b with
  | fix fr => rw [view_fix hl]; rw [hl] at h; exact h
  | obj k => rw [hl] at h; exact h.elim
  | arr k fr =>
    rw [hl] at h
    cases hk : σ k with
    | some j => rw [view_arr hl hk]; exact h
    | none => simp only [L.view, hl, hk]; exact h
theorem RepT.view {Λ : L} {v : Value} {x : T} (h : RepT Λ.lab Λ.w v x) : RepT (Λ.view ρ σ m1).lab (Λ.view ρ σ m1).w v x := h.keep fun _ _ _ _ hr => ⟨view_rd hr, rfl⟩

theorem RelV.view (hn : Rn ρ σ m1 m n) {Λ : L} {v : Value} {y : V} (h : RelV Λ v y) : ∀ {x : V}, x.ren ρ = y → x.bd m1 = true → RelV (Λ.view ρ σ m1) v x := by
  induction h with
  | t h => intro x hx hb; cases x <;> simp [V.ren] at hx; subst hx; exact .t h.view
  | nils => intro x hx hb; cases x <;> simp [V.ren] at hx; exact .nils
  | @own v k sz xs h hsz hl hm ho =>
    intro x hx hb; cases x <;> simp [V.ren] at hx
    rename_i j sz' xs'
    obtain ⟨e1, rfl, rfl⟩ := hx
    have hj : j < m1 := by simpa [V.bd] using hb
    have hf : (Λ.view ρ σ m1).fro j = Λ.fro k := by simp [L.view, hj, e1]
    have hs : σ k = some j := by rw [← e1]; exact hn.at_ j (by omega)
    refine .own h.view hsz hj (by rw [hf]; exact hm) fun he => ?_
    rcases ho (by rw [← hf]; exact he) with ho | ⟨b, cap, arr, e, hv, hb', hh, hc, hn'⟩
    · exact .inl ho
    · exact .inr ⟨b, cap, arr, e, hv, view_arr hb' hs, hh, hc, hn'⟩
  | @slc b k off len cap sz hl hc h =>
    intro x hx hb; cases x <;> simp [V.ren] at hx
    rename_i j _ _ _
    obtain ⟨e1, rfl, rfl, rfl⟩ := hx
    have hj : j < m1 := by simpa [V.bd] using hb
    exact .slc hj hc (view_obj h (by rw [← e1]; exact hn.at_ j (by omega)))
  | @agg vs cs hs hv ih =>
    intro x hx hb; cases x <;> simp [V.ren] at hx
    rename_i ds
    rw [V.rens_eq] at hx; subst hx
    refine .agg (by simpa using hs) fun j v c h1 h2 => ih j v (c.ren ρ) h1 (by simp [h2]) rfl (V.bds_at (by simpa [V.bd] using hb) j c h2)
  | @tup vs cs hs hv ih =>
    intro x hx hb; cases x <;> simp [V.ren] at hx
    rename_i ds
    rw [V.rens_eq] at hx; subst hx
    refine .tup (by simpa using hs) fun j v c h1 h2 => ih j v (c.ren ρ) h1 (by simp [h2]) rfl (V.bds_at (by simpa [V.bd] using hb) j c h2)
  | @ptr b k off hl h =>
    intro x hx hb; cases x <;> simp [V.ren] at hx
    rename_i j _
    obtain ⟨e1, rfl⟩ := hx
    have hj : j < m1 := by simpa [V.bd] using hb
    exact .ptr hj (view_obj h (by rw [← e1]; exact hn.at_ j (by omega)))
  | @mp b k hl h =>
    intro x hx hb; cases x <;> simp [V.ren] at hx
    rename_i j
    have hj : j < m1 := by simpa [V.bd] using hb
    exact .mp hj (view_obj h (by rw [← hx]; exact hn.at_ j (by omega)))
  | @fn f vs cs hs h =>
    intro x hx hb; cases x <;> simp [V.ren] at hx
    obtain ⟨rfl, rfl⟩ := hx
    rename_i ds
    refine .fn (by simpa using hs) fun j v c h1 h2 => ?_
    obtain ⟨b, e1, e2, e3⟩ := h j v (ρ c.1, c.2) h1 (by simp only [List.getElem?_map, h2, Option.map_some])
    have hk : c.1 < m1 := by
      simp only [V.bd, List.all_eq_true, decide_eq_true_eq] at hb
      exact hb c (List.mem_of_getElem? h2)
    exact ⟨b, e1, view_obj e2 (hn.at_ c.1 (by omega)), hk⟩
  | gd _ h' ih =>
    intro x hx hb; cases x <;> simp [V.ren] at hx
    obtain ⟨rfl, e⟩ := hx
    exact .gd (fun hc => ih hc e (by simpa [V.bd] using hb)) h'
  | top => intro x hx hb; cases x <;> simp [V.ren] at hx; exact .top
  | ub h h' => intro x hx hb; cases x <;> simp only [V.ren, V.ub.injEq, reduceCtorEq] at hx; obtain ⟨rfl, rfl⟩ := hx; exact .ub h h'

theorem aget_asets_ren (hn : Rn ρ σ m1 m n) : ∀ (ob : List (Nat × AObj)) (s s1 : List (Nat × AObj)), (∀ j, j < m1 + n → aget s (ρ j) = (aget s1 j).map (AObj.ren ρ)) → (∀ j o, (j, o) ∈ ob → j < m1 + n) →
    (∀ j, j < m1 + n → aget (asets s (ob.map fun e => (ρ e.1, e.2.ren ρ))) (ρ j) = (aget (asets s1 ob) j).map (AObj.ren ρ)) ∧ (∀ k, σ k = none → aget (asets s (ob.map fun e => (ρ e.1, e.2.ren ρ))) k = aget s k)
  | [], s, s1, h, _ => ⟨h, fun _ _ => rfl⟩
  | (i, o) :: r, s, s1, h, hb => by
    simp only [List.map_cons, asets]
    have hi : i < m1 + n := hb i o (by simp)
    obtain ⟨g1, g2⟩ := aget_asets_ren hn r (aset s (ρ i) (o.ren ρ)) (aset s1 i o) (fun j hj => by
      rw [aget_aset, aget_aset]
      by_cases e : i = j
      · subst e; simp
      · have : ρ i ≠ ρ j := by
          intro e'
          have h1 := hn.at_ i hi
          have h2 := hn.at_ j hj
          rw [e', h2] at h1
          simp at h1; exact e h1.symm
        simp only [e, this, if_false]; exact h j hj) (fun j o hj => hb j o (by simp [hj]))
    refine ⟨g1, fun k hk => ?_⟩
    rw [g2 k hk, aget_aset]
    have : ρ i ≠ k := by rintro rfl; rw [hn.at_ i hi] at hk; cases hk
    simp [this]

theorem FnOk.ren {out : Out} (hn : Rn ρ σ m1 m out.n) {f : FuncId} {vs : List V} {sto s1 : List (Nat × AObj)} (h : FnOk P f vs ⟨s1, m1⟩ out) (hb : V.bds m1 vs = true) (hs : stoBd m1 s1 = true)
    (hsub : ∀ j, j < m1 → aget sto (ρ j) = (aget s1 j).map (AObj.ren ρ)) (hob : ∀ k o, (k, o) ∈ out.ob → k < m1 + out.n ∧ (aget s1 k ≠ none ∨ m1 ≤ k)) :
    FnAt P f (V.rens ρ vs) m sto { v := out.v.ren ρ, ob := out.ob.map fun e => (ρ e.1, e.2.ren ρ), n := out.n, rd := true } := by
  refine ⟨h.1, fun k o hk => ?_, fun Λ args hr hle hfree hsz hargs => ?_⟩
  · simp only [List.mem_map] at hk
    obtain ⟨⟨j, o'⟩, hj, e⟩ := hk
    simp at e
    obtain ⟨rfl, rfl⟩ := e
    obtain ⟨h1, h2⟩ := hob j o' hj
    by_cases hj1 : j < m1
    · left
      rcases h2 with h2 | h2
      · rw [hsub j hj1]; simpa using h2
      · omega
    · right
      have := hn.new j (by omega) h1
      show m ≤ ρ j ∧ ρ j < m + out.n
      omega
  simp only at hle hfree
  -- names that are new bear nothing
  have hfresh : ∀ {b k j : Nat}, σ k = some j → (Λ.lab b = .obj k ∨ ∃ fr, Λ.lab b = .arr k fr) → j < m1 := by
    intro b k j hk hl
    obtain ⟨e, hj⟩ := hn.inv k j hk
    rcases Nat.lt_or_ge j m1 with h | h
    · exact h
    · have e2 := hn.new j h hj
      have := (hfree k (by omega) (by omega)).2.1
      rcases hl with hl | ⟨fr, hl⟩
      · exact absurd hl (this.obj b)
      · exact absurd hl (this.arr b fr)
  have hr1 : RelS (Λ.view ρ σ m1) ⟨s1, m1⟩ := by
    refine ⟨fun j o hj => ?_, fun b b' j h1 h2 => ?_, fun b hb => ?_, fun b j hb => ?_, fun j hj => ?_⟩
    · obtain ⟨h1, h2⟩ := stoBd_at hs j o hj
      refine ⟨h1, ?_⟩
      have hro := (hr.sto (ρ j) (o.ren ρ) (by rw [hsub j h1, hj]; rfl)).2
      have hs' := hn.at_ j (by omega)
      cases o with
      | cells cs =>
        obtain ⟨b, arr, e, e1, e2, e3, e4⟩ := hro
        rw [V.rens_eq] at e3 e4
        exact ⟨b, arr, e, view_obj e1 hs', e2, by simpa using e3, fun i v c a1 a2 => (e4 i v (c.ren ρ) a1 (by simp [a2])).view hn rfl (V.bds_at (by simpa [AObj.bd] using h2) i c a2)⟩
      | map kag es sx =>
        obtain ⟨b, ents, clock, e1, e2, e3⟩ := hro
        refine ⟨b, ents, clock, view_obj e1 hs', e2, ⟨by simpa using e3.size, fun i e kv a1 a2 => ?_, e3.born, e3.apart, e3.known⟩⟩
        obtain ⟨g1, g2⟩ := e3.at_ i e (kv.1, kv.2.ren ρ) a1 (by simp [a2])
        exact ⟨g1.keep fun _ _ h => h.view, g2.view hn rfl (V.bds_at (by simpa [AObj.bd] using h2) i kv.2 (by simp [a2]))⟩
      | arr n => have hro' : Λ.fro (ρ j) = n := hro
                 unfold RelO; simp [L.view, h1, hro']
      | iter q s seen c =>
        have hq : q < m1 := by simpa [AObj.bd] using h2
        obtain ⟨b, bm, e1, e2, e3, e4⟩ := hro
        exact ⟨b, bm, view_obj e1 hs', e2, view_obj e3 (hn.at_ q (by omega)), hq⟩
    · obtain ⟨k, a1, a2⟩ := view_obj_inv h1
      obtain ⟨k', b1, b2⟩ := view_obj_inv h2
      have := (hn.inv _ _ a2).1
      have := (hn.inv _ _ b2).1
      subst_vars
      exact hr.inj b b' _ a1 b1
    · exact view_fix (hr.new b hb)
    · rcases hb with hb | ⟨fr, hb⟩
      · obtain ⟨k, a1, a2⟩ := view_obj_inv hb; exact hfresh a2 (.inl a1)
      · obtain ⟨k, a1, a2⟩ := view_arr_inv hb; exact hfresh a2 (.inr ⟨_, a1⟩)
    · have hj' : m1 ≤ j := hj
      simp [L.view]; omega
  refine (h.2 (Λ.view ρ σ m1) args hr1 rfl (by rw [hsz, V.rens_eq]; simp) fun j v y h1 h2 => (hargs j v (y.ren ρ) h1 (by rw [V.rens_eq]; simp [h2])).view hn rfl (V.bds_at hb j y h2)).mono fun e w' he => ?_
  obtain ⟨v, Λ', rfl, rfl, k1, k2, k3, k4⟩ := he
  simp only at k2 k3
  have hlt : ∀ {b : Nat}, Λ.hid σ b = true → b < Λ.w.heap.size := by
    intro b hh
    rcases Nat.lt_or_ge b Λ.w.heap.size with h | h
    · exact h
    · unfold L.hid at hh; rw [hr.new b h] at hh; simp at hh
  have hH : ∀ {b : Nat}, Λ.hid σ b = true → (Λ.unview ρ σ Λ').lab b = Λ.lab b := fun h => by simp [L.unview, h]
  have hL : ∀ {b : Nat}, Λ.hid σ b = false → (Λ.unview ρ σ Λ').lab b = (Λ'.lab b).ren ρ := fun h => by simp [L.unview, h]
  have hheap : ∀ {b : Nat}, Λ.hid σ b = true → ∃ fr, Λ'.lab b = .fix (some fr) ∧ Λ'.w.heap[b]? = Λ.w.heap[b]? ∧ ((∃ k, Λ.lab b = .obj k ∧ σ k = none ∧ fr = 0) ∨ ∃ k, Λ.lab b = .arr k fr ∧ σ k = none) := by
    intro b hh
    obtain ⟨fr, e1, e2⟩ := view_hid (ρ := ρ) (m1 := m1) hh
    obtain ⟨g1, g2⟩ := k1.fr.fix b (hlt hh) _ e1
    exact ⟨fr, g1, g2, e2⟩
  have hvis : ∀ {b k j : Nat}, σ k = some j → (Λ.lab b = .obj k ∨ ∃ fr, Λ.lab b = .arr k fr) → Λ.hid σ b = false := by
    intro b k j hk hb
    unfold L.hid
    rcases hb with hb | ⟨fr, hb⟩ <;> rw [hb] <;> simp [hk]
  have hfix : ∀ {b : Nat} {fr : Option Nat}, Λ.lab b = .fix fr → Λ.hid σ b = false := by
    intro b fr hb; unfold L.hid; rw [hb]
  have rdren : ∀ {b o : Nat} {l : Nat → Lab}, l b = (Λ'.lab b).ren ρ → Rd Λ'.lab b o → Rd l b o := by
    intro b o l e h
    unfold Rd at *
    rw [e]
    cases hl : Λ'.lab b <;> rw [hl] at h <;> simp only [Lab.ren] <;> exact h
  have hkp : Kp Λ (Λ.unview ρ σ Λ') := by
    refine ⟨⟨k1.fr.os, k1.fr.tape, k1.fr.output, k1.fr.size, fun b hb fr hl => ?_, fun b hb k fr hl o ho => ?_⟩, Nat.le_refl _, fun b k _ hl => ?_, fun b k n _ hb hl hf => ?_, fun k hk => ?_⟩
    · obtain ⟨g1, g2⟩ := k1.fr.fix b hb fr (view_fix hl)
      exact ⟨by rw [hL (hfix hl), g1]; rfl, g2⟩
    · cases hk : σ k with
      | none =>
        have hh : Λ.hid σ b = true := by unfold L.hid; rw [hl]; simp [hk]
        obtain ⟨fr', g1, g2, g3⟩ := hheap hh
        exact ⟨by unfold Rd; rw [hH hh, hl]; exact ho, cell?_heap g2⟩
      | some j =>
        have hh := hvis hk (.inr ⟨_, hl⟩)
        obtain ⟨g1, g2⟩ := k1.fr.arr b hb j fr (view_arr hl hk) o ho
        exact ⟨rdren (hL hh) g1, g2⟩
    · cases hk : σ k with
      | none => rw [hH (by unfold L.hid; rw [hl]; simp [hk])]; exact hl
      | some j =>
        rw [hL (hvis hk (.inl hl)), k1.obj b j (hfresh hk (.inl hl)) (view_obj hl hk)]
        simp only [Lab.ren, (hn.inv k j hk).1]
    · cases hk : σ k with
      | none =>
        have hh : Λ.hid σ b = true := by unfold L.hid; rw [hl]; simp [hk]
        obtain ⟨fr', g1, g2, g3⟩ := hheap hh
        exact ⟨by rw [hH hh]; exact hl, g2⟩
      | some j =>
        have hj := hfresh hk (.inr ⟨_, hl⟩)
        have e1 : (Λ.view ρ σ m1).fro j = Λ.fro k := by simp [L.view, hj, (hn.inv k j hk).1]
        have e2 : (Λ.unview ρ σ Λ').fro k = Λ'.fro j := by simp [L.unview, hk]
        obtain ⟨g1, g2⟩ := k1.own b j n hj hb (view_arr hl hk) (by rw [← e2, hf, e1])
        exact ⟨by rw [hL (hvis hk (.inr ⟨_, hl⟩)), g1]; simp only [Lab.ren, (hn.inv k j hk).1], g2⟩
    · cases hk' : σ k with
      | none => simp [L.unview, hk']
      | some j =>
        obtain ⟨e1, e2⟩ := hn.inv k j hk'
        simp only [L.unview, hk']
        by_cases hj : j < m1
        · have := k1.fro j hj
          simpa [L.view, hj, e1] using this
        · have e3 := hn.new j (by omega) e2
          rw [(hfree k (by omega) (by omega)).2.1.fro]; omega
  have hobj : ∀ {b j : Nat}, Λ'.lab b = .obj j → (Λ.unview ρ σ Λ').lab b = .obj (ρ j) := by
    intro b k hb
    cases hh : Λ.hid σ b with
    | true => obtain ⟨fr, g1, _⟩ := hheap hh; rw [g1] at hb; simp at hb
    | false => rw [hL hh, hb]; rfl
  have harr : ∀ {b j n : Nat}, Λ'.lab b = .arr j n → (Λ.unview ρ σ Λ').lab b = .arr (ρ j) n := by
    intro b k n hb
    cases hh : Λ.hid σ b with
    | true => obtain ⟨fr, g1, _⟩ := hheap hh; rw [g1] at hb; simp at hb
    | false => rw [hL hh, hb]; rfl
  have hrep : ∀ {u : Value} {y : T}, RepT Λ'.lab Λ'.w u y → RepT (Λ.unview ρ σ Λ').lab (Λ.unview ρ σ Λ').w u y := by
    intro u y hy
    refine hy.keep fun b o _ _ hrd => ⟨?_, rfl⟩
    cases hh : Λ.hid σ b with
    | true =>
      obtain ⟨fr, g1, _, g3⟩ := hheap hh
      unfold Rd at hrd ⊢
      rw [g1] at hrd
      rw [hH hh]
      rcases g3 with ⟨k, e, _, rfl⟩ | ⟨k, e, _⟩
      · simp at hrd
      · rw [e]; exact hrd
    | false => exact rdren (hL hh) hrd
  have hfro : ∀ {j : Nat}, j < m1 + out.n → (Λ.unview ρ σ Λ').fro (ρ j) = Λ'.fro j := by
    intro j hj; simp [L.unview, hn.at_ j hj]
  have hρ : ∀ {j : Nat}, j < m1 + out.n → ρ j < Λ.nxt := by
    intro j hj
    by_cases h1 : j < m1
    · have := hn.low j h1; omega
    · have := hn.new j (by omega) hj; omega
  have hval : ∀ {u : Value} {y : V}, RelV Λ' u y → RelV (Λ.unview ρ σ Λ') u (y.ren ρ) := by
    intro u y hy
    induction hy with
    | t h => exact .t (hrep h)
    | nils => exact .nils
    | @own v k sz xs h hsz hl hn' ho =>
      rw [k2] at hl
      refine .own (hrep h) hsz (hρ hl) (by rw [hfro hl]; exact hn') fun he => ?_
      rcases ho (by rw [← hfro hl]; exact he) with ho | ⟨b, cap, arr, e, hv, hb', hh, hc, hn'⟩
      · exact .inl ho
      · exact .inr ⟨b, cap, arr, e, hv, harr hb', hh, hc, hn'⟩
    | slc hl hc h => exact .slc (hρ (by omega)) hc (hobj h)
    | agg hs _ ih =>
      refine .agg (by rw [V.rens_eq]; simpa using hs) fun j v c h1 h2 => ?_
      rw [V.rens_eq, List.getElem?_map, Option.map_eq_some_iff] at h2
      obtain ⟨c', h3, rfl⟩ := h2
      exact ih j v c' h1 h3
    | tup hs _ ih =>
      refine .tup (by rw [V.rens_eq]; simpa using hs) fun j v c h1 h2 => ?_
      rw [V.rens_eq, List.getElem?_map, Option.map_eq_some_iff] at h2
      obtain ⟨c', h3, rfl⟩ := h2
      exact ih j v c' h1 h3
    | ptr hl h => exact .ptr (hρ (by omega)) (hobj h)
    | mp hl h => exact .mp (hρ (by omega)) (hobj h)
    | fn hs h =>
      refine .fn (by simpa using hs) fun j v c h1 h2 => ?_
      rw [List.getElem?_map, Option.map_eq_some_iff] at h2
      obtain ⟨c', h3, rfl⟩ := h2
      obtain ⟨b, e1, e2, e3⟩ := h j v c' h1 h3
      exact ⟨b, e1, hobj e2, hρ (by omega)⟩
    | gd _ h' ih => exact .gd ih h'
    | top => exact .top
    | ub h h' => exact .ub h h'
  have hname : ∀ {b k : Nat}, Λ.hid σ b = true → ((Λ.unview ρ σ Λ').lab b = .obj k ∨ ∃ n, (Λ.unview ρ σ Λ').lab b = .arr k n) → σ k = none ∧ (Λ.lab b = .obj k ∨ ∃ n, Λ.lab b = .arr k n) := by
    intro b k hh hb
    rw [hH hh] at hb
    refine ⟨?_, hb⟩
    unfold L.hid at hh; rcases hb with hb | ⟨n, hb⟩ <;> rw [hb] at hh <;> simpa using hh
  have hseen : ∀ {b k : Nat}, Λ.hid σ b = false → ((Λ.unview ρ σ Λ').lab b = .obj k ∨ ∃ n, (Λ.unview ρ σ Λ').lab b = .arr k n) → ∃ j, ρ j = k ∧ j < m1 + out.n ∧ (Λ'.lab b = .obj j ∨ ∃ n, Λ'.lab b = .arr j n) := by
    intro b k hh hb
    rw [hL hh] at hb
    cases hl : Λ'.lab b with
    | fix fr => rw [hl] at hb; simp [Lab.ren] at hb
    | obj j => rw [hl] at hb; simp [Lab.ren] at hb; have := k3.bnd b j (.inl hl); exact ⟨j, hb, by omega, .inl rfl⟩
    | arr j n => rw [hl] at hb; simp [Lab.ren] at hb; have := k3.bnd b j (.inr ⟨n, hl⟩); exact ⟨j, hb, by omega, .inr ⟨n, rfl⟩⟩
  obtain ⟨ag1, ag2⟩ := aget_asets_ren hn out.ob sto s1 (fun j hj => by
    by_cases h1 : j < m1
    · exact hsub j h1
    · have e3 := hn.new j (by omega) hj
      rw [(hfree (ρ j) (by omega) (by omega)).2.2]
      cases ha : aget s1 j with
      | none => rfl
      | some o => have := (stoBd_at hs j o ha).1; omega) (fun j o hj => (hob j o hj).1)
  refine ⟨v, Λ.unview ρ σ Λ', rfl, rfl, hkp, rfl, ?_, hval k4, fun k hk _ hcase => ?_⟩
  · refine ⟨fun k o ho => ?_, fun b b' k h1 h2 => ?_, fun b hb => ?_, fun b k hb => ?_, fun k hk => ?_⟩
    · cases hk : σ k with
      | none =>
        have ho' : aget sto k = some o := by rw [← ag2 k hk]; exact ho
        obtain ⟨g1, g2⟩ := hr.sto k o ho'
        refine ⟨g1, g2.mono hkp g1 (fun b hb => ?_) (by simp [L.unview, hk])⟩
        obtain ⟨fr, q1, q2, _⟩ := hheap (b := b) (by unfold L.hid; rw [hb]; simp [hk])
        exact q2
      | some j =>
        obtain ⟨e1, e2⟩ := hn.inv k j hk
        subst e1
        have ho' : aget (asets sto (out.ob.map fun e => (ρ e.1, e.2.ren ρ))) (ρ j) = some o := ho
        rw [ag1 j e2, Option.map_eq_some_iff] at ho'
        obtain ⟨o1, a1, rfl⟩ := ho'
        obtain ⟨g1, g2⟩ := k3.sto j o1 a1
        refine ⟨hρ e2, ?_⟩
        cases o1 with
        | cells cs =>
          obtain ⟨b, arr, e, e1, e2, e3, e4⟩ := g2
          refine ⟨b, arr, e, hobj e1, e2, by rw [V.rens_eq]; simpa using e3, fun i v c a1 a2 => ?_⟩
          rw [V.rens_eq, List.getElem?_map, Option.map_eq_some_iff] at a2
          obtain ⟨c', a3, rfl⟩ := a2
          exact hval (e4 i v c' a1 a3)
        | map kag es sx =>
          obtain ⟨b, ents, clock, e1, e2, e3⟩ := g2
          refine ⟨b, ents, clock, hobj e1, e2, ⟨by simpa using e3.size, fun i e kv a1 a2 => ?_, e3.born, e3.apart, e3.known⟩⟩
          rw [List.getElem?_map, Option.map_eq_some_iff] at a2
          obtain ⟨kv', a3, rfl⟩ := a2
          obtain ⟨q1, q2⟩ := e3.at_ i e kv' a1 a3
          exact ⟨q1.keep fun _ _ h => hrep h, hval q2⟩
        | arr n' =>
          unfold RelO at *
          simp only [AObj.ren]
          rw [hfro e2]; exact g2
        | iter q s seen c =>
          obtain ⟨b, bm, a1, a2, a3, a4⟩ := g2
          exact ⟨b, bm, hobj a1, a2, hobj a3, hρ (by omega)⟩
    · cases hh : Λ.hid σ b with
      | true =>
        obtain ⟨q1, q2⟩ := hname hh (.inl h1)
        cases hh' : Λ.hid σ b' with
        | true =>
          rw [hH hh] at h1; rw [hH hh'] at h2
          exact hr.inj b b' k h1 h2
        | false =>
          obtain ⟨j, e1, e2, _⟩ := hseen hh' (.inl h2)
          rw [← e1, hn.at_ j e2] at q1; cases q1
      | false =>
        obtain ⟨j, e1, e2, _⟩ := hseen hh (.inl h1)
        cases hh' : Λ.hid σ b' with
        | true =>
          obtain ⟨q1, _⟩ := hname hh' (.inl h2)
          rw [← e1, hn.at_ j e2] at q1; cases q1
        | false =>
          rw [hL hh] at h1; rw [hL hh'] at h2
          cases hl : Λ'.lab b <;> rw [hl] at h1 <;> simp [Lab.ren] at h1
          cases hl' : Λ'.lab b' <;> rw [hl'] at h2 <;> simp [Lab.ren] at h2
          rename_i j1 j2
          have b1 := k3.bnd b j1 (.inl hl)
          have b2 := k3.bnd b' j2 (.inl hl')
          have c1 := hn.at_ j1 (by omega)
          have c2 := hn.at_ j2 (by omega)
          rw [h1] at c1; rw [h2, c1] at c2
          simp at c2; subst c2
          exact k3.inj b b' j1 hl hl'
    · have hge : Λ.w.heap.size ≤ b := Nat.le_trans k1.fr.size hb
      rw [hL (hfix (hr.new b hge)), k3.new b hb]; rfl
    · show k < Λ.nxt
      cases hh : Λ.hid σ b with
      | true => exact hr.bnd b k (hname hh hb).2
      | false => obtain ⟨j, rfl, e2, _⟩ := hseen hh hb; exact hρ e2
    · have hk' : Λ.nxt ≤ k := hk
      cases hs : σ k with
      | none => simp only [L.unview, hs]; exact hr.frz k hk'
      | some j => obtain ⟨rfl, e2⟩ := hn.inv k j hs; have := hρ e2; omega
  · have hge : m + out.n ≤ k := by
      rcases hcase with h | ⟨_, h⟩
      · exact h
      · cases h
    have hs0 : σ k = none := by
      cases hs : σ k with
      | none => rfl
      | some j =>
        obtain ⟨rfl, e2⟩ := hn.inv k j hs
        by_cases h1 : j < m1
        · have := hn.low j h1; omega
        · have := hn.new j (by omega) e2; omega
    refine ⟨fun b hb => ?_, fun b n hb => ?_, by simp only [L.unview, hs0]; exact hk.fro⟩
    · cases hh : Λ.hid σ b with
      | true => rw [hH hh] at hb; exact hk.obj b hb
      | false => obtain ⟨j, e1, e2, _⟩ := hseen hh (.inl hb); rw [← e1, hn.at_ j e2] at hs0; cases hs0
    · cases hh : Λ.hid σ b with
      | true => rw [hH hh] at hb; exact hk.arr b n hb
      | false => obtain ⟨j, e1, e2, _⟩ := hseen hh (.inr ⟨n, hb⟩); rw [← e1, hn.at_ j e2] at hs0; cases hs0

end
end Go.GB

