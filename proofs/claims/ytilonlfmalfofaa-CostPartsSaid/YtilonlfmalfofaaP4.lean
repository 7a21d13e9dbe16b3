/-
  YtilonlfmalfofaaP4: lemmas of this proof (part 4). No conditions.
-/
import Derived.Test.YtilonlfmalfofaaP3
import Derived.Test.YtilonlfmalfofaaP2

/-
  C40Code: the code of some functions as abstract code (printed by program).
-/
namespace Go.GB.C43
open Go.GB
/- 8 supergraph supergraphlaw40.CostFields -/
def c8_0 : ACode :=
  (.seq (.region true [⟨some 14, none, .ld true 1 (.s 4)⟩,
    ⟨some 15, none, .mv (.s 1)⟩,
    ⟨some 16, none, .mv (.s 2)⟩,
    ⟨some 17, none, .call 34 [(.s 14), (.s 15), (.s 16)]⟩,
    ⟨some 18, none, .ld true 1 (.s 4)⟩,
    ⟨some 19, none, .mv (.s 1)⟩,
    ⟨some 20, none, .mv (.s 2)⟩,
    ⟨some 21, none, .call 35 [(.s 18), (.s 19), (.s 20)]⟩,
    ⟨some 22, none, .bin .eql (.s 17) (.s 21)⟩,
    ⟨some 23, none, .mv (.s 22)⟩,
    ⟨some 24, some (23, true), .ld true 1 (.s 4)⟩,
    ⟨some 25, some (23, true), .ld true 9 (.s 7)⟩,
    ⟨some 26, some (23, true), .call 36 [(.s 24), (.s 25)]⟩,
    ⟨some 27, some (23, true), .ld true 1 (.s 4)⟩,
    ⟨some 28, some (23, true), .ld true 9 (.s 7)⟩,
    ⟨some 29, some (23, true), .call 37 [(.s 27), (.s 28)]⟩,
    ⟨some 30, some (23, true), .bin .eql (.s 26) (.s 29)⟩,
    ⟨some 31, none, .pick (.s 23) (.s 30) (.c (.t (.bool false)))⟩,
    ⟨some 32, none, .mv (.s 31)⟩,
    ⟨some 33, some (32, true), .call 33 []⟩,
    ⟨some 34, none, .pick (.s 32) (.s 33) (.c (.t (.bool false)))⟩,
    ⟨some 8, none, .mv (.s 34)⟩] [[], [], [], [0, 1, 2], [], [], [], [4, 5, 6, 3], [3, 7], [8, 7], [9], [9], [10, 11, 9, 9], [9], [9], [13, 14, 12, 9], [12, 15, 9], [9, 16], [17, 15], [18, 18], [18, 19], [20, 19, 0, 1, 2, 3, 4, 5, 6, 7, 8, 9, 10, 11, 12, 13, 14, 15, 16, 17, 18, 19, 20]] [8]) .ret)
def c8_1 : ACode :=
  (.seq (.region false [⟨some 13, none, .call 33 []⟩,
    ⟨some 8, none, .mv (.s 13)⟩] [] [8]) .ret)
def c8_2 : ACode :=
  (.cond (.s 12) c8_1 .skip)
def c8_3 : ACode :=
  (.seq (.seq (.region false [⟨some 9, none, .ld true 1 (.s 4)⟩,
    ⟨some 10, none, .ld true 9 (.s 7)⟩,
    ⟨some 11, none, .bsl true 9 [[.str [], .str [], .str [], .lst [], .str [], .lst [], .str [], .int .i64 0, .lst []]] [(0, (.s 10))]⟩,
    ⟨some 12, none, .call 32 [(.s 9), (.s 11)]⟩] [] [1, 2, 4, 7, 12]) c8_2) c8_0)
def c8 : ACode :=
  (.seq (.region false [⟨some 4, none, .box 1 (.s 0)⟩,
    ⟨some 7, none, .box 9 (.s 3)⟩,
    ⟨some 8, none, .cst (.t (.bool false))⟩] [] [1, 2, 4, 7]) c8_3)
def r8 : List ARes := [.tmp 8]
def n8 : Nat := 35
/- 9 supergraph supergraphlaw40.CostOperations -/
def c9_0 : ACode :=
  (.seq (.region true [⟨some 10, none, .ld true 1 (.s 2)⟩,
    ⟨some 11, none, .ld true 2 (.s 3)⟩,
    ⟨some 12, none, .call 38 [(.s 10), (.s 11)]⟩,
    ⟨some 13, none, .ld true 1 (.s 2)⟩,
    ⟨some 14, none, .ld true 2 (.s 3)⟩,
    ⟨some 15, none, .call 39 [(.s 13), (.s 14)]⟩,
    ⟨some 16, none, .bin .eql (.s 12) (.s 15)⟩,
    ⟨some 17, none, .mv (.s 16)⟩,
    ⟨some 18, some (17, true), .call 33 []⟩,
    ⟨some 19, none, .pick (.s 17) (.s 18) (.c (.t (.bool false)))⟩,
    ⟨some 4, none, .mv (.s 19)⟩] [[], [], [0, 1], [], [], [3, 4, 2], [2, 5], [6, 5], [7, 7], [7, 8], [9, 8, 0, 1, 2, 3, 4, 5, 6, 7, 8, 9]] [4]) .ret)
def c9_1 : ACode :=
  (.seq (.region false [⟨some 9, none, .call 33 []⟩,
    ⟨some 4, none, .mv (.s 9)⟩] [] [4]) .ret)
def c9_2 : ACode :=
  (.cond (.s 8) c9_1 .skip)
def c9_3 : ACode :=
  (.seq (.seq (.region false [⟨some 5, none, .ld true 1 (.s 2)⟩,
    ⟨some 6, none, .fa 1 (.s 3)⟩,
    ⟨some 7, none, .ld false 1 (.s 6)⟩,
    ⟨some 8, none, .call 32 [(.s 5), (.s 7)]⟩] [] [2, 3, 8]) c9_2) c9_0)
def c9 : ACode :=
  (.seq (.region false [⟨some 2, none, .box 1 (.s 0)⟩,
    ⟨some 3, none, .box 2 (.s 1)⟩,
    ⟨some 4, none, .cst (.t (.bool false))⟩] [] [2, 3]) c9_3)
def r9 : List ARes := [.tmp 4]
def n9 : Nat := 20
/- 10 supergraph supergraphlaw40.CostResults -/
def c10_0 : ACode :=
  (.seq (.region true [⟨some 15, none, .fa 0 (.s 1)⟩,
    ⟨some 16, none, .ld true 1 (.s 15)⟩,
    ⟨some 17, none, .fa 1 (.s 1)⟩,
    ⟨some 18, none, .ld false 1 (.s 17)⟩,
    ⟨some 19, none, .fa 2 (.s 1)⟩,
    ⟨some 20, none, .ld false 1 (.s 19)⟩,
    ⟨some 21, none, .fa 3 (.s 1)⟩,
    ⟨some 22, none, .ld true 5 (.s 21)⟩,
    ⟨some 23, none, .call 40 [(.s 16), (.s 18), (.s 20), (.s 22)]⟩,
    ⟨some 24, none, .fa 0 (.s 1)⟩,
    ⟨some 25, none, .ld true 1 (.s 24)⟩,
    ⟨some 26, none, .fa 1 (.s 1)⟩,
    ⟨some 27, none, .ld false 1 (.s 26)⟩,
    ⟨some 28, none, .fa 2 (.s 1)⟩,
    ⟨some 29, none, .ld false 1 (.s 28)⟩,
    ⟨some 30, none, .fa 3 (.s 1)⟩,
    ⟨some 31, none, .ld true 5 (.s 30)⟩,
    ⟨some 32, none, .call 41 [(.s 25), (.s 27), (.s 29), (.s 31)]⟩,
    ⟨some 33, none, .bin .eql (.s 23) (.s 32)⟩,
    ⟨some 34, none, .mv (.s 33)⟩,
    ⟨some 35, some (34, true), .fa 0 (.s 1)⟩,
    ⟨some 36, some (34, true), .ld true 1 (.s 35)⟩,
    ⟨some 37, some (34, true), .fa 2 (.s 1)⟩,
    ⟨some 38, some (34, true), .ld false 1 (.s 37)⟩,
    ⟨some 39, some (34, true), .fa 3 (.s 1)⟩,
    ⟨some 40, some (34, true), .ld true 5 (.s 39)⟩,
    ⟨some 41, some (34, true), .call 42 [(.s 36), (.s 38), (.s 40)]⟩,
    ⟨some 42, some (34, true), .fa 0 (.s 1)⟩,
    ⟨some 43, some (34, true), .ld true 1 (.s 42)⟩,
    ⟨some 44, some (34, true), .fa 2 (.s 1)⟩,
    ⟨some 45, some (34, true), .ld false 1 (.s 44)⟩,
    ⟨some 46, some (34, true), .fa 3 (.s 1)⟩,
    ⟨some 47, some (34, true), .ld true 5 (.s 46)⟩,
    ⟨some 48, some (34, true), .call 43 [(.s 43), (.s 45), (.s 47)]⟩,
    ⟨some 49, some (34, true), .eqb false (.s 41) (.s 48)⟩,
    ⟨some 50, none, .pick (.s 34) (.s 49) (.c (.t (.bool false)))⟩,
    ⟨some 51, none, .mv (.s 50)⟩,
    ⟨some 52, some (51, true), .call 33 []⟩,
    ⟨some 53, none, .pick (.s 51) (.s 52) (.c (.t (.bool false)))⟩,
    ⟨some 2, none, .mv (.s 53)⟩] [[], [0], [], [2], [], [4], [], [6], [1, 3, 5, 7], [], [9], [], [11], [], [13], [], [15], [10, 12, 14, 16, 8], [8, 17], [18, 17], [19], [20, 19], [19], [22, 19], [19], [24, 19], [21, 23, 25, 19, 19], [19], [27, 19], [19], [29, 19], [19], [31, 19], [28, 30, 32, 26, 19], [26, 33, 19], [19, 34], [35, 33], [36, 36], [36, 37], [38, 37, 0, 1, 2, 3, 4, 5, 6, 7, 8, 9, 10, 11, 12, 13, 14, 15, 16, 17, 18, 19, 20, 21, 22, 23, 24, 25, 26, 27, 28, 29, 30, 31, 32, 33, 34, 35, 36, 37, 38]] [2]) .ret)
def c10_1 : ACode :=
  (.seq (.region false [⟨some 14, none, .call 33 []⟩,
    ⟨some 2, none, .mv (.s 14)⟩] [] [2]) .ret)
def c10_2 : ACode :=
  (.cond (.s 13) c10_1 .skip)
def c10_3 : ACode :=
  (.seq (.seq (.region false [⟨some 3, none, .fa 0 (.s 1)⟩,
    ⟨some 4, none, .ld true 1 (.s 3)⟩,
    ⟨some 5, none, .fa 2 (.s 1)⟩,
    ⟨some 6, none, .ld false 1 (.s 5)⟩,
    ⟨some 7, none, .call 32 [(.s 4), (.s 6)]⟩,
    ⟨some 8, none, .mv (.s 7)⟩,
    ⟨some 9, some (8, false), .fa 3 (.s 1)⟩,
    ⟨some 10, some (8, false), .ld true 5 (.s 9)⟩,
    ⟨some 11, some (8, false), .call 23 [(.s 10), (.c (.t (.int .i64 2000)))]⟩,
    ⟨some 12, some (8, false), .bin .gtr (.s 11) (.c (.t (.int .i64 2000)))⟩,
    ⟨some 13, none, .pick (.s 8) (.c (.t (.bool true))) (.s 12)⟩] [] [1, 13]) c10_2) c10_0)
def c10 : ACode :=
  (.seq (.region false [⟨some 1, none, .box 8 (.s 0)⟩,
    ⟨some 2, none, .cst (.t (.bool false))⟩] [] [1]) c10_3)
def r10 : List ARes := [.tmp 2]
def n10 : Nat := 54
/- 11 supergraph supergraphlaw40.CostBounds -/
def c11_0 : ACode :=
  (.seq (.region false [⟨some 49, none, .mv (.s 4)⟩,
    ⟨some 50, none, .bin .geq (.s 49) (.c (.t (.int .i64 0)))⟩,
    ⟨some 51, none, .mv (.s 50)⟩,
    ⟨some 52, some (51, true), .fa 0 (.s 1)⟩,
    ⟨some 53, some (51, true), .ld true 1 (.s 52)⟩,
    ⟨some 54, some (51, true), .fa 2 (.s 1)⟩,
    ⟨some 55, some (51, true), .ld false 1 (.s 54)⟩,
    ⟨some 56, some (51, true), .fa 3 (.s 1)⟩,
    ⟨some 57, some (51, true), .ld true 5 (.s 56)⟩,
    ⟨some 58, some (51, true), .call 42 [(.s 53), (.s 55), (.s 57)]⟩,
    ⟨some 59, some (51, true), .un .not (.s 58)⟩,
    ⟨some 60, some (51, true), .mv (.s 59)⟩,
    ⟨some 61, some (60, false), .mv (.s 4)⟩,
    ⟨some 62, some (60, false), .fa 0 (.s 1)⟩,
    ⟨some 63, some (60, false), .ld true 1 (.s 62)⟩,
    ⟨some 64, some (60, false), .fa 2 (.s 1)⟩,
    ⟨some 65, some (60, false), .ld false 1 (.s 64)⟩,
    ⟨some 66, some (60, false), .build [.t (.int .i64 0), .nils] [(0, 1, (.c (.t (.int .i64 1)))), (1, 1, (.s 65))]⟩,
    ⟨some 67, some (60, false), .call 38 [(.s 63), (.s 66)]⟩,
    ⟨some 68, some (60, false), .bin .leq (.s 61) (.s 67)⟩,
    ⟨some 69, some (51, true), .pick (.s 60) (.c (.t (.bool true))) (.s 68)⟩,
    ⟨some 70, none, .pick (.s 51) (.s 69) (.c (.t (.bool false)))⟩,
    ⟨some 71, none, .mv (.s 70)⟩,
    ⟨some 72, some (71, true), .call 33 []⟩,
    ⟨some 73, none, .pick (.s 71) (.s 72) (.c (.t (.bool false)))⟩,
    ⟨some 2, none, .mv (.s 73)⟩] [] [2]) .ret)
def c11_1 : ACode :=
  (.seq (.region false [⟨some 40, none, .fa 0 (.s 1)⟩,
    ⟨some 41, none, .ld true 1 (.s 40)⟩,
    ⟨some 42, none, .fa 1 (.s 1)⟩,
    ⟨some 43, none, .ld false 1 (.s 42)⟩,
    ⟨some 44, none, .fa 2 (.s 1)⟩,
    ⟨some 45, none, .ld false 1 (.s 44)⟩,
    ⟨some 46, none, .fa 3 (.s 1)⟩,
    ⟨some 47, none, .ld true 5 (.s 46)⟩,
    ⟨some 48, none, .call 40 [(.s 41), (.s 43), (.s 45), (.s 47)]⟩,
    ⟨some 4, none, .mv (.s 48)⟩] [] [1, 4]) c11_0)
def c11_2 : ACode :=
  (.region false [⟨some 28, none, .mv (.s 3)⟩,
    ⟨some 29, none, .bin .add (.s 28) (.c (.t (.int .i64 1)))⟩,
    ⟨some 3, none, .mv (.s 29)⟩] [] [1, 3])
def c11_3 : ACode :=
  (.seq (.region false [⟨some 39, none, .call 33 []⟩,
    ⟨some 2, none, .mv (.s 39)⟩] [] [2]) .ret)
def c11_4 : ACode :=
  (.cond (.s 38) c11_3 .skip)
def c11_5 : ACode :=
  (.seq (.region true [⟨some 30, none, .fa 2 (.s 1)⟩,
    ⟨some 31, none, .ld false 1 (.s 30)⟩,
    ⟨some 32, none, .mv (.s 3)⟩,
    ⟨some 33, none, .ia 9 (.s 31) (.s 32)⟩,
    ⟨some 34, none, .fa 1 (.s 33)⟩,
    ⟨some 35, none, .ld false 1 (.s 34)⟩,
    ⟨some 36, none, .fa 1 (.s 1)⟩,
    ⟨some 37, none, .ld false 1 (.s 36)⟩,
    ⟨some 38, none, .bin .neq (.s 35) (.s 37)⟩] [[], [0], [], [1, 2], [3], [4], [], [6], [5, 7]] [1, 3, 38]) c11_4)
def c11_6 : ACode :=
  (.seq (.block 1 c11_5) c11_2)
def c11_7 : ACode :=
  (.cond (.s 27) .skip (.exit 0))
def c11_8 : ACode :=
  (.seq (.seq (.region false [⟨some 23, none, .mv (.s 3)⟩,
    ⟨some 24, none, .fa 2 (.s 1)⟩,
    ⟨some 25, none, .ld false 1 (.s 24)⟩,
    ⟨some 26, none, .len (.s 25)⟩,
    ⟨some 27, none, .bin .lss (.s 23) (.s 26)⟩] [] [1, 3, 27]) c11_7) c11_6)
def c11_9 : ACode :=
  (.loop c11_8)
def c11_10 : ACode :=
  (.block 0 c11_9)
def c11_11 : ACode :=
  (.seq (.seq (.region false [⟨some 3, none, .cst (.t (.int .i64 0))⟩] [] [1, 3]) c11_10) c11_1)
def c11_12 : ACode :=
  (.seq (.region false [⟨some 22, none, .call 33 []⟩,
    ⟨some 2, none, .mv (.s 22)⟩] [] [2]) .ret)
def c11_13 : ACode :=
  (.cond (.s 21) c11_12 .skip)
def c11_14 : ACode :=
  (.seq (.seq (.region false [⟨some 5, none, .fa 0 (.s 1)⟩,
    ⟨some 6, none, .ld true 1 (.s 5)⟩,
    ⟨some 7, none, .fa 2 (.s 1)⟩,
    ⟨some 8, none, .ld false 1 (.s 7)⟩,
    ⟨some 9, none, .call 32 [(.s 6), (.s 8)]⟩,
    ⟨some 10, none, .mv (.s 9)⟩,
    ⟨some 11, some (10, false), .fa 3 (.s 1)⟩,
    ⟨some 12, some (10, false), .ld true 5 (.s 11)⟩,
    ⟨some 13, some (10, false), .call 23 [(.s 12), (.c (.t (.int .i64 2000)))]⟩,
    ⟨some 14, some (10, false), .bin .gtr (.s 13) (.c (.t (.int .i64 2000)))⟩,
    ⟨some 15, none, .pick (.s 10) (.c (.t (.bool true))) (.s 14)⟩,
    ⟨some 16, none, .mv (.s 15)⟩,
    ⟨some 17, some (16, false), .fa 2 (.s 1)⟩,
    ⟨some 18, some (16, false), .ld false 1 (.s 17)⟩,
    ⟨some 19, some (16, false), .call 44 [(.s 18)]⟩,
    ⟨some 20, some (16, false), .un .not (.s 19)⟩,
    ⟨some 21, none, .pick (.s 16) (.c (.t (.bool true))) (.s 20)⟩] [] [1, 21]) c11_13) c11_11)
def c11 : ACode :=
  (.seq (.region false [⟨some 1, none, .box 8 (.s 0)⟩,
    ⟨some 2, none, .cst (.t (.bool false))⟩] [] [1]) c11_14)
def r11 : List ARes := [.tmp 2]
def n11 : Nat := 74
/- 12 supergraph supergraphlaw40.CostParts -/
def c12_0 : ACode :=
  (.seq (.region false [⟨some 88, none, .call 33 []⟩,
    ⟨some 6, none, .mv (.s 88)⟩] [] [6]) .ret)
def c12_1 : ACode :=
  (.seq (.region false [⟨some 6, none, .cst (.t (.bool false))⟩] [] [6]) .ret)
def c12_2 : ACode :=
  (.cond (.s 87) c12_1 .skip)
def c12_3 : ACode :=
  (.seq (.region false [⟨some 80, none, .ld true 1 (.s 3)⟩,
    ⟨some 81, none, .fa 0 (.s 4)⟩,
    ⟨some 82, none, .ld false 1 (.s 81)⟩,
    ⟨some 83, none, .mv (.s 12)⟩,
    ⟨some 84, none, .build [.t (.int .i64 0), .nils] [(0, 1, (.s 82)), (1, 1, (.s 83))]⟩,
    ⟨some 85, none, .call 38 [(.s 80), (.s 84)]⟩,
    ⟨some 86, none, .mv (.s 11)⟩,
    ⟨some 87, none, .bin .gtr (.s 85) (.s 86)⟩] [] [87]) c12_2)
def c12_4 : ACode :=
  (.seq (.region false [⟨some 74, none, .fa 1 (.s 4)⟩,
    ⟨some 75, none, .ld false 1 (.s 74)⟩,
    ⟨some 76, none, .mv (.s 2)⟩,
    ⟨some 77, none, .call 45 [(.s 75), (.s 76)]⟩,
    ⟨some 73, none, .mv (.s 77)⟩,
    ⟨some 78, none, .ext (.s 73) 0⟩,
    ⟨some 79, none, .ext (.s 73) 1⟩,
    ⟨some 12, none, .mv (.s 78)⟩,
    ⟨some 13, none, .mv (.s 79)⟩] [] [3, 4, 11, 12]) c12_3)
def c12_5 : ACode :=
  (.cond (.s 72) c12_4 .skip)
def c12_6 : ACode :=
  (.seq (.seq (.region false [⟨some 71, none, .mv (.s 2)⟩,
    ⟨some 72, none, .bin .geq (.s 71) (.c (.t (.int .i64 0)))⟩] [] [2, 3, 4, 11, 72]) c12_5) c12_0)
def c12_7 : ACode :=
  (.seq (.region false [⟨some 6, none, .cst (.t (.bool false))⟩] [] [6]) .ret)
def c12_8 : ACode :=
  (.cond (.s 70) c12_7 .skip)
def c12_9 : ACode :=
  (.seq (.seq (.region false [⟨some 65, none, .mv (.s 8)⟩,
    ⟨some 66, none, .mv (.s 65)⟩,
    ⟨some 67, some (66, true), .mv (.s 11)⟩,
    ⟨some 68, some (66, true), .mv (.s 7)⟩,
    ⟨some 69, some (66, true), .bin .neq (.s 67) (.s 68)⟩,
    ⟨some 70, none, .pick (.s 66) (.s 69) (.c (.t (.bool false)))⟩] [] [2, 3, 4, 11, 70]) c12_8) c12_6)
def c12_10 : ACode :=
  (.seq (.region false [⟨some 62, none, .ld true 1 (.s 3)⟩,
    ⟨some 63, none, .ld true 2 (.s 4)⟩,
    ⟨some 64, none, .call 38 [(.s 62), (.s 63)]⟩,
    ⟨some 11, none, .mv (.s 64)⟩] [] [2, 3, 4, 7, 8, 11]) c12_9)
def c12_11 : ACode :=
  (.region false [⟨some 24, none, .mv (.s 9)⟩,
    ⟨some 25, none, .bin .add (.s 24) (.c (.t (.int .i64 1)))⟩,
    ⟨some 9, none, .mv (.s 25)⟩] [] [2, 3, 4, 7, 8, 9])
def c12_12 : ACode :=
  (.region true [⟨some 47, none, .mv (.s 8)⟩,
    ⟨some 48, none, .mv (.s 47)⟩,
    ⟨some 49, some (48, true), .fa 1 (.s 4)⟩,
    ⟨some 50, some (48, true), .ld false 1 (.s 49)⟩,
    ⟨some 51, some (48, true), .mv (.s 9)⟩,
    ⟨some 52, some (48, true), .ia 9 (.s 50) (.s 51)⟩,
    ⟨some 53, some (48, true), .fa 1 (.s 52)⟩,
    ⟨some 54, some (48, true), .ld false 1 (.s 53)⟩,
    ⟨some 55, some (48, true), .fa 1 (.s 4)⟩,
    ⟨some 56, some (48, true), .ld false 1 (.s 55)⟩,
    ⟨some 57, some (48, true), .ia 9 (.s 56) (.c (.t (.int .i64 0)))⟩,
    ⟨some 58, some (48, true), .fa 1 (.s 57)⟩,
    ⟨some 59, some (48, true), .ld false 1 (.s 58)⟩,
    ⟨some 60, some (48, true), .bin .eql (.s 54) (.s 59)⟩,
    ⟨some 61, none, .pick (.s 48) (.s 60) (.c (.t (.bool false)))⟩,
    ⟨some 8, none, .mv (.s 61)⟩] [[], [0], [1], [2, 1], [1], [3, 4, 1], [5, 1], [6, 1], [1], [8, 1], [9, 1], [10, 1], [11, 1], [7, 12, 1], [1, 13], [14, 1, 0, 1, 2, 3, 4, 5, 6, 7, 8, 9, 10, 11, 12, 13, 14]] [2, 3, 4, 7, 8, 9])
def c12_13 : ACode :=
  (.seq (.region false [⟨some 43, none, .mv (.s 7)⟩,
    ⟨some 44, none, .mv (.s 10)⟩,
    ⟨some 45, none, .bin .add (.s 43) (.s 44)⟩,
    ⟨some 46, none, .mini (.s 45) (.c (.t (.int .i64 1099511627776)))⟩,
    ⟨some 7, none, .mv (.s 46)⟩] [] [2, 3, 4, 7, 8, 9]) c12_12)
def c12_14 : ACode :=
  (.seq (.region false [⟨some 6, none, .cst (.t (.bool false))⟩] [] [6]) .ret)
def c12_15 : ACode :=
  (.cond (.s 42) c12_14 .skip)
def c12_16 : ACode :=
  (.seq (.seq (.region false [⟨some 37, none, .mv (.s 10)⟩,
    ⟨some 38, none, .bin .lss (.s 37) (.c (.t (.int .i64 0)))⟩,
    ⟨some 39, none, .mv (.s 38)⟩,
    ⟨some 40, some (39, false), .mv (.s 10)⟩,
    ⟨some 41, some (39, false), .bin .gtr (.s 40) (.c (.t (.int .i64 1099511627776)))⟩,
    ⟨some 42, none, .pick (.s 39) (.c (.t (.bool true))) (.s 41)⟩] [] [2, 3, 4, 7, 8, 9, 10, 42]) c12_15) c12_13)
def c12_17 : ACode :=
  (.seq (.region true [⟨some 26, none, .ld true 1 (.s 3)⟩,
    ⟨some 27, none, .fa 0 (.s 4)⟩,
    ⟨some 28, none, .ld false 1 (.s 27)⟩,
    ⟨some 29, none, .fa 1 (.s 4)⟩,
    ⟨some 30, none, .ld false 1 (.s 29)⟩,
    ⟨some 31, none, .mv (.s 9)⟩,
    ⟨some 32, none, .mv (.s 9)⟩,
    ⟨some 33, none, .bin .add (.s 32) (.c (.t (.int .i64 1)))⟩,
    ⟨some 34, none, .sll 9 (.s 30) (some (.s 31)) (some (.s 33))⟩,
    ⟨some 35, none, .build [.t (.int .i64 0), .nils] [(0, 1, (.s 28)), (1, 1, (.s 34))]⟩,
    ⟨some 36, none, .call 38 [(.s 26), (.s 35)]⟩,
    ⟨some 10, none, .mv (.s 36)⟩] [[], [], [1], [], [3], [], [], [6], [4, 5, 7], [2, 8], [0, 9], [10, 10, 0, 1, 2, 3, 4, 5, 6, 7, 8, 9, 10]] [2, 3, 4, 7, 8, 9, 10]) c12_16)
def c12_18 : ACode :=
  (.seq (.block 1 c12_17) c12_11)
def c12_19 : ACode :=
  (.cond (.s 23) .skip (.exit 0))
def c12_20 : ACode :=
  (.seq (.seq (.region false [⟨some 19, none, .mv (.s 9)⟩,
    ⟨some 20, none, .fa 1 (.s 4)⟩,
    ⟨some 21, none, .ld false 1 (.s 20)⟩,
    ⟨some 22, none, .len (.s 21)⟩,
    ⟨some 23, none, .bin .lss (.s 19) (.s 22)⟩] [] [2, 3, 4, 7, 8, 9, 23]) c12_19) c12_18)
def c12_21 : ACode :=
  (.loop c12_20)
def c12_22 : ACode :=
  (.block 0 c12_21)
def c12_23 : ACode :=
  (.seq (.seq (.region false [⟨some 9, none, .cst (.t (.int .i64 0))⟩] [] [2, 3, 4, 7, 8, 9]) c12_22) c12_10)
def c12_24 : ACode :=
  (.seq (.region false [⟨some 7, none, .cst (.t (.int .i64 0))⟩,
    ⟨some 8, none, .cst (.t (.bool true))⟩] [] [2, 3, 4, 7, 8]) c12_23)
def c12_25 : ACode :=
  (.seq (.region false [⟨some 18, none, .call 33 []⟩,
    ⟨some 6, none, .mv (.s 18)⟩] [] [6]) .ret)
def c12_26 : ACode :=
  (.cond (.s 17) c12_25 .skip)
def c12_27 : ACode :=
  (.seq (.seq (.region false [⟨some 14, none, .ld true 1 (.s 3)⟩,
    ⟨some 15, none, .fa 1 (.s 4)⟩,
    ⟨some 16, none, .ld false 1 (.s 15)⟩,
    ⟨some 17, none, .call 32 [(.s 14), (.s 16)]⟩] [] [2, 3, 4, 17]) c12_26) c12_24)
def c12 : ACode :=
  (.seq (.region false [⟨some 3, none, .box 1 (.s 0)⟩,
    ⟨some 4, none, .box 2 (.s 1)⟩,
    ⟨some 6, none, .cst (.t (.bool false))⟩] [] [2, 3, 4]) c12_27)
def r12 : List ARes := [.tmp 6]
def n12 : Nat := 89
/- 32 supergraph supergraphlaw40.large -/
def c32_0 : ACode :=
  (.seq (.region false [⟨some 5, none, .mv (.s 1)⟩,
    ⟨some 6, none, .call 62 [(.s 5)]⟩,
    ⟨some 7, none, .bin .gtr (.s 6) (.c (.t (.int .i64 200)))⟩,
    ⟨some 8, none, .mv (.s 7)⟩,
    ⟨some 9, some (8, false), .ld true 1 (.s 2)⟩,
    ⟨some 10, some (8, false), .call 46 [(.s 9), (.c (.t (.int .i64 600)))]⟩,
    ⟨some 11, some (8, false), .bin .gtr (.s 10) (.c (.t (.int .i64 600)))⟩,
    ⟨some 12, none, .pick (.s 8) (.c (.t (.bool true))) (.s 11)⟩,
    ⟨some 13, none, .mv (.s 12)⟩,
    ⟨some 14, some (13, false), .mv (.s 1)⟩,
    ⟨some 15, some (13, false), .call 63 [(.s 14)]⟩,
    ⟨some 16, some (13, false), .bin .gtr (.s 15) (.c (.t (.int .i64 30)))⟩,
    ⟨some 17, none, .pick (.s 13) (.c (.t (.bool true))) (.s 16)⟩,
    ⟨some 4, none, .mv (.s 17)⟩] [] [4]) .ret)
def c32 : ACode :=
  (.seq (.region false [⟨some 2, none, .box 1 (.s 0)⟩,
    ⟨some 4, none, .cst (.t (.bool false))⟩] [] [1, 2]) c32_0)
def r32 : List ARes := [.tmp 4]
def n32 : Nat := 18
/- 33 supergraph supergraphlaw40.exampleHolds -/
def c33_0 : ACode :=
  (.seq (.region true [⟨some 17, none, .ld true 1 (.s 1)⟩,
    ⟨some 18, none, .mv (.s 2)⟩,
    ⟨some 19, none, .build [.t (.int .i64 0), .nils] [(0, 1, (.c (.t (.int .i64 1)))), (1, 1, (.s 18))]⟩,
    ⟨some 20, none, .call 38 [(.s 17), (.s 19)]⟩,
    ⟨some 21, none, .bin .eql (.s 20) (.c (.t (.int .i64 22)))⟩,
    ⟨some 22, none, .mv (.s 21)⟩,
    ⟨some 23, some (22, true), .ld true 1 (.s 1)⟩,
    ⟨some 24, some (22, true), .call 34 [(.s 23), (.c (.t (.str [80, 111, 115, 116]))), (.c (.t (.str [116, 101, 120, 116])))]⟩,
    ⟨some 25, some (22, true), .bin .eql (.s 24) (.c (.t (.int .i64 2)))⟩,
    ⟨some 26, none, .pick (.s 22) (.s 25) (.c (.t (.bool false)))⟩,
    ⟨some 27, none, .mv (.s 26)⟩,
    ⟨some 28, some (27, true), .ld true 1 (.s 1)⟩,
    ⟨some 29, some (27, true), .call 34 [(.s 28), (.c (.t (.str [80, 111, 115, 116]))), (.c (.t (.str [95, 95, 116, 121, 112, 101, 110, 97, 109, 101])))]⟩,
    ⟨some 30, some (27, true), .bin .eql (.s 29) (.c (.t (.int .i64 0)))⟩,
    ⟨some 31, none, .pick (.s 27) (.s 30) (.c (.t (.bool false)))⟩,
    ⟨some 32, none, .mv (.s 31)⟩,
    ⟨some 33, some (32, true), .ld true 1 (.s 1)⟩,
    ⟨some 34, some (32, true), .mv (.s 2)⟩,
    ⟨some 35, some (32, true), .ia 9 (.s 34) (.c (.t (.int .i64 0)))⟩,
    ⟨some 36, some (32, true), .fa 8 (.s 35)⟩,
    ⟨some 37, some (32, true), .ld false 1 (.s 36)⟩,
    ⟨some 38, some (32, true), .ia 9 (.s 37) (.c (.t (.int .i64 0)))⟩,
    ⟨some 39, some (32, true), .ld true 9 (.s 38)⟩,
    ⟨some 40, some (32, true), .call 36 [(.s 33), (.s 39)]⟩,
    ⟨some 41, some (32, true), .bin .eql (.s 40) (.c (.t (.int .i64 10)))⟩,
    ⟨some 42, none, .pick (.s 32) (.s 41) (.c (.t (.bool false)))⟩,
    ⟨some 43, none, .mv (.s 42)⟩,
    ⟨some 44, some (43, true), .ld true 1 (.s 1)⟩,
    ⟨some 45, some (43, true), .mv (.s 2)⟩,
    ⟨some 46, some (43, true), .ld true 5 (.s 4)⟩,
    ⟨some 47, some (43, true), .call 40 [(.s 44), (.c (.t (.str [81, 117, 101, 114, 121]))), (.s 45), (.s 46)]⟩,
    ⟨some 48, some (43, true), .bin .eql (.s 47) (.c (.t (.int .i64 6)))⟩,
    ⟨some 49, none, .pick (.s 43) (.s 48) (.c (.t (.bool false)))⟩,
    ⟨some 50, none, .mv (.s 49)⟩,
    ⟨some 51, some (50, true), .ld true 1 (.s 1)⟩,
    ⟨some 52, some (50, true), .mv (.s 2)⟩,
    ⟨some 53, some (50, true), .ld true 5 (.s 4)⟩,
    ⟨some 54, some (50, true), .call 42 [(.s 51), (.s 52), (.s 53)]⟩,
    ⟨some 55, none, .pick (.s 50) (.s 54) (.c (.t (.bool false)))⟩,
    ⟨some 0, none, .mv (.s 55)⟩] [[], [], [1], [0, 2], [3], [4, 3], [5], [6, 5, 5], [7, 5], [5, 8], [9, 7], [10], [11, 10, 10], [12, 10], [10, 13], [14, 12], [15], [15], [17, 15], [18, 15], [19, 15], [20, 15], [21, 15], [16, 22, 15, 15], [23, 15], [15, 24], [25, 23], [26], [26], [26], [27, 28, 29, 26, 26], [30, 26], [26, 31], [32, 30], [33], [33], [33], [34, 35, 36, 33, 33], [33, 37], [38, 37, 0, 1, 2, 3, 4, 5, 6, 7, 8, 9, 10, 11, 12, 13, 14, 15, 16, 17, 18, 19, 20, 21, 22, 23, 24, 25, 26, 27, 28, 29, 30, 31, 32, 33, 34, 35, 36, 37, 38]] [0]) .ret)
def c33_1 : ACode :=
  (.seq (.region false [⟨some 11, none, .ld true 5 (.s 3)⟩,
    ⟨some 12, none, .ld true 5 (.s 3)⟩,
    ⟨some 13, none, .bsl true 5 [[.int .i64 0, .int .i64 0, .str [], .lst [], .lst []], [.int .i64 0, .int .i64 0, .str [], .lst [], .lst []]] [(0, (.s 11)), (1, (.s 12))]⟩,
    ⟨some 14, none, .build [.t (.int .i64 0), .t (.int .i64 0), .t (.str []), .nils, .nils] [(0, 1, (.c (.t (.int .i64 5)))), (3, 1, (.s 13))]⟩,
    ⟨some 15, none, .call 65 [(.c (.t (.str [85, 115, 101, 114]))), (.c (.t (.str [112, 111, 115, 116, 115]))), (.s 14)]⟩,
    ⟨some 16, none, .call 65 [(.c (.t (.str [81, 117, 101, 114, 121]))), (.c (.t (.str [109, 101]))), (.s 15)]⟩,
    ⟨some 4, none, .alloc [.t (.int .i64 0), .t (.int .i64 0), .t (.str []), .nils, .nils]⟩,
    ⟨none, none, .st 5 (.s 4) (.s 16)⟩] [] [1, 2, 4]) c33_0)
def c33_2 : ACode :=
  (.seq (.region false [⟨some 9, none, .call 66 [(.c (.t (.str [97])))]⟩,
    ⟨some 10, none, .call 65 [(.c (.t (.str [80, 111, 115, 116]))), (.c (.t (.str [116, 101, 120, 116]))), (.s 9)]⟩,
    ⟨some 3, none, .alloc [.t (.int .i64 0), .t (.int .i64 0), .t (.str []), .nils, .nils]⟩,
    ⟨none, none, .st 5 (.s 3) (.s 10)⟩] [] [1, 2, 3]) c33_1)
def c33_3 : ACode :=
  (.seq (.region false [⟨some 6, none, .call 64 []⟩,
    ⟨some 5, none, .mv (.s 6)⟩,
    ⟨some 7, none, .ext (.s 5) 0⟩,
    ⟨some 8, none, .ext (.s 5) 1⟩,
    ⟨some 1, none, .alloc [.nils]⟩,
    ⟨none, none, .st 1 (.s 1) (.s 7)⟩,
    ⟨some 2, none, .mv (.s 8)⟩] [] [1, 2]) c33_2)
def c33 : ACode :=
  (.seq (.region false [⟨some 0, none, .cst (.t (.bool false))⟩] [] []) c33_3)
def r33 : List ARes := [.tmp 0]
def n33 : Nat := 56
/- 34 supergraph cost.Field -/
def c34_0 : ACode :=
  (.seq (.region false [⟨some 6, none, .cst (.t (.int .i64 0))⟩] [] [6]) .ret)
def c34_1 : ACode :=
  (.seq (.region false [⟨some 6, none, .cst (.t (.int .i64 1))⟩] [] [6]) .ret)
def c34_2 : ACode :=
  (.cond (.s 32) c34_1 .skip)
def c34_3 : ACode :=
  (.seq (.seq (.region false [⟨some 28, none, .ld true 1 (.s 3)⟩,
    ⟨some 29, none, .fa 2 (.s 7)⟩,
    ⟨some 30, none, .fa 0 (.s 29)⟩,
    ⟨some 31, none, .ld false 1 (.s 30)⟩,
    ⟨some 32, none, .call 69 [(.s 28), (.s 31)]⟩] [] [32]) c34_2) c34_0)
def c34_4 : ACode :=
  (.seq (.region false [⟨some 27, none, .mv (.s 9)⟩,
    ⟨some 6, none, .mv (.s 27)⟩] [] [6]) .ret)
def c34_5 : ACode :=
  (.cond (.s 26) c34_4 .skip)
def c34_6 : ACode :=
  (.seq (.region false [⟨some 26, none, .mv (.s 10)⟩] [] [3, 7, 9, 26]) c34_5)
def c34_7 : ACode :=
  (.seq (.seq (.region false [⟨some 21, none, .fa 4 (.s 7)⟩,
    ⟨some 22, none, .ld false 1 (.s 21)⟩,
    ⟨some 23, none, .call 68 [(.s 22), (.c (.t (.str [99, 111, 115, 116]))), (.c (.t (.str [119, 101, 105, 103, 104, 116])))]⟩,
    ⟨some 20, none, .mv (.s 23)⟩,
    ⟨some 24, none, .ext (.s 20) 0⟩,
    ⟨some 25, none, .ext (.s 20) 1⟩,
    ⟨some 9, none, .mv (.s 24)⟩,
    ⟨some 10, none, .mv (.s 25)⟩] [] [3, 7, 9, 10]) c34_6) c34_3)
def c34_8 : ACode :=
  (.seq (.region false [⟨some 6, none, .cst (.t (.int .i64 0))⟩] [] [6]) .ret)
def c34_9 : ACode :=
  (.cond (.s 19) c34_8 .skip)
def c34_10 : ACode :=
  (.seq (.seq (.region false [⟨some 18, none, .mv (.s 8)⟩,
    ⟨some 19, none, .un .not (.s 18)⟩] [] [3, 7, 19]) c34_9) c34_7)
def c34_11 : ACode :=
  (.seq (.region false [⟨some 12, none, .ld true 1 (.s 3)⟩,
    ⟨some 13, none, .mv (.s 1)⟩,
    ⟨some 14, none, .mv (.s 2)⟩,
    ⟨some 15, none, .call 67 [(.s 12), (.s 13), (.s 14)]⟩,
    ⟨some 11, none, .mv (.s 15)⟩,
    ⟨some 16, none, .ext (.s 11) 0⟩,
    ⟨some 17, none, .ext (.s 11) 1⟩,
    ⟨some 7, none, .alloc [.t (.str []), .nils, .t (.str []), .nils, .nils]⟩,
    ⟨none, none, .st 5 (.s 7) (.s 16)⟩,
    ⟨some 8, none, .mv (.s 17)⟩] [] [3, 7, 8]) c34_10)
def c34 : ACode :=
  (.seq (.region false [⟨some 3, none, .box 1 (.s 0)⟩,
    ⟨some 6, none, .cst (.t (.int .i64 0))⟩] [] [1, 2, 3]) c34_11)
def r34 : List ARes := [.tmp 6]
def n34 : Nat := 33
/- 35 supergraph supergraphref40.Field -/
def c35_0 : ACode :=
  (.seq (.region false [⟨some 6, none, .cst (.t (.int .i64 0))⟩] [] [6]) .ret)
def c35_1 : ACode :=
  (.seq (.region false [⟨some 6, none, .cst (.t (.int .i64 1))⟩] [] [6]) .ret)
def c35_2 : ACode :=
  (.cond (.s 32) c35_1 .skip)
def c35_3 : ACode :=
  (.seq (.seq (.region false [⟨some 28, none, .ld true 1 (.s 3)⟩,
    ⟨some 29, none, .fa 2 (.s 7)⟩,
    ⟨some 30, none, .fa 0 (.s 29)⟩,
    ⟨some 31, none, .ld false 1 (.s 30)⟩,
    ⟨some 32, none, .call 72 [(.s 28), (.s 31)]⟩] [] [32]) c35_2) c35_0)
def c35_4 : ACode :=
  (.seq (.region false [⟨some 27, none, .mv (.s 9)⟩,
    ⟨some 6, none, .mv (.s 27)⟩] [] [6]) .ret)
def c35_5 : ACode :=
  (.cond (.s 26) c35_4 .skip)
def c35_6 : ACode :=
  (.seq (.region false [⟨some 26, none, .mv (.s 10)⟩] [] [3, 7, 9, 26]) c35_5)
def c35_7 : ACode :=
  (.seq (.seq (.region false [⟨some 21, none, .fa 4 (.s 7)⟩,
    ⟨some 22, none, .ld false 1 (.s 21)⟩,
    ⟨some 23, none, .call 71 [(.s 22), (.c (.t (.str [99, 111, 115, 116]))), (.c (.t (.str [119, 101, 105, 103, 104, 116])))]⟩,
    ⟨some 20, none, .mv (.s 23)⟩,
    ⟨some 24, none, .ext (.s 20) 0⟩,
    ⟨some 25, none, .ext (.s 20) 1⟩,
    ⟨some 9, none, .mv (.s 24)⟩,
    ⟨some 10, none, .mv (.s 25)⟩] [] [3, 7, 9, 10]) c35_6) c35_3)
def c35_8 : ACode :=
  (.seq (.region false [⟨some 6, none, .cst (.t (.int .i64 0))⟩] [] [6]) .ret)
def c35_9 : ACode :=
  (.cond (.s 19) c35_8 .skip)
def c35_10 : ACode :=
  (.seq (.seq (.region false [⟨some 18, none, .mv (.s 8)⟩,
    ⟨some 19, none, .un .not (.s 18)⟩] [] [3, 7, 19]) c35_9) c35_7)
def c35_11 : ACode :=
  (.seq (.region false [⟨some 12, none, .ld true 1 (.s 3)⟩,
    ⟨some 13, none, .mv (.s 1)⟩,
    ⟨some 14, none, .mv (.s 2)⟩,
    ⟨some 15, none, .call 70 [(.s 12), (.s 13), (.s 14)]⟩,
    ⟨some 11, none, .mv (.s 15)⟩,
    ⟨some 16, none, .ext (.s 11) 0⟩,
    ⟨some 17, none, .ext (.s 11) 1⟩,
    ⟨some 7, none, .alloc [.t (.str []), .nils, .t (.str []), .nils, .nils]⟩,
    ⟨none, none, .st 5 (.s 7) (.s 16)⟩,
    ⟨some 8, none, .mv (.s 17)⟩] [] [3, 7, 8]) c35_10)
def c35 : ACode :=
  (.seq (.region false [⟨some 3, none, .box 1 (.s 0)⟩,
    ⟨some 6, none, .cst (.t (.int .i64 0))⟩] [] [1, 2, 3]) c35_11)
def r35 : List ARes := [.tmp 6]
def n35 : Nat := 33
/- 36 supergraph cost.Length -/
def c36_0 : ACode :=
  (.seq (.region false [⟨some 4, none, .cst (.t (.int .i64 10))⟩] [] [4]) .ret)
def c36_1 : ACode :=
  (.seq (.region false [⟨some 54, none, .mv (.s 8)⟩,
    ⟨some 4, none, .mv (.s 54)⟩] [] [4]) .ret)
def c36_2 : ACode :=
  (.cond (.s 53) c36_1 .skip)
def c36_3 : ACode :=
  (.seq (.region false [⟨some 53, none, .mv (.s 9)⟩] [] [8, 53]) c36_2)
def c36_4 : ACode :=
  (.seq (.seq (.region false [⟨some 48, none, .fa 4 (.s 6)⟩,
    ⟨some 49, none, .ld false 1 (.s 48)⟩,
    ⟨some 50, none, .call 68 [(.s 49), (.c (.t (.str [108, 105, 115, 116, 83, 105, 122, 101]))), (.c (.t (.str [97, 115, 115, 117, 109, 101, 100])))]⟩,
    ⟨some 47, none, .mv (.s 50)⟩,
    ⟨some 51, none, .ext (.s 47) 0⟩,
    ⟨some 52, none, .ext (.s 47) 1⟩,
    ⟨some 8, none, .mv (.s 51)⟩,
    ⟨some 9, none, .mv (.s 52)⟩] [] [8, 9]) c36_3) c36_0)
def c36_5 : ACode :=
  (.seq (.region false [⟨some 39, none, .ld true 1 (.s 2)⟩,
    ⟨some 40, none, .fa 1 (.s 3)⟩,
    ⟨some 41, none, .ld false 1 (.s 40)⟩,
    ⟨some 42, none, .fa 2 (.s 3)⟩,
    ⟨some 43, none, .ld false 1 (.s 42)⟩,
    ⟨some 44, none, .call 67 [(.s 39), (.s 41), (.s 43)]⟩,
    ⟨some 38, none, .mv (.s 44)⟩,
    ⟨some 45, none, .ext (.s 38) 0⟩,
    ⟨some 46, none, .ext (.s 38) 1⟩,
    ⟨some 6, none, .alloc [.t (.str []), .nils, .t (.str []), .nils, .nils]⟩,
    ⟨none, none, .st 5 (.s 6) (.s 45)⟩,
    ⟨some 7, none, .mv (.s 46)⟩] [] [6]) c36_4)
def c36_6 : ACode :=
  (.seq (.region false [⟨some 29, none, .fa 3 (.s 3)⟩,
    ⟨some 30, none, .ld false 1 (.s 29)⟩,
    ⟨some 31, none, .mv (.s 5)⟩,
    ⟨some 32, none, .ia 6 (.s 30) (.s 31)⟩,
    ⟨some 33, none, .fa 1 (.s 32)⟩,
    ⟨some 34, none, .fa 1 (.s 33)⟩,
    ⟨some 35, none, .ld false 1 (.s 34)⟩,
    ⟨some 36, none, .maxi (.s 35) (.c (.t (.int .i64 0)))⟩,
    ⟨some 37, none, .mini (.s 36) (.c (.t (.int .i64 1099511627776)))⟩,
    ⟨some 4, none, .mv (.s 37)⟩] [] [4]) .ret)
def c36_7 : ACode :=
  (.cond (.s 28) c36_6 .skip)
def c36_8 : ACode :=
  (.seq (.seq (.region false [⟨some 17, none, .mv (.s 5)⟩,
    ⟨some 18, none, .bin .geq (.s 17) (.c (.t (.int .i64 0)))⟩,
    ⟨some 19, none, .mv (.s 18)⟩,
    ⟨some 20, some (19, true), .fa 3 (.s 3)⟩,
    ⟨some 21, some (19, true), .ld false 1 (.s 20)⟩,
    ⟨some 22, some (19, true), .mv (.s 5)⟩,
    ⟨some 23, some (19, true), .ia 6 (.s 21) (.s 22)⟩,
    ⟨some 24, some (19, true), .fa 1 (.s 23)⟩,
    ⟨some 25, some (19, true), .fa 0 (.s 24)⟩,
    ⟨some 26, some (19, true), .ld false 1 (.s 25)⟩,
    ⟨some 27, some (19, true), .bin .eql (.s 26) (.c (.t (.int .i64 2)))⟩,
    ⟨some 28, none, .pick (.s 19) (.s 27) (.c (.t (.bool false)))⟩] [] [2, 3, 5, 28]) c36_7) c36_5)
def c36_9 : ACode :=
  (.seq (.region false [⟨some 14, none, .fa 3 (.s 3)⟩,
    ⟨some 15, none, .ld false 1 (.s 14)⟩,
    ⟨some 16, none, .call 74 [(.s 15), (.c (.t (.fn 75)))]⟩,
    ⟨some 5, none, .mv (.s 16)⟩] [] [2, 3, 5]) c36_8)
def c36_10 : ACode :=
  (.seq (.region false [⟨some 4, none, .cst (.t (.int .i64 1))⟩] [] [4]) .ret)
def c36_11 : ACode :=
  (.cond (.s 13) c36_10 .skip)
def c36_12 : ACode :=
  (.seq (.seq (.region false [⟨some 10, none, .fa 4 (.s 3)⟩,
    ⟨some 11, none, .ld true 2 (.s 10)⟩,
    ⟨some 12, none, .call 73 [(.s 11)]⟩,
    ⟨some 13, none, .bin .eql (.s 12) (.c (.t (.int .i64 0)))⟩] [] [2, 3, 13]) c36_11) c36_9)
def c36 : ACode :=
  (.seq (.region false [⟨some 2, none, .box 1 (.s 0)⟩,
    ⟨some 3, none, .box 9 (.s 1)⟩,
    ⟨some 4, none, .cst (.t (.int .i64 0))⟩] [] [2, 3]) c36_12)
def r36 : List ARes := [.tmp 4]
def n36 : Nat := 55
/- 37 supergraph supergraphref40.Length -/
def c37_0 : ACode :=
  (.seq (.region false [⟨some 4, none, .cst (.t (.int .i64 10))⟩] [] [4]) .ret)
def c37_1 : ACode :=
  (.seq (.region false [⟨some 65, none, .mv (.s 9)⟩,
    ⟨some 4, none, .mv (.s 65)⟩] [] [4]) .ret)
def c37_2 : ACode :=
  (.cond (.s 64) c37_1 .skip)
def c37_3 : ACode :=
  (.seq (.region false [⟨some 64, none, .mv (.s 10)⟩] [] [9, 64]) c37_2)
def c37_4 : ACode :=
  (.seq (.seq (.region false [⟨some 59, none, .fa 4 (.s 7)⟩,
    ⟨some 60, none, .ld false 1 (.s 59)⟩,
    ⟨some 61, none, .call 71 [(.s 60), (.c (.t (.str [108, 105, 115, 116, 83, 105, 122, 101]))), (.c (.t (.str [97, 115, 115, 117, 109, 101, 100])))]⟩,
    ⟨some 58, none, .mv (.s 61)⟩,
    ⟨some 62, none, .ext (.s 58) 0⟩,
    ⟨some 63, none, .ext (.s 58) 1⟩,
    ⟨some 9, none, .mv (.s 62)⟩,
    ⟨some 10, none, .mv (.s 63)⟩] [] [9, 10]) c37_3) c37_0)
def c37_5 : ACode :=
  (.seq (.region false [⟨some 50, none, .ld true 1 (.s 2)⟩,
    ⟨some 51, none, .fa 1 (.s 3)⟩,
    ⟨some 52, none, .ld false 1 (.s 51)⟩,
    ⟨some 53, none, .fa 2 (.s 3)⟩,
    ⟨some 54, none, .ld false 1 (.s 53)⟩,
    ⟨some 55, none, .call 70 [(.s 50), (.s 52), (.s 54)]⟩,
    ⟨some 49, none, .mv (.s 55)⟩,
    ⟨some 56, none, .ext (.s 49) 0⟩,
    ⟨some 57, none, .ext (.s 49) 1⟩,
    ⟨some 7, none, .alloc [.t (.str []), .nils, .t (.str []), .nils, .nils]⟩,
    ⟨none, none, .st 5 (.s 7) (.s 56)⟩,
    ⟨some 8, none, .mv (.s 57)⟩] [] [7]) c37_4)
def c37_6 : ACode :=
  (.region false [⟨some 20, none, .mv (.s 5)⟩,
    ⟨some 21, none, .bin .add (.s 20) (.c (.t (.int .i64 1)))⟩,
    ⟨some 5, none, .mv (.s 21)⟩] [] [2, 3, 5])
def c37_7 : ACode :=
  (.seq (.region false [⟨some 46, none, .fa 1 (.s 6)⟩,
    ⟨some 47, none, .ld false 1 (.s 46)⟩,
    ⟨some 48, none, .call 77 [(.s 47), (.c (.t (.int .i64 1099511627776)))]⟩,
    ⟨some 4, none, .mv (.s 48)⟩] [] [4]) .ret)
def c37_8 : ACode :=
  (.cond (.s 45) c37_7 .skip)
def c37_9 : ACode :=
  (.seq (.seq (.region false [⟨some 43, none, .fa 0 (.s 6)⟩,
    ⟨some 44, none, .ld false 1 (.s 43)⟩,
    ⟨some 45, none, .bin .eql (.s 44) (.c (.t (.int .i64 2)))⟩] [] [2, 3, 6, 45]) c37_8) (.exit 0))
def c37_10 : ACode :=
  (.seq (.region false [⟨some 4, none, .cst (.t (.int .i64 0))⟩] [] [4]) .ret)
def c37_11 : ACode :=
  (.cond (.s 42) c37_10 .skip)
def c37_12 : ACode :=
  (.seq (.seq (.region false [⟨some 35, none, .fa 0 (.s 6)⟩,
    ⟨some 36, none, .ld false 1 (.s 35)⟩,
    ⟨some 37, none, .bin .eql (.s 36) (.c (.t (.int .i64 2)))⟩,
    ⟨some 38, none, .mv (.s 37)⟩,
    ⟨some 39, some (38, true), .fa 1 (.s 6)⟩,
    ⟨some 40, some (38, true), .ld false 1 (.s 39)⟩,
    ⟨some 41, some (38, true), .bin .lss (.s 40) (.c (.t (.int .i64 0)))⟩,
    ⟨some 42, none, .pick (.s 38) (.s 41) (.c (.t (.bool false)))⟩] [] [2, 3, 6, 42]) c37_11) c37_9)
def c37_13 : ACode :=
  (.seq (.region false [⟨some 29, none, .fa 3 (.s 3)⟩,
    ⟨some 30, none, .ld false 1 (.s 29)⟩,
    ⟨some 31, none, .mv (.s 5)⟩,
    ⟨some 32, none, .ia 6 (.s 30) (.s 31)⟩,
    ⟨some 33, none, .fa 1 (.s 32)⟩,
    ⟨some 34, none, .ld true 5 (.s 33)⟩,
    ⟨some 6, none, .alloc [.t (.int .i64 0), .t (.int .i64 0), .t (.str []), .nils, .nils]⟩,
    ⟨none, none, .st 5 (.s 6) (.s 34)⟩] [] [2, 3, 6]) c37_12)
def c37_14 : ACode :=
  (.cond (.s 28) (.exit 1) .skip)
def c37_15 : ACode :=
  (.seq (.seq (.region false [⟨some 22, none, .fa 3 (.s 3)⟩,
    ⟨some 23, none, .ld false 1 (.s 22)⟩,
    ⟨some 24, none, .mv (.s 5)⟩,
    ⟨some 25, none, .ia 6 (.s 23) (.s 24)⟩,
    ⟨some 26, none, .fa 0 (.s 25)⟩,
    ⟨some 27, none, .ld false 1 (.s 26)⟩,
    ⟨some 28, none, .bin .neq (.s 27) (.c (.t (.str [102, 105, 114, 115, 116])))⟩] [] [2, 3, 5, 28]) c37_14) c37_13)
def c37_16 : ACode :=
  (.seq (.block 1 c37_15) c37_6)
def c37_17 : ACode :=
  (.cond (.s 19) .skip (.exit 0))
def c37_18 : ACode :=
  (.seq (.seq (.region false [⟨some 15, none, .mv (.s 5)⟩,
    ⟨some 16, none, .fa 3 (.s 3)⟩,
    ⟨some 17, none, .ld false 1 (.s 16)⟩,
    ⟨some 18, none, .len (.s 17)⟩,
    ⟨some 19, none, .bin .lss (.s 15) (.s 18)⟩] [] [2, 3, 5, 19]) c37_17) c37_16)
def c37_19 : ACode :=
  (.loop c37_18)
def c37_20 : ACode :=
  (.block 0 c37_19)
def c37_21 : ACode :=
  (.seq (.seq (.region false [⟨some 5, none, .cst (.t (.int .i64 0))⟩] [] [2, 3, 5]) c37_20) c37_5)
def c37_22 : ACode :=
  (.seq (.region false [⟨some 4, none, .cst (.t (.int .i64 1))⟩] [] [4]) .ret)
def c37_23 : ACode :=
  (.cond (.s 14) c37_22 .skip)
def c37_24 : ACode :=
  (.seq (.seq (.region false [⟨some 11, none, .fa 4 (.s 3)⟩,
    ⟨some 12, none, .ld true 2 (.s 11)⟩,
    ⟨some 13, none, .call 76 [(.s 12)]⟩,
    ⟨some 14, none, .bin .eql (.s 13) (.c (.t (.int .i64 0)))⟩] [] [2, 3, 14]) c37_23) c37_21)
def c37 : ACode :=
  (.seq (.region false [⟨some 2, none, .box 1 (.s 0)⟩,
    ⟨some 3, none, .box 9 (.s 1)⟩,
    ⟨some 4, none, .cst (.t (.int .i64 0))⟩] [] [2, 3]) c37_24)
def r37 : List ARes := [.tmp 4]
def n37 : Nat := 66
/- 38 supergraph cost.Of -/
def c38_0 : ACode :=
  (.seq (.region false [⟨some 5, none, .ld true 1 (.s 2)⟩,
    ⟨some 6, none, .fa 1 (.s 3)⟩,
    ⟨some 7, none, .ld false 1 (.s 6)⟩,
    ⟨some 8, none, .call 78 [(.s 5), (.s 7)]⟩,
    ⟨some 4, none, .mv (.s 8)⟩] [] [4]) .ret)
def c38 : ACode :=
  (.seq (.region false [⟨some 2, none, .box 1 (.s 0)⟩,
    ⟨some 3, none, .box 2 (.s 1)⟩,
    ⟨some 4, none, .cst (.t (.int .i64 0))⟩] [] [2, 3]) c38_0)
def r38 : List ARes := [.tmp 4]
def n38 : Nat := 9
/- 39 supergraph supergraphref40.Of -/
def c39_0 : ACode :=
  (.seq (.region false [⟨some 5, none, .ld true 1 (.s 2)⟩,
    ⟨some 6, none, .fa 1 (.s 3)⟩,
    ⟨some 7, none, .ld false 1 (.s 6)⟩,
    ⟨some 8, none, .call 79 [(.s 5), (.s 7)]⟩,
    ⟨some 4, none, .mv (.s 8)⟩] [] [4]) .ret)
def c39 : ACode :=
  (.seq (.region false [⟨some 2, none, .box 1 (.s 0)⟩,
    ⟨some 3, none, .box 2 (.s 1)⟩,
    ⟨some 4, none, .cst (.t (.int .i64 0))⟩] [] [2, 3]) c39_0)
def r39 : List ARes := [.tmp 4]
def n39 : Nat := 9
/- 40 supergraph cost.Actual -/
def c40_0 : ACode :=
  (.seq (.region false [⟨some 23, none, .ld true 1 (.s 4)⟩,
    ⟨some 24, none, .mv (.s 2)⟩,
    ⟨some 25, none, .ld true 5 (.s 7)⟩,
    ⟨some 26, none, .call 81 [(.s 23), (.s 24), (.s 25)]⟩,
    ⟨some 8, none, .mv (.s 26)⟩] [] [8]) .ret)
def c40_1 : ACode :=
  (.seq (.region false [⟨some 8, none, .cst (.t (.int .i64 0))⟩] [] [8]) .ret)
def c40_2 : ACode :=
  (.cond (.s 22) c40_1 .skip)
def c40_3 : ACode :=
  (.seq (.region false [⟨some 16, none, .mv (.s 10)⟩,
    ⟨some 17, none, .un .not (.s 16)⟩,
    ⟨some 18, none, .mv (.s 17)⟩,
    ⟨some 19, some (18, false), .mv (.s 9)⟩,
    ⟨some 20, some (18, false), .mv (.s 1)⟩,
    ⟨some 21, some (18, false), .bin .neq (.s 19) (.s 20)⟩,
    ⟨some 22, none, .pick (.s 18) (.c (.t (.bool true))) (.s 21)⟩] [] [2, 4, 7, 22]) c40_2)
def c40_4 : ACode :=
  (.seq (.seq (.region false [⟨some 12, none, .ld true 5 (.s 7)⟩,
    ⟨some 13, none, .call 80 [(.s 12)]⟩,
    ⟨some 11, none, .mv (.s 13)⟩,
    ⟨some 14, none, .ext (.s 11) 0⟩,
    ⟨some 15, none, .ext (.s 11) 1⟩,
    ⟨some 9, none, .mv (.s 14)⟩,
    ⟨some 10, none, .mv (.s 15)⟩] [] [1, 2, 4, 7, 9, 10]) c40_3) c40_0)
def c40 : ACode :=
  (.seq (.region false [⟨some 4, none, .box 1 (.s 0)⟩,
    ⟨some 7, none, .box 5 (.s 3)⟩,
    ⟨some 8, none, .cst (.t (.int .i64 0))⟩] [] [1, 2, 4, 7]) c40_4)
def r40 : List ARes := [.tmp 8]
def n40 : Nat := 27
/- 41 supergraph supergraphref40.Actual -/
def c41_0 : ACode :=
  (.seq (.region false [⟨some 23, none, .ld true 1 (.s 4)⟩,
    ⟨some 24, none, .mv (.s 2)⟩,
    ⟨some 25, none, .ld true 5 (.s 7)⟩,
    ⟨some 26, none, .call 83 [(.s 23), (.s 24), (.s 25)]⟩,
    ⟨some 8, none, .mv (.s 26)⟩] [] [8]) .ret)
def c41_1 : ACode :=
  (.seq (.region false [⟨some 8, none, .cst (.t (.int .i64 0))⟩] [] [8]) .ret)
def c41_2 : ACode :=
  (.cond (.s 22) c41_1 .skip)
def c41_3 : ACode :=
  (.seq (.seq (.region false [⟨some 16, none, .mv (.s 10)⟩,
    ⟨some 17, none, .un .not (.s 16)⟩,
    ⟨some 18, none, .mv (.s 17)⟩,
    ⟨some 19, some (18, false), .mv (.s 9)⟩,
    ⟨some 20, some (18, false), .mv (.s 1)⟩,
    ⟨some 21, some (18, false), .bin .neq (.s 19) (.s 20)⟩,
    ⟨some 22, none, .pick (.s 18) (.c (.t (.bool true))) (.s 21)⟩] [] [2, 4, 7, 22]) c41_2) c41_0)
def c41_4 : ACode :=
  (.seq (.region false [⟨some 12, none, .ld true 5 (.s 7)⟩,
    ⟨some 13, none, .call 82 [(.s 12)]⟩,
    ⟨some 11, none, .mv (.s 13)⟩,
    ⟨some 14, none, .ext (.s 11) 0⟩,
    ⟨some 15, none, .ext (.s 11) 1⟩,
    ⟨some 9, none, .mv (.s 14)⟩,
    ⟨some 10, none, .mv (.s 15)⟩] [] [1, 2, 4, 7, 9, 10]) c41_3)
def c41 : ACode :=
  (.seq (.region false [⟨some 4, none, .box 1 (.s 0)⟩,
    ⟨some 7, none, .box 5 (.s 3)⟩,
    ⟨some 8, none, .cst (.t (.int .i64 0))⟩] [] [1, 2, 4, 7]) c41_4)
def r41 : List ARes := [.tmp 8]
def n41 : Nat := 27
/- 42 supergraph cost.Within -/
def c42_0 : ACode :=
  (.seq (.region false [⟨some 51, none, .fa 0 (.s 5)⟩,
    ⟨some 52, none, .ld false 1 (.s 51)⟩,
    ⟨some 53, none, .bin .neq (.s 52) (.c (.t (.int .i64 5)))⟩,
    ⟨some 6, none, .mv (.s 53)⟩] [] [6]) .ret)
def c42_1 : ACode :=
  (.region false [⟨some 50, none, .bin .add (.s 20) (.c (.t (.int .i64 1)))⟩,
    ⟨some 20, none, .mv (.s 50)⟩] [] [3, 5, 7, 8, 18, 19, 20])
def c42_2 : ACode :=
  (.seq (.region false [⟨some 6, none, .cst (.t (.bool false))⟩] [] [6]) .ret)
def c42_3 : ACode :=
  (.cond (.s 49) c42_2 .skip)
def c42_4 : ACode :=
  (.seq (.region true [⟨some 39, none, .mv (.s 12)⟩,
    ⟨some 40, none, .mv (.s 39)⟩,
    ⟨some 41, some (40, true), .ld true 1 (.s 3)⟩,
    ⟨some 42, some (40, true), .ld true 9 (.s 10)⟩,
    ⟨some 43, some (40, true), .fa 4 (.s 10)⟩,
    ⟨some 44, some (40, true), .ld true 2 (.s 43)⟩,
    ⟨some 45, some (40, true), .call 73 [(.s 44)]⟩,
    ⟨some 46, some (40, true), .ld true 5 (.s 11)⟩,
    ⟨some 47, some (40, true), .call 85 [(.s 41), (.s 42), (.s 45), (.s 46)]⟩,
    ⟨some 48, some (40, true), .un .not (.s 47)⟩,
    ⟨some 49, none, .pick (.s 40) (.s 48) (.c (.t (.bool false)))⟩] [[], [0], [1], [1], [1], [4, 1], [5, 1, 1], [1], [2, 3, 6, 7, 6, 1], [8, 1], [1, 9]] [3, 5, 7, 8, 18, 19, 20, 49]) c42_3)
def c42_5 : ACode :=
  (.seq (.region false [⟨some 33, none, .ld true 5 (.s 5)⟩,
    ⟨some 34, none, .fa 0 (.s 10)⟩,
    ⟨some 35, none, .ld false 1 (.s 34)⟩,
    ⟨some 36, none, .call 84 [(.s 33), (.s 35)]⟩,
    ⟨some 32, none, .mv (.s 36)⟩,
    ⟨some 37, none, .ext (.s 32) 0⟩,
    ⟨some 38, none, .ext (.s 32) 1⟩,
    ⟨some 11, none, .alloc [.t (.int .i64 0), .t (.int .i64 0), .t (.str []), .nils, .nils]⟩,
    ⟨none, none, .st 5 (.s 11) (.s 37)⟩,
    ⟨some 12, none, .mv (.s 38)⟩] [] [3, 5, 7, 8, 10, 11, 12, 18, 19, 20]) c42_4)
def c42_6 : ACode :=
  (.cond (.s 31) (.exit 1) .skip)
def c42_7 : ACode :=
  (.seq (.seq (.region false [⟨some 24, none, .mv (.s 8)⟩,
    ⟨some 25, none, .un .not (.s 24)⟩,
    ⟨some 26, none, .mv (.s 25)⟩,
    ⟨some 27, some (26, false), .fa 1 (.s 10)⟩,
    ⟨some 28, some (26, false), .ld false 1 (.s 27)⟩,
    ⟨some 29, some (26, false), .mv (.s 7)⟩,
    ⟨some 30, some (26, false), .bin .neq (.s 28) (.s 29)⟩,
    ⟨some 31, none, .pick (.s 26) (.c (.t (.bool true))) (.s 30)⟩] [] [3, 5, 7, 8, 10, 18, 19, 20, 31]) c42_6) c42_5)
def c42_8 : ACode :=
  (.seq (.region false [⟨some 22, none, .ia 9 (.s 18) (.s 20)⟩,
    ⟨some 23, none, .ld true 9 (.s 22)⟩,
    ⟨some 10, none, .alloc [.t (.str []), .t (.str []), .t (.str []), .nils, .t (.str []), .nils, .t (.str []), .t (.int .i64 0), .nils]⟩,
    ⟨none, none, .st 9 (.s 10) (.s 23)⟩] [] [3, 5, 7, 8, 10, 18, 19, 20]) c42_7)
def c42_9 : ACode :=
  (.seq (.block 1 c42_8) c42_1)
def c42_10 : ACode :=
  (.seq (.cond (.s 21) .skip (.exit 0)) c42_9)
def c42_11 : ACode :=
  (.seq (.region false [⟨some 21, none, .bin .lss (.s 20) (.s 19)⟩] [] [3, 5, 7, 8, 18, 19, 20, 21]) c42_10)
def c42_12 : ACode :=
  (.loop c42_11)
def c42_13 : ACode :=
  (.block 0 c42_12)
def c42_14 : ACode :=
  (.seq (.seq (.region false [⟨some 18, none, .mv (.s 1)⟩,
    ⟨some 19, none, .len (.s 18)⟩,
    ⟨some 20, none, .cst (.t (.int .i64 0))⟩] [] [3, 5, 7, 8, 18, 19, 20]) c42_13) c42_0)
def c42_15 : ACode :=
  (.seq (.region false [⟨some 14, none, .ld true 5 (.s 5)⟩,
    ⟨some 15, none, .call 80 [(.s 14)]⟩,
    ⟨some 13, none, .mv (.s 15)⟩,
    ⟨some 16, none, .ext (.s 13) 0⟩,
    ⟨some 17, none, .ext (.s 13) 1⟩,
    ⟨some 7, none, .mv (.s 16)⟩,
    ⟨some 8, none, .mv (.s 17)⟩] [] [1, 3, 5, 7, 8]) c42_14)
def c42 : ACode :=
  (.seq (.region false [⟨some 3, none, .box 1 (.s 0)⟩,
    ⟨some 5, none, .box 5 (.s 2)⟩,
    ⟨some 6, none, .cst (.t (.bool false))⟩] [] [1, 3, 5]) c42_15)
def r42 : List ARes := [.tmp 6]
def n42 : Nat := 54
/- 43 supergraph supergraphref40.Within -/
def c43_0 : ACode :=
  (.seq (.region false [⟨some 6, none, .cst (.t (.bool true))⟩] [] [6]) .ret)
def c43_1 : ACode :=
  (.region false [⟨some 27, none, .mv (.s 9)⟩,
    ⟨some 28, none, .bin .add (.s 27) (.c (.t (.int .i64 1)))⟩,
    ⟨some 9, none, .mv (.s 28)⟩] [] [1, 3, 5, 7, 8, 9])
def c43_2 : ACode :=
  (.seq (.region false [⟨some 6, none, .cst (.t (.bool false))⟩] [] [6]) .ret)
def c43_3 : ACode :=
  (.cond (.s 64) c43_2 .skip)
def c43_4 : ACode :=
  (.seq (.region true [⟨some 39, none, .mv (.s 1)⟩,
    ⟨some 40, none, .mv (.s 9)⟩,
    ⟨some 41, none, .ia 9 (.s 39) (.s 40)⟩,
    ⟨some 42, none, .fa 1 (.s 41)⟩,
    ⟨some 43, none, .ld false 1 (.s 42)⟩,
    ⟨some 44, none, .mv (.s 7)⟩,
    ⟨some 45, none, .bin .eql (.s 43) (.s 44)⟩,
    ⟨some 46, none, .mv (.s 45)⟩,
    ⟨some 47, some (46, true), .mv (.s 11)⟩,
    ⟨some 48, none, .pick (.s 46) (.s 47) (.c (.t (.bool false)))⟩,
    ⟨some 49, none, .mv (.s 48)⟩,
    ⟨some 50, some (49, true), .ld true 1 (.s 3)⟩,
    ⟨some 51, some (49, true), .mv (.s 1)⟩,
    ⟨some 52, some (49, true), .mv (.s 9)⟩,
    ⟨some 53, some (49, true), .ia 9 (.s 51) (.s 52)⟩,
    ⟨some 54, some (49, true), .ld true 9 (.s 53)⟩,
    ⟨some 55, some (49, true), .mv (.s 1)⟩,
    ⟨some 56, some (49, true), .mv (.s 9)⟩,
    ⟨some 57, some (49, true), .ia 9 (.s 55) (.s 56)⟩,
    ⟨some 58, some (49, true), .fa 4 (.s 57)⟩,
    ⟨some 59, some (49, true), .ld true 2 (.s 58)⟩,
    ⟨some 60, some (49, true), .call 76 [(.s 59)]⟩,
    ⟨some 61, some (49, true), .ld true 5 (.s 10)⟩,
    ⟨some 62, some (49, true), .call 87 [(.s 50), (.s 54), (.s 60), (.s 61)]⟩,
    ⟨some 63, some (49, true), .un .not (.s 62)⟩,
    ⟨some 64, none, .pick (.s 49) (.s 63) (.c (.t (.bool false)))⟩] [[], [], [0, 1], [2], [3], [], [4, 5], [6], [7], [7, 8], [9, 7], [10], [10], [10], [12, 13, 10], [14, 10], [10], [10], [16, 17, 10], [18, 10], [19, 10], [20, 10, 10], [10], [11, 15, 21, 22, 21, 10], [23, 10], [10, 24]] [1, 3, 5, 7, 8, 9, 64]) c43_3)
def c43_5 : ACode :=
  (.seq (.region true [⟨some 30, none, .ld true 5 (.s 5)⟩,
    ⟨some 31, none, .mv (.s 1)⟩,
    ⟨some 32, none, .mv (.s 9)⟩,
    ⟨some 33, none, .ia 9 (.s 31) (.s 32)⟩,
    ⟨some 34, none, .fa 0 (.s 33)⟩,
    ⟨some 35, none, .ld false 1 (.s 34)⟩,
    ⟨some 36, none, .call 86 [(.s 30), (.s 35)]⟩,
    ⟨some 29, none, .mv (.s 36)⟩,
    ⟨some 37, none, .ext (.s 29) 0⟩,
    ⟨some 38, none, .ext (.s 29) 1⟩,
    ⟨some 10, none, .alloc [.t (.int .i64 0), .t (.int .i64 0), .t (.str []), .nils, .nils]⟩,
    ⟨none, none, .st 5 (.s 10) (.s 37)⟩,
    ⟨some 11, none, .mv (.s 38)⟩] [[], [], [], [1, 2], [3], [4], [0, 5], [6], [7], [7], [], [10, 8, 6, 0, 1, 2, 3, 4, 5, 6, 7, 8, 10], [9, 11, 0, 1, 2, 3, 4, 5, 6, 7, 8, 9, 10, 11]] [1, 3, 5, 7, 8, 9, 10, 11]) c43_4)
def c43_6 : ACode :=
  (.seq (.block 1 c43_5) c43_1)
def c43_7 : ACode :=
  (.cond (.s 26) .skip (.exit 0))
def c43_8 : ACode :=
  (.seq (.seq (.region false [⟨some 20, none, .mv (.s 9)⟩,
    ⟨some 21, none, .mv (.s 1)⟩,
    ⟨some 22, none, .len (.s 21)⟩,
    ⟨some 23, none, .bin .lss (.s 20) (.s 22)⟩,
    ⟨some 24, none, .mv (.s 23)⟩,
    ⟨some 25, some (24, true), .mv (.s 8)⟩,
    ⟨some 26, none, .pick (.s 24) (.s 25) (.c (.t (.bool false)))⟩] [] [1, 3, 5, 7, 8, 9, 26]) c43_7) c43_6)
def c43_9 : ACode :=
  (.loop c43_8)
def c43_10 : ACode :=
  (.block 0 c43_9)
def c43_11 : ACode :=
  (.seq (.seq (.region false [⟨some 9, none, .cst (.t (.int .i64 0))⟩] [] [1, 3, 5, 7, 8, 9]) c43_10) c43_0)
def c43_12 : ACode :=
  (.seq (.region false [⟨some 16, none, .ld true 5 (.s 5)⟩,
    ⟨some 17, none, .call 82 [(.s 16)]⟩,
    ⟨some 15, none, .mv (.s 17)⟩,
    ⟨some 18, none, .ext (.s 15) 0⟩,
    ⟨some 19, none, .ext (.s 15) 1⟩,
    ⟨some 7, none, .mv (.s 18)⟩,
    ⟨some 8, none, .mv (.s 19)⟩] [] [1, 3, 5, 7, 8]) c43_11)
def c43_13 : ACode :=
  (.seq (.region false [⟨some 6, none, .cst (.t (.bool false))⟩] [] [6]) .ret)
def c43_14 : ACode :=
  (.cond (.s 14) c43_13 .skip)
def c43_15 : ACode :=
  (.seq (.seq (.region false [⟨some 12, none, .fa 0 (.s 5)⟩,
    ⟨some 13, none, .ld false 1 (.s 12)⟩,
    ⟨some 14, none, .bin .eql (.s 13) (.c (.t (.int .i64 5)))⟩] [] [1, 3, 5, 14]) c43_14) c43_12)
def c43 : ACode :=
  (.seq (.region false [⟨some 3, none, .box 1 (.s 0)⟩,
    ⟨some 5, none, .box 5 (.s 2)⟩,
    ⟨some 6, none, .cst (.t (.bool false))⟩] [] [1, 3, 5]) c43_15)
def r43 : List ARes := [.tmp 6]
def n43 : Nat := 65
/- 44 supergraph supergraphlaw40.single -/
def c44_0 : ACode :=
  (.seq (.region false [⟨some 2, none, .cst (.t (.bool true))⟩] [] [2]) .ret)
def c44_1 : ACode :=
  (.region false [⟨some 9, none, .mv (.s 3)⟩,
    ⟨some 10, none, .bin .add (.s 9) (.c (.t (.int .i64 1)))⟩,
    ⟨some 3, none, .mv (.s 10)⟩] [] [0, 3])
def c44_2 : ACode :=
  (.seq (.region false [⟨some 2, none, .cst (.t (.bool false))⟩] [] [2]) .ret)
def c44_3 : ACode :=
  (.cond (.s 46) c44_2 .skip)
def c44_4 : ACode :=
  (.seq (.region false [⟨some 40, none, .mv (.s 0)⟩,
    ⟨some 41, none, .mv (.s 3)⟩,
    ⟨some 42, none, .ia 9 (.s 40) (.s 41)⟩,
    ⟨some 43, none, .fa 8 (.s 42)⟩,
    ⟨some 44, none, .ld false 1 (.s 43)⟩,
    ⟨some 45, none, .call 44 [(.s 44)]⟩,
    ⟨some 46, none, .un .not (.s 45)⟩] [] [0, 3, 46]) c44_3)
def c44_5 : ACode :=
  (.region false [⟨some 14, none, .mv (.s 4)⟩,
    ⟨some 15, none, .bin .add (.s 14) (.c (.t (.int .i64 1)))⟩,
    ⟨some 4, none, .mv (.s 15)⟩] [] [0, 3, 4])
def c44_6 : ACode :=
  (.seq (.region false [⟨some 2, none, .cst (.t (.bool false))⟩] [] [2]) .ret)
def c44_7 : ACode :=
  (.cond (.s 39) c44_6 .skip)
def c44_8 : ACode :=
  (.seq (.region true [⟨some 16, none, .mv (.s 0)⟩,
    ⟨some 17, none, .mv (.s 4)⟩,
    ⟨some 18, none, .ia 9 (.s 16) (.s 17)⟩,
    ⟨some 19, none, .fa 1 (.s 18)⟩,
    ⟨some 20, none, .ld false 1 (.s 19)⟩,
    ⟨some 21, none, .mv (.s 0)⟩,
    ⟨some 22, none, .mv (.s 3)⟩,
    ⟨some 23, none, .ia 9 (.s 21) (.s 22)⟩,
    ⟨some 24, none, .fa 1 (.s 23)⟩,
    ⟨some 25, none, .ld false 1 (.s 24)⟩,
    ⟨some 26, none, .bin .eql (.s 20) (.s 25)⟩,
    ⟨some 27, none, .mv (.s 26)⟩,
    ⟨some 28, some (27, true), .mv (.s 0)⟩,
    ⟨some 29, some (27, true), .mv (.s 4)⟩,
    ⟨some 30, some (27, true), .ia 9 (.s 28) (.s 29)⟩,
    ⟨some 31, some (27, true), .fa 0 (.s 30)⟩,
    ⟨some 32, some (27, true), .ld false 1 (.s 31)⟩,
    ⟨some 33, some (27, true), .mv (.s 0)⟩,
    ⟨some 34, some (27, true), .mv (.s 3)⟩,
    ⟨some 35, some (27, true), .ia 9 (.s 33) (.s 34)⟩,
    ⟨some 36, some (27, true), .fa 0 (.s 35)⟩,
    ⟨some 37, some (27, true), .ld false 1 (.s 36)⟩,
    ⟨some 38, some (27, true), .bin .eql (.s 32) (.s 37)⟩,
    ⟨some 39, none, .pick (.s 27) (.s 38) (.c (.t (.bool false)))⟩] [[], [], [0, 1], [2], [3], [], [], [5, 6], [7], [8], [4, 9], [10], [11], [11], [12, 13, 11], [14, 11], [15, 11], [11], [11], [17, 18, 11], [19, 11], [20, 11], [16, 21, 11], [11, 22]] [0, 3, 4, 39]) c44_7)
def c44_9 : ACode :=
  (.seq (.block 3 c44_8) c44_5)
def c44_10 : ACode :=
  (.cond (.s 13) .skip (.exit 2))
def c44_11 : ACode :=
  (.seq (.seq (.region false [⟨some 11, none, .mv (.s 4)⟩,
    ⟨some 12, none, .mv (.s 3)⟩,
    ⟨some 13, none, .bin .lss (.s 11) (.s 12)⟩] [] [0, 3, 4, 13]) c44_10) c44_9)
def c44_12 : ACode :=
  (.loop c44_11)
def c44_13 : ACode :=
  (.block 2 c44_12)
def c44_14 : ACode :=
  (.seq (.seq (.region false [⟨some 4, none, .cst (.t (.int .i64 0))⟩] [] [0, 3, 4]) c44_13) c44_4)
def c44_15 : ACode :=
  (.seq (.block 1 c44_14) c44_1)
def c44_16 : ACode :=
  (.cond (.s 8) .skip (.exit 0))
def c44_17 : ACode :=
  (.seq (.seq (.region false [⟨some 5, none, .mv (.s 3)⟩,
    ⟨some 6, none, .mv (.s 0)⟩,
    ⟨some 7, none, .len (.s 6)⟩,
    ⟨some 8, none, .bin .lss (.s 5) (.s 7)⟩] [] [0, 3, 8]) c44_16) c44_15)
def c44_18 : ACode :=
  (.loop c44_17)
def c44_19 : ACode :=
  (.block 0 c44_18)
def c44_20 : ACode :=
  (.seq (.seq (.region false [⟨some 3, none, .cst (.t (.int .i64 0))⟩] [] [0, 3]) c44_19) c44_0)
def c44 : ACode :=
  (.seq (.region false [⟨some 2, none, .cst (.t (.bool false))⟩] [] [0]) c44_20)
def r44 : List ARes := [.tmp 2]
def n44 : Nat := 47
/- 45 supergraph supergraphlaw40.without -/
def c45_0 : ACode :=
  (.seq (.region false [⟨some 36, none, .mv (.s 6)⟩,
    ⟨some 37, none, .mv (.s 1)⟩,
    ⟨some 4, none, .mv (.s 36)⟩,
    ⟨some 5, none, .mv (.s 37)⟩] [] [4, 5]) .ret)
def c45_1 : ACode :=
  (.region false [⟨some 13, none, .mv (.s 7)⟩,
    ⟨some 14, none, .bin .add (.s 13) (.c (.t (.int .i64 1)))⟩,
    ⟨some 7, none, .mv (.s 14)⟩] [] [0, 1, 6, 7])
def c45_2 : ACode :=
  (.region false [⟨some 32, none, .mv (.s 6)⟩,
    ⟨some 33, none, .ld true 9 (.s 8)⟩,
    ⟨some 34, none, .bsl false 9 [[.str [], .str [], .str [], .lst [], .str [], .lst [], .str [], .int .i64 0, .lst []]] [(0, (.s 33))]⟩,
    ⟨some 35, none, .app 9 160 (.s 32) (.s 34)⟩,
    ⟨some 6, none, .mv (.s 35)⟩] [] [0, 1, 6, 7])
def c45_3 : ACode :=
  (.region false [⟨some 24, none, .fa 8 (.s 8)⟩,
    ⟨some 25, none, .ld false 1 (.s 24)⟩,
    ⟨some 26, none, .mv (.s 1)⟩,
    ⟨some 27, none, .bin .sub (.s 26) (.c (.t (.int .i64 1)))⟩,
    ⟨some 28, none, .call 45 [(.s 25), (.s 27)]⟩,
    ⟨some 23, none, .mv (.s 28)⟩,
    ⟨some 29, none, .ext (.s 23) 0⟩,
    ⟨some 30, none, .ext (.s 23) 1⟩,
    ⟨some 31, none, .fa 8 (.s 8)⟩,
    ⟨none, none, .st 1 (.s 31) (.s 29)⟩,
    ⟨some 1, none, .mv (.s 30)⟩] [] [0, 1, 6, 7, 8])
def c45_4 : ACode :=
  (.cond (.s 22) c45_3 .skip)
def c45_5 : ACode :=
  (.seq (.seq (.region false [⟨some 21, none, .mv (.s 1)⟩,
    ⟨some 22, none, .bin .gtr (.s 21) (.c (.t (.int .i64 0)))⟩] [] [0, 1, 6, 7, 8, 22]) c45_4) c45_2)
def c45_6 : ACode :=
  (.seq (.region false [⟨some 1, none, .cst (.t (.int .i64 (-1)))⟩] [] [0, 1, 6, 7]) (.exit 1))
def c45_7 : ACode :=
  (.cond (.s 20) c45_6 .skip)
def c45_8 : ACode :=
  (.seq (.seq (.region false [⟨some 19, none, .mv (.s 1)⟩,
    ⟨some 20, none, .bin .eql (.s 19) (.c (.t (.int .i64 0)))⟩] [] [0, 1, 6, 7, 8, 20]) c45_7) c45_5)
def c45_9 : ACode :=
  (.seq (.region false [⟨some 15, none, .mv (.s 0)⟩,
    ⟨some 16, none, .mv (.s 7)⟩,
    ⟨some 17, none, .ia 9 (.s 15) (.s 16)⟩,
    ⟨some 18, none, .ld true 9 (.s 17)⟩,
    ⟨some 8, none, .alloc [.t (.str []), .t (.str []), .t (.str []), .nils, .t (.str []), .nils, .t (.str []), .t (.int .i64 0), .nils]⟩,
    ⟨none, none, .st 9 (.s 8) (.s 18)⟩] [] [0, 1, 6, 7, 8]) c45_8)
def c45_10 : ACode :=
  (.seq (.block 1 c45_9) c45_1)
def c45_11 : ACode :=
  (.cond (.s 12) .skip (.exit 0))
def c45_12 : ACode :=
  (.seq (.seq (.region false [⟨some 9, none, .mv (.s 7)⟩,
    ⟨some 10, none, .mv (.s 0)⟩,
    ⟨some 11, none, .len (.s 10)⟩,
    ⟨some 12, none, .bin .lss (.s 9) (.s 11)⟩] [] [0, 1, 6, 7, 12]) c45_11) c45_10)
def c45_13 : ACode :=
  (.loop c45_12)
def c45_14 : ACode :=
  (.block 0 c45_13)
def c45_15 : ACode :=
  (.seq (.seq (.region false [⟨some 7, none, .cst (.t (.int .i64 0))⟩] [] [0, 1, 6, 7]) c45_14) c45_0)
def c45_16 : ACode :=
  (.seq (.region false [⟨some 6, none, .cst (.nils)⟩] [] [0, 1, 6]) c45_15)
def c45 : ACode :=
  (.seq (.region false [⟨some 4, none, .cst (.nils)⟩,
    ⟨some 5, none, .cst (.t (.int .i64 0))⟩] [] [0, 1]) c45_16)
def r45 : List ARes := [.tmp 4, .tmp 5]
def n45 : Nat := 38
/- 62 supergraph supergraphlaw40.size -/
def c62_0 : ACode :=
  (.seq (.region false [⟨some 40, none, .mv (.s 3)⟩,
    ⟨some 2, none, .mv (.s 40)⟩] [] [2]) .ret)
def c62_1 : ACode :=
  (.region false [⟨some 15, none, .mv (.s 4)⟩,
    ⟨some 16, none, .bin .add (.s 15) (.c (.t (.int .i64 1)))⟩,
    ⟨some 4, none, .mv (.s 16)⟩] [] [0, 3, 4])
def c62_2 : ACode :=
  (.region true [⟨some 17, none, .mv (.s 3)⟩,
    ⟨some 18, none, .mv (.s 0)⟩,
    ⟨some 19, none, .mv (.s 4)⟩,
    ⟨some 20, none, .ia 9 (.s 18) (.s 19)⟩,
    ⟨some 21, none, .fa 4 (.s 20)⟩,
    ⟨some 22, none, .fa 1 (.s 21)⟩,
    ⟨some 23, none, .ld false 1 (.s 22)⟩,
    ⟨some 24, none, .len (.s 23)⟩,
    ⟨some 25, none, .bin .add (.s 17) (.s 24)⟩,
    ⟨some 26, none, .mv (.s 0)⟩,
    ⟨some 27, none, .mv (.s 4)⟩,
    ⟨some 28, none, .ia 9 (.s 26) (.s 27)⟩,
    ⟨some 29, none, .fa 3 (.s 28)⟩,
    ⟨some 30, none, .ld false 1 (.s 29)⟩,
    ⟨some 31, none, .len (.s 30)⟩,
    ⟨some 32, none, .bin .add (.s 25) (.s 31)⟩,
    ⟨some 33, none, .mv (.s 0)⟩,
    ⟨some 34, none, .mv (.s 4)⟩,
    ⟨some 35, none, .ia 9 (.s 33) (.s 34)⟩,
    ⟨some 36, none, .fa 8 (.s 35)⟩,
    ⟨some 37, none, .ld false 1 (.s 36)⟩,
    ⟨some 38, none, .call 62 [(.s 37)]⟩,
    ⟨some 39, none, .bin .add (.s 32) (.s 38)⟩,
    ⟨some 3, none, .mv (.s 39)⟩] [[], [], [], [1, 2], [3], [4], [5], [6], [0, 7], [], [], [9, 10], [11], [12], [13], [8, 14], [], [], [16, 17], [18], [19], [20], [15, 21], [22, 21, 0, 1, 2, 3, 4, 5, 6, 7, 8, 9, 10, 11, 12, 13, 14, 15, 16, 17, 18, 19, 20, 21, 22]] [0, 3, 4])
def c62_3 : ACode :=
  (.seq (.block 1 c62_2) c62_1)
def c62_4 : ACode :=
  (.cond (.s 14) .skip (.exit 0))
def c62_5 : ACode :=
  (.seq (.seq (.region false [⟨some 7, none, .mv (.s 4)⟩,
    ⟨some 8, none, .mv (.s 0)⟩,
    ⟨some 9, none, .len (.s 8)⟩,
    ⟨some 10, none, .bin .lss (.s 7) (.s 9)⟩,
    ⟨some 11, none, .mv (.s 10)⟩,
    ⟨some 12, some (11, true), .mv (.s 3)⟩,
    ⟨some 13, some (11, true), .bin .leq (.s 12) (.c (.t (.int .i64 200)))⟩,
    ⟨some 14, none, .pick (.s 11) (.s 13) (.c (.t (.bool false)))⟩] [] [0, 3, 4, 14]) c62_4) c62_3)
def c62_6 : ACode :=
  (.loop c62_5)
def c62_7 : ACode :=
  (.block 0 c62_6)
def c62_8 : ACode :=
  (.seq (.seq (.region false [⟨some 4, none, .cst (.t (.int .i64 0))⟩] [] [0, 3, 4]) c62_7) c62_0)
def c62_9 : ACode :=
  (.seq (.region false [⟨some 5, none, .mv (.s 0)⟩,
    ⟨some 6, none, .len (.s 5)⟩,
    ⟨some 3, none, .mv (.s 6)⟩] [] [0, 3]) c62_8)
def c62 : ACode :=
  (.seq (.region false [⟨some 2, none, .cst (.t (.int .i64 0))⟩] [] [0]) c62_9)
def r62 : List ARes := [.tmp 2]
def n62 : Nat := 41
/- 63 supergraph supergraphlaw40.deep -/
def c63_0 : ACode :=
  (.seq (.region false [⟨some 20, none, .mv (.s 3)⟩,
    ⟨some 2, none, .mv (.s 20)⟩] [] [2]) .ret)
def c63_1 : ACode :=
  (.region false [⟨some 9, none, .mv (.s 4)⟩,
    ⟨some 10, none, .bin .add (.s 9) (.c (.t (.int .i64 1)))⟩,
    ⟨some 4, none, .mv (.s 10)⟩] [] [0, 3, 4])
def c63_2 : ACode :=
  (.region false [⟨some 11, none, .mv (.s 3)⟩,
    ⟨some 12, none, .mv (.s 0)⟩,
    ⟨some 13, none, .mv (.s 4)⟩,
    ⟨some 14, none, .ia 9 (.s 12) (.s 13)⟩,
    ⟨some 15, none, .fa 8 (.s 14)⟩,
    ⟨some 16, none, .ld false 1 (.s 15)⟩,
    ⟨some 17, none, .call 63 [(.s 16)]⟩,
    ⟨some 18, none, .bin .add (.c (.t (.int .i64 1))) (.s 17)⟩,
    ⟨some 19, none, .maxi (.s 11) (.s 18)⟩,
    ⟨some 3, none, .mv (.s 19)⟩] [] [0, 3, 4])
def c63_3 : ACode :=
  (.seq (.block 1 c63_2) c63_1)
def c63_4 : ACode :=
  (.cond (.s 8) .skip (.exit 0))
def c63_5 : ACode :=
  (.seq (.seq (.region false [⟨some 5, none, .mv (.s 4)⟩,
    ⟨some 6, none, .mv (.s 0)⟩,
    ⟨some 7, none, .len (.s 6)⟩,
    ⟨some 8, none, .bin .lss (.s 5) (.s 7)⟩] [] [0, 3, 4, 8]) c63_4) c63_3)
def c63_6 : ACode :=
  (.loop c63_5)
def c63_7 : ACode :=
  (.block 0 c63_6)
def c63_8 : ACode :=
  (.seq (.seq (.region false [⟨some 4, none, .cst (.t (.int .i64 0))⟩] [] [0, 3, 4]) c63_7) c63_0)
def c63_9 : ACode :=
  (.seq (.region false [⟨some 3, none, .cst (.t (.int .i64 0))⟩] [] [0, 3]) c63_8)
def c63 : ACode :=
  (.seq (.region false [⟨some 2, none, .cst (.t (.int .i64 0))⟩] [] [0]) c63_9)
def r63 : List ARes := [.tmp 2]
def n63 : Nat := 21
/- 64 supergraph supergraphlaw40.example -/
def c64_0 : ACode :=
  (.seq (.region true [⟨some 36, none, .ld true 1 (.s 5)⟩,
    ⟨some 37, none, .fa 2 (.s 2)⟩,
    ⟨some 38, none, .ld true 2 (.s 37)⟩,
    ⟨some 39, none, .ld true 9 (.s 7)⟩,
    ⟨some 40, none, .bsl true 9 [[.str [], .str [], .str [], .lst [], .str [], .lst [], .str [], .int .i64 0, .lst []]] [(0, (.s 39))]⟩,
    ⟨some 41, none, .build [.t (.str []), .t (.str []), .t (.str []), .nils, .t (.str []), .nils, .t (.str []), .t (.int .i64 0), .nils] [(0, 1, (.c (.t (.str [109, 101])))), (1, 1, (.c (.t (.str [81, 117, 101, 114, 121])))), (2, 1, (.c (.t (.str [109, 101])))), (4, 2, (.s 38)), (7, 1, (.c (.t (.int .i64 (-1))))), (8, 1, (.s 40))]⟩,
    ⟨some 42, none, .bsl true 9 [[.str [], .str [], .str [], .lst [], .str [], .lst [], .str [], .int .i64 0, .lst []]] [(0, (.s 41))]⟩,
    ⟨none, none, .st 1 (.s 0) (.s 36)⟩,
    ⟨some 1, none, .mv (.s 42)⟩] [[], [], [1], [], [3], [2, 4], [5], [0, 0], [6, 7, 0, 1, 2, 3, 4, 5, 6, 7]] [0, 1]) .ret)
def c64_1 : ACode :=
  (.seq (.region false [⟨some 31, none, .fa 2 (.s 3)⟩,
    ⟨some 32, none, .ld true 2 (.s 31)⟩,
    ⟨some 33, none, .ld true 9 (.s 6)⟩,
    ⟨some 34, none, .bsl true 9 [[.str [], .str [], .str [], .lst [], .str [], .lst [], .str [], .int .i64 0, .lst []]] [(0, (.s 33))]⟩,
    ⟨some 35, none, .build [.t (.str []), .t (.str []), .t (.str []), .nils, .t (.str []), .nils, .t (.str []), .t (.int .i64 0), .nils] [(0, 1, (.c (.t (.str [112, 111, 115, 116, 115])))), (1, 1, (.c (.t (.str [85, 115, 101, 114])))), (2, 1, (.c (.t (.str [112, 111, 115, 116, 115])))), (4, 2, (.s 32)), (7, 1, (.c (.t (.int .i64 (-1))))), (8, 1, (.s 34))]⟩,
    ⟨some 7, none, .alloc [.t (.str []), .t (.str []), .t (.str []), .nils, .t (.str []), .nils, .t (.str []), .t (.int .i64 0), .nils]⟩,
    ⟨none, none, .st 9 (.s 7) (.s 35)⟩] [] [0, 2, 5, 7]) c64_0)
def c64_2 : ACode :=
  (.seq (.region false [⟨some 28, none, .fa 2 (.s 4)⟩,
    ⟨some 29, none, .ld true 2 (.s 28)⟩,
    ⟨some 30, none, .build [.t (.str []), .t (.str []), .t (.str []), .nils, .t (.str []), .nils, .t (.str []), .t (.int .i64 0), .nils] [(0, 1, (.c (.t (.str [116, 101, 120, 116])))), (1, 1, (.c (.t (.str [80, 111, 115, 116])))), (2, 1, (.c (.t (.str [116, 101, 120, 116])))), (4, 2, (.s 29)), (7, 1, (.c (.t (.int .i64 (-1)))))]⟩,
    ⟨some 6, none, .alloc [.t (.str []), .t (.str []), .t (.str []), .nils, .t (.str []), .nils, .t (.str []), .t (.int .i64 0), .nils]⟩,
    ⟨none, none, .st 9 (.s 6) (.s 30)⟩] [] [0, 2, 3, 5, 6]) c64_1)
def c64_3 : ACode :=
  (.seq (.region false [⟨some 17, none, .ld true 5 (.s 2)⟩,
    ⟨some 18, none, .bsl true 5 [[.str [], .lst [], .str [], .lst [], .lst []]] [(0, (.s 17))]⟩,
    ⟨some 19, none, .build [.t (.int .i64 0), .t (.str []), .nils, .nils, .nils, .nils, .nils] [(0, 1, (.c (.t (.int .i64 1)))), (1, 1, (.c (.t (.str [81, 117, 101, 114, 121])))), (4, 1, (.s 18))]⟩,
    ⟨some 20, none, .ld true 5 (.s 3)⟩,
    ⟨some 21, none, .bsl true 5 [[.str [], .lst [], .str [], .lst [], .lst []]] [(0, (.s 20))]⟩,
    ⟨some 22, none, .build [.t (.int .i64 0), .t (.str []), .nils, .nils, .nils, .nils, .nils] [(0, 1, (.c (.t (.int .i64 1)))), (1, 1, (.c (.t (.str [85, 115, 101, 114])))), (4, 1, (.s 21))]⟩,
    ⟨some 23, none, .ld true 5 (.s 4)⟩,
    ⟨some 24, none, .bsl true 5 [[.str [], .lst [], .str [], .lst [], .lst []]] [(0, (.s 23))]⟩,
    ⟨some 25, none, .build [.t (.int .i64 0), .t (.str []), .nils, .nils, .nils, .nils, .nils] [(0, 1, (.c (.t (.int .i64 1)))), (1, 1, (.c (.t (.str [80, 111, 115, 116])))), (4, 1, (.s 24))]⟩,
    ⟨some 26, none, .bsl true 7 [[.int .i64 0, .str [], .lst [], .lst [], .lst [], .lst [], .lst []], [.int .i64 0, .str [], .lst [], .lst [], .lst [], .lst [], .lst []], [.int .i64 0, .str [], .lst [], .lst [], .lst [], .lst [], .lst []]] [(0, (.s 19)), (1, (.s 22)), (2, (.s 25))]⟩,
    ⟨some 27, none, .build [.nils] [(0, 1, (.s 26))]⟩,
    ⟨some 5, none, .alloc [.nils]⟩,
    ⟨none, none, .st 1 (.s 5) (.s 27)⟩] [] [0, 2, 3, 4, 5]) c64_2)
def c64_4 : ACode :=
  (.seq (.region false [⟨some 14, none, .build [.t (.str []), .nils] [(0, 1, (.c (.t (.str [83, 116, 114, 105, 110, 103]))))]⟩,
    ⟨some 15, none, .call 106 [(.c (.t (.str [99, 111, 115, 116]))), (.c (.t (.str [119, 101, 105, 103, 104, 116]))), (.c (.t (.int .i64 2)))]⟩,
    ⟨some 16, none, .build [.t (.str []), .nils, .t (.str []), .nils, .nils] [(0, 1, (.c (.t (.str [116, 101, 120, 116])))), (2, 2, (.s 14)), (4, 1, (.s 15))]⟩,
    ⟨some 4, none, .alloc [.t (.str []), .nils, .t (.str []), .nils, .nils]⟩,
    ⟨none, none, .st 5 (.s 4) (.s 16)⟩] [] [0, 2, 3, 4]) c64_3)
def c64_5 : ACode :=
  (.seq (.region false [⟨some 10, none, .bsl true 1 [[.int .i64 0]] [(0, (.c (.t (.int .i64 2))))]⟩,
    ⟨some 11, none, .build [.t (.str []), .nils] [(0, 1, (.c (.t (.str [80, 111, 115, 116])))), (1, 1, (.s 10))]⟩,
    ⟨some 12, none, .call 106 [(.c (.t (.str [108, 105, 115, 116, 83, 105, 122, 101]))), (.c (.t (.str [97, 115, 115, 117, 109, 101, 100]))), (.c (.t (.int .i64 10)))]⟩,
    ⟨some 13, none, .build [.t (.str []), .nils, .t (.str []), .nils, .nils] [(0, 1, (.c (.t (.str [112, 111, 115, 116, 115])))), (2, 2, (.s 11)), (4, 1, (.s 12))]⟩,
    ⟨some 3, none, .alloc [.t (.str []), .nils, .t (.str []), .nils, .nils]⟩,
    ⟨none, none, .st 5 (.s 3) (.s 13)⟩] [] [0, 2, 3]) c64_4)
def c64_6 : ACode :=
  (.seq (.region false [⟨some 8, none, .build [.t (.str []), .nils] [(0, 1, (.c (.t (.str [85, 115, 101, 114]))))]⟩,
    ⟨some 9, none, .build [.t (.str []), .nils, .t (.str []), .nils, .nils] [(0, 1, (.c (.t (.str [109, 101])))), (2, 2, (.s 8))]⟩,
    ⟨some 2, none, .alloc [.t (.str []), .nils, .t (.str []), .nils, .nils]⟩,
    ⟨none, none, .st 5 (.s 2) (.s 9)⟩] [] [0, 2]) c64_5)
def c64 : ACode :=
  (.seq (.region false [⟨some 0, none, .alloc [.nils]⟩,
    ⟨some 1, none, .cst (.nils)⟩] [] [0]) c64_6)
def r64 : List ARes := [.cell 0 true 1, .tmp 1]
def n64 : Nat := 43
/- 65 supergraph supergraphlaw40.object -/
def c65_0 : ACode :=
  (.seq (.region true [⟨some 7, none, .mv (.s 1)⟩,
    ⟨some 8, none, .bsl true 1 [[.str []], [.str []]] [(0, (.c (.t (.str [95, 95, 116])))), (1, (.s 7))]⟩,
    ⟨some 9, none, .mv (.s 0)⟩,
    ⟨some 10, none, .call 66 [(.s 9)]⟩,
    ⟨some 11, none, .ld true 5 (.s 5)⟩,
    ⟨some 12, none, .bsl true 5 [[.int .i64 0, .int .i64 0, .str [], .lst [], .lst []], [.int .i64 0, .int .i64 0, .str [], .lst [], .lst []]] [(0, (.s 10)), (1, (.s 11))]⟩,
    ⟨some 13, none, .build [.t (.int .i64 0), .t (.int .i64 0), .t (.str []), .nils, .nils] [(0, 1, (.c (.t (.int .i64 6)))), (4, 1, (.s 8)), (3, 1, (.s 12))]⟩,
    ⟨none, none, .st 5 (.s 6) (.s 13)⟩] [[], [0], [], [2], [], [3, 4], [1, 5], [6, 3, 0, 1, 2, 3, 4, 5, 6]] [6]) .ret)
def c65 : ACode :=
  (.seq (.region false [⟨some 5, none, .box 5 (.s 2)⟩,
    ⟨some 6, none, .alloc [.t (.int .i64 0), .t (.int .i64 0), .t (.str []), .nils, .nils]⟩] [] [0, 1, 5, 6]) c65_0)
def r65 : List ARes := [.cell 6 true 5]
def n65 : Nat := 14
/- 66 supergraph supergraphlaw40.text -/
def c66_0 : ACode :=
  (.seq (.region false [⟨some 3, none, .mv (.s 0)⟩,
    ⟨some 4, none, .build [.t (.int .i64 0), .t (.int .i64 0), .t (.str []), .nils, .nils] [(0, 1, (.c (.t (.int .i64 3)))), (2, 1, (.s 3))]⟩,
    ⟨none, none, .st 5 (.s 2) (.s 4)⟩] [] [2]) .ret)
def c66 : ACode :=
  (.seq (.region false [⟨some 2, none, .alloc [.t (.int .i64 0), .t (.int .i64 0), .t (.str []), .nils, .nils]⟩] [] [0, 2]) c66_0)
def r66 : List ARes := [.cell 2 true 5]
def n66 : Nat := 5
/- 67 supergraph cost.field -/
def c67_0 : ACode :=
  (.seq (.region false [⟨some 19, none, .ld true 7 (.s 8)⟩,
    ⟨some 20, none, .mv (.s 2)⟩,
    ⟨some 21, none, .call 50 [(.s 19), (.s 20)]⟩,
    ⟨some 22, none, .ext (.s 21) 0⟩,
    ⟨some 23, none, .ext (.s 21) 1⟩,
    ⟨none, none, .st 5 (.s 6) (.s 22)⟩,
    ⟨some 7, none, .mv (.s 23)⟩] [] [6, 7]) .ret)
def c67_1 : ACode :=
  (.seq (.region false [⟨some 18, none, .build [.t (.str []), .nils, .t (.str []), .nils, .nils] []⟩,
    ⟨none, none, .st 5 (.s 6) (.s 18)⟩,
    ⟨some 7, none, .cst (.t (.bool false))⟩] [] [6, 7]) .ret)
def c67_2 : ACode :=
  (.cond (.s 17) c67_1 .skip)
def c67_3 : ACode :=
  (.seq (.seq (.region false [⟨some 16, none, .mv (.s 9)⟩,
    ⟨some 17, none, .un .not (.s 16)⟩] [] [2, 6, 8, 17]) c67_2) c67_0)
def c67_4 : ACode :=
  (.seq (.region false [⟨some 11, none, .ld true 1 (.s 3)⟩,
    ⟨some 12, none, .mv (.s 1)⟩,
    ⟨some 13, none, .call 49 [(.s 11), (.s 12)]⟩,
    ⟨some 10, none, .mv (.s 13)⟩,
    ⟨some 14, none, .ext (.s 10) 0⟩,
    ⟨some 15, none, .ext (.s 10) 1⟩,
    ⟨some 8, none, .alloc [.t (.int .i64 0), .t (.str []), .nils, .nils, .nils, .nils, .nils]⟩,
    ⟨none, none, .st 7 (.s 8) (.s 14)⟩,
    ⟨some 9, none, .mv (.s 15)⟩] [] [2, 6, 8, 9]) c67_3)
def c67 : ACode :=
  (.seq (.region false [⟨some 3, none, .box 1 (.s 0)⟩,
    ⟨some 6, none, .alloc [.t (.str []), .nils, .t (.str []), .nils, .nils]⟩,
    ⟨some 7, none, .cst (.t (.bool false))⟩] [] [1, 2, 3, 6]) c67_4)
def r67 : List ARes := [.cell 6 true 5, .tmp 7]
def n67 : Nat := 24
/- 68 supergraph cost.number -/
def c68_0 : ACode :=
  (.seq (.region false [⟨some 29, none, .fa 1 (.s 8)⟩,
    ⟨some 30, none, .ld false 1 (.s 29)⟩,
    ⟨some 31, none, .mini (.s 30) (.c (.t (.int .i64 1099511627776)))⟩,
    ⟨some 6, none, .mv (.s 31)⟩,
    ⟨some 7, none, .cst (.t (.bool true))⟩] [] [6, 7]) .ret)
def c68_1 : ACode :=
  (.seq (.region false [⟨some 6, none, .cst (.t (.int .i64 0))⟩,
    ⟨some 7, none, .cst (.t (.bool false))⟩] [] [6, 7]) .ret)
def c68_2 : ACode :=
  (.cond (.s 28) c68_1 .skip)
def c68_3 : ACode :=
  (.seq (.seq (.region false [⟨some 17, none, .mv (.s 9)⟩,
    ⟨some 18, none, .un .not (.s 17)⟩,
    ⟨some 19, none, .mv (.s 18)⟩,
    ⟨some 20, some (19, false), .fa 0 (.s 8)⟩,
    ⟨some 21, some (19, false), .ld false 1 (.s 20)⟩,
    ⟨some 22, some (19, false), .bin .neq (.s 21) (.c (.t (.int .i64 2)))⟩,
    ⟨some 23, none, .pick (.s 19) (.c (.t (.bool true))) (.s 22)⟩,
    ⟨some 24, none, .mv (.s 23)⟩,
    ⟨some 25, some (24, false), .fa 1 (.s 8)⟩,
    ⟨some 26, some (24, false), .ld false 1 (.s 25)⟩,
    ⟨some 27, some (24, false), .bin .lss (.s 26) (.c (.t (.int .i64 0)))⟩,
    ⟨some 28, none, .pick (.s 24) (.c (.t (.bool true))) (.s 27)⟩] [] [8, 28]) c68_2) c68_0)
def c68_4 : ACode :=
  (.seq (.region false [⟨some 11, none, .mv (.s 0)⟩,
    ⟨some 12, none, .mv (.s 1)⟩,
    ⟨some 13, none, .mv (.s 2)⟩,
    ⟨some 14, none, .call 91 [(.s 11), (.s 12), (.s 13)]⟩,
    ⟨some 10, none, .mv (.s 14)⟩,
    ⟨some 15, none, .ext (.s 10) 0⟩,
    ⟨some 16, none, .ext (.s 10) 1⟩,
    ⟨some 8, none, .alloc [.t (.int .i64 0), .t (.int .i64 0), .t (.str []), .nils, .nils]⟩,
    ⟨none, none, .st 5 (.s 8) (.s 15)⟩,
    ⟨some 9, none, .mv (.s 16)⟩] [] [8, 9]) c68_3)
def c68 : ACode :=
  (.seq (.region false [⟨some 6, none, .cst (.t (.int .i64 0))⟩,
    ⟨some 7, none, .cst (.t (.bool false))⟩] [] [0, 1, 2]) c68_4)
def r68 : List ARes := [.tmp 6, .tmp 7]
def n68 : Nat := 32
/- 69 supergraph schema.Composite -/
def c69_0 : ACode :=
  (.seq (.region false [⟨some 9, none, .mv (.s 1)⟩,
    ⟨some 10, none, .call 108 [(.s 9)]⟩,
    ⟨some 11, none, .un .not (.s 10)⟩,
    ⟨some 12, none, .mv (.s 11)⟩,
    ⟨some 13, some (12, true), .mv (.s 5)⟩,
    ⟨some 14, some (12, true), .bin .eql (.s 13) (.c (.t (.int .i64 1)))⟩,
    ⟨some 15, some (12, true), .mv (.s 14)⟩,
    ⟨some 16, some (15, false), .mv (.s 5)⟩,
    ⟨some 17, some (15, false), .bin .eql (.s 16) (.c (.t (.int .i64 2)))⟩,
    ⟨some 18, some (12, true), .pick (.s 15) (.c (.t (.bool true))) (.s 17)⟩,
    ⟨some 19, some (12, true), .mv (.s 18)⟩,
    ⟨some 20, some (19, false), .mv (.s 5)⟩,
    ⟨some 21, some (19, false), .bin .eql (.s 20) (.c (.t (.int .i64 3)))⟩,
    ⟨some 22, some (12, true), .pick (.s 19) (.c (.t (.bool true))) (.s 21)⟩,
    ⟨some 23, none, .pick (.s 12) (.s 22) (.c (.t (.bool false)))⟩,
    ⟨some 4, none, .mv (.s 23)⟩] [] [4]) .ret)
def c69_1 : ACode :=
  (.seq (.region false [⟨some 6, none, .ld true 1 (.s 2)⟩,
    ⟨some 7, none, .mv (.s 1)⟩,
    ⟨some 8, none, .call 107 [(.s 6), (.s 7)]⟩,
    ⟨some 5, none, .mv (.s 8)⟩] [] [1, 5]) c69_0)
def c69 : ACode :=
  (.seq (.region false [⟨some 2, none, .box 1 (.s 0)⟩,
    ⟨some 4, none, .cst (.t (.bool false))⟩] [] [1, 2]) c69_1)
def r69 : List ARes := [.tmp 4]
def n69 : Nat := 24
/- 70 supergraph supergraphref40.field -/
def c70_0 : ACode :=
  (.seq (.region false [⟨some 16, none, .ld true 7 (.s 8)⟩,
    ⟨some 17, none, .mv (.s 2)⟩,
    ⟨some 18, none, .call 53 [(.s 16), (.s 17)]⟩,
    ⟨some 19, none, .ext (.s 18) 0⟩,
    ⟨some 20, none, .ext (.s 18) 1⟩,
    ⟨none, none, .st 5 (.s 6) (.s 19)⟩,
    ⟨some 7, none, .mv (.s 20)⟩] [] [6, 7]) .ret)
def c70_1 : ACode :=
  (.seq (.region false [⟨some 11, none, .ld true 1 (.s 3)⟩,
    ⟨some 12, none, .mv (.s 1)⟩,
    ⟨some 13, none, .call 52 [(.s 11), (.s 12)]⟩,
    ⟨some 10, none, .mv (.s 13)⟩,
    ⟨some 14, none, .ext (.s 10) 0⟩,
    ⟨some 15, none, .ext (.s 10) 1⟩,
    ⟨some 8, none, .alloc [.t (.int .i64 0), .t (.str []), .nils, .nils, .nils, .nils, .nils]⟩,
    ⟨none, none, .st 7 (.s 8) (.s 14)⟩,
    ⟨some 9, none, .mv (.s 15)⟩] [] [2, 6, 8]) c70_0)
def c70 : ACode :=
  (.seq (.region false [⟨some 3, none, .box 1 (.s 0)⟩,
    ⟨some 6, none, .alloc [.t (.str []), .nils, .t (.str []), .nils, .nils]⟩,
    ⟨some 7, none, .cst (.t (.bool false))⟩] [] [1, 2, 3, 6]) c70_1)
def r70 : List ARes := [.cell 6 true 5, .tmp 7]
def n70 : Nat := 21
/- 71 supergraph supergraphref40.number -/
def c71_0 : ACode :=
  (.seq (.region false [⟨some 29, none, .fa 1 (.s 8)⟩,
    ⟨some 30, none, .ld false 1 (.s 29)⟩,
    ⟨some 31, none, .call 77 [(.s 30), (.c (.t (.int .i64 1099511627776)))]⟩,
    ⟨some 6, none, .mv (.s 31)⟩,
    ⟨some 7, none, .cst (.t (.bool true))⟩] [] [6, 7]) .ret)
def c71_1 : ACode :=
  (.seq (.region false [⟨some 6, none, .cst (.t (.int .i64 0))⟩,
    ⟨some 7, none, .cst (.t (.bool false))⟩] [] [6, 7]) .ret)
def c71_2 : ACode :=
  (.cond (.s 28) c71_1 .skip)
def c71_3 : ACode :=
  (.seq (.seq (.region false [⟨some 17, none, .mv (.s 9)⟩,
    ⟨some 18, none, .un .not (.s 17)⟩,
    ⟨some 19, none, .mv (.s 18)⟩,
    ⟨some 20, some (19, false), .fa 0 (.s 8)⟩,
    ⟨some 21, some (19, false), .ld false 1 (.s 20)⟩,
    ⟨some 22, some (19, false), .bin .neq (.s 21) (.c (.t (.int .i64 2)))⟩,
    ⟨some 23, none, .pick (.s 19) (.c (.t (.bool true))) (.s 22)⟩,
    ⟨some 24, none, .mv (.s 23)⟩,
    ⟨some 25, some (24, false), .fa 1 (.s 8)⟩,
    ⟨some 26, some (24, false), .ld false 1 (.s 25)⟩,
    ⟨some 27, some (24, false), .bin .lss (.s 26) (.c (.t (.int .i64 0)))⟩,
    ⟨some 28, none, .pick (.s 24) (.c (.t (.bool true))) (.s 27)⟩] [] [8, 28]) c71_2) c71_0)
def c71_4 : ACode :=
  (.seq (.region false [⟨some 11, none, .mv (.s 0)⟩,
    ⟨some 12, none, .mv (.s 1)⟩,
    ⟨some 13, none, .mv (.s 2)⟩,
    ⟨some 14, none, .call 96 [(.s 11), (.s 12), (.s 13)]⟩,
    ⟨some 10, none, .mv (.s 14)⟩,
    ⟨some 15, none, .ext (.s 10) 0⟩,
    ⟨some 16, none, .ext (.s 10) 1⟩,
    ⟨some 8, none, .alloc [.t (.int .i64 0), .t (.int .i64 0), .t (.str []), .nils, .nils]⟩,
    ⟨none, none, .st 5 (.s 8) (.s 15)⟩,
    ⟨some 9, none, .mv (.s 16)⟩] [] [8, 9]) c71_3)
def c71 : ACode :=
  (.seq (.region false [⟨some 6, none, .cst (.t (.int .i64 0))⟩,
    ⟨some 7, none, .cst (.t (.bool false))⟩] [] [0, 1, 2]) c71_4)
def r71 : List ARes := [.tmp 6, .tmp 7]
def n71 : Nat := 32
/- 72 supergraph supergraphref10.Composite -/
def c72_0 : ACode :=
  (.seq (.region false [⟨some 13, none, .mv (.s 1)⟩,
    ⟨some 14, none, .call 109 [(.s 13)]⟩,
    ⟨some 15, none, .un .not (.s 14)⟩,
    ⟨some 16, none, .mv (.s 15)⟩,
    ⟨some 17, some (16, true), .mv (.s 6)⟩,
    ⟨some 18, none, .pick (.s 16) (.s 17) (.c (.t (.bool false)))⟩,
    ⟨some 19, none, .mv (.s 18)⟩,
    ⟨some 20, some (19, true), .fa 0 (.s 5)⟩,
    ⟨some 21, some (19, true), .ld false 1 (.s 20)⟩,
    ⟨some 22, some (19, true), .bin .eql (.s 21) (.c (.t (.int .i64 1)))⟩,
    ⟨some 23, some (19, true), .mv (.s 22)⟩,
    ⟨some 24, some (23, false), .fa 0 (.s 5)⟩,
    ⟨some 25, some (23, false), .ld false 1 (.s 24)⟩,
    ⟨some 26, some (23, false), .bin .eql (.s 25) (.c (.t (.int .i64 2)))⟩,
    ⟨some 27, some (19, true), .pick (.s 23) (.c (.t (.bool true))) (.s 26)⟩,
    ⟨some 28, some (19, true), .mv (.s 27)⟩,
    ⟨some 29, some (28, false), .fa 0 (.s 5)⟩,
    ⟨some 30, some (28, false), .ld false 1 (.s 29)⟩,
    ⟨some 31, some (28, false), .bin .eql (.s 30) (.c (.t (.int .i64 3)))⟩,
    ⟨some 32, some (19, true), .pick (.s 28) (.c (.t (.bool true))) (.s 31)⟩,
    ⟨some 33, none, .pick (.s 19) (.s 32) (.c (.t (.bool false)))⟩,
    ⟨some 4, none, .mv (.s 33)⟩] [] [4]) .ret)
def c72_1 : ACode :=
  (.seq (.region false [⟨some 8, none, .ld true 1 (.s 2)⟩,
    ⟨some 9, none, .mv (.s 1)⟩,
    ⟨some 10, none, .call 52 [(.s 8), (.s 9)]⟩,
    ⟨some 7, none, .mv (.s 10)⟩,
    ⟨some 11, none, .ext (.s 7) 0⟩,
    ⟨some 12, none, .ext (.s 7) 1⟩,
    ⟨some 5, none, .alloc [.t (.int .i64 0), .t (.str []), .nils, .nils, .nils, .nils, .nils]⟩,
    ⟨none, none, .st 7 (.s 5) (.s 11)⟩,
    ⟨some 6, none, .mv (.s 12)⟩] [] [1, 5, 6]) c72_0)
def c72 : ACode :=
  (.seq (.region false [⟨some 2, none, .box 1 (.s 0)⟩,
    ⟨some 4, none, .cst (.t (.bool false))⟩] [] [1, 2]) c72_1)
def r72 : List ARes := [.tmp 4]
def n72 : Nat := 34
/- 73 supergraph cost.levels -/
def c73_0 : ACode :=
  (.seq (.region false [⟨some 18, none, .mv (.s 3)⟩,
    ⟨some 2, none, .mv (.s 18)⟩] [] [2]) .ret)
def c73_1 : ACode :=
  (.region false [⟨some 17, none, .bin .add (.s 9) (.c (.t (.int .i64 1)))⟩,
    ⟨some 9, none, .mv (.s 17)⟩] [] [3, 7, 8, 9])
def c73_2 : ACode :=
  (.region false [⟨some 15, none, .mv (.s 3)⟩,
    ⟨some 16, none, .bin .add (.s 15) (.c (.t (.int .i64 1)))⟩,
    ⟨some 3, none, .mv (.s 16)⟩] [] [3, 7, 8, 9])
def c73_3 : ACode :=
  (.cond (.s 14) c73_2 .skip)
def c73_4 : ACode :=
  (.seq (.region false [⟨some 13, none, .mv (.s 5)⟩,
    ⟨some 14, none, .bin .eql (.s 13) (.c (.t (.int .i64 2)))⟩] [] [3, 7, 8, 9, 14]) c73_3)
def c73_5 : ACode :=
  (.seq (.region false [⟨some 11, none, .ia 1 (.s 7) (.s 9)⟩,
    ⟨some 12, none, .ld false 1 (.s 11)⟩,
    ⟨some 5, none, .mv (.s 12)⟩] [] [3, 5, 7, 8, 9]) c73_4)
def c73_6 : ACode :=
  (.seq (.block 1 c73_5) c73_1)
def c73_7 : ACode :=
  (.seq (.cond (.s 10) .skip (.exit 0)) c73_6)
def c73_8 : ACode :=
  (.seq (.region false [⟨some 10, none, .bin .lss (.s 9) (.s 8)⟩] [] [3, 7, 8, 9, 10]) c73_7)
def c73_9 : ACode :=
  (.loop c73_8)
def c73_10 : ACode :=
  (.block 0 c73_9)
def c73_11 : ACode :=
  (.seq (.seq (.region false [⟨some 6, none, .fa 1 (.s 1)⟩,
    ⟨some 7, none, .ld false 1 (.s 6)⟩,
    ⟨some 8, none, .len (.s 7)⟩,
    ⟨some 9, none, .cst (.t (.int .i64 0))⟩] [] [3, 7, 8, 9]) c73_10) c73_0)
def c73_12 : ACode :=
  (.seq (.region false [⟨some 3, none, .cst (.t (.int .i64 0))⟩] [] [1, 3]) c73_11)
def c73 : ACode :=
  (.seq (.region false [⟨some 1, none, .box 2 (.s 0)⟩,
    ⟨some 2, none, .cst (.t (.int .i64 0))⟩] [] [1]) c73_12)
def r73 : List ARes := [.tmp 2]
def n73 : Nat := 19
/- 74 slices.IndexFunc[[]supergraph api.Arg,supergraph api.Arg] -/
def c74_0 : ACode :=
  (.seq (.region false [⟨some 4, none, .cst (.t (.int .i64 (-1)))⟩] [] [4]) .ret)
def c74_1 : ACode :=
  (.region false [⟨some 18, none, .bin .add (.s 8) (.c (.t (.int .i64 1)))⟩,
    ⟨some 8, none, .mv (.s 18)⟩] [] [0, 1, 7, 8])
def c74_2 : ACode :=
  (.seq (.region false [⟨some 17, none, .mv (.s 5)⟩,
    ⟨some 4, none, .mv (.s 17)⟩] [] [4]) .ret)
def c74_3 : ACode :=
  (.cond (.s 16) c74_2 .skip)
def c74_4 : ACode :=
  (.seq (.region false [⟨some 11, none, .mv (.s 1)⟩,
    ⟨some 12, none, .mv (.s 0)⟩,
    ⟨some 13, none, .mv (.s 5)⟩,
    ⟨some 14, none, .ia 6 (.s 12) (.s 13)⟩,
    ⟨some 15, none, .ld true 6 (.s 14)⟩,
    ⟨some 16, none, .callv (.s 11) [(.s 15)]⟩] [] [0, 1, 5, 7, 8, 16]) c74_3)
def c74_5 : ACode :=
  (.seq (.region false [⟨some 10, none, .mv (.s 8)⟩,
    ⟨some 5, none, .mv (.s 10)⟩] [] [0, 1, 5, 7, 8]) c74_4)
def c74_6 : ACode :=
  (.seq (.block 1 c74_5) c74_1)
def c74_7 : ACode :=
  (.seq (.cond (.s 9) .skip (.exit 0)) c74_6)
def c74_8 : ACode :=
  (.seq (.region false [⟨some 9, none, .bin .lss (.s 8) (.s 7)⟩] [] [0, 1, 7, 8, 9]) c74_7)
def c74_9 : ACode :=
  (.loop c74_8)
def c74_10 : ACode :=
  (.block 0 c74_9)
def c74_11 : ACode :=
  (.seq (.seq (.region false [⟨some 6, none, .mv (.s 0)⟩,
    ⟨some 7, none, .len (.s 6)⟩,
    ⟨some 8, none, .cst (.t (.int .i64 0))⟩] [] [0, 1, 7, 8]) c74_10) c74_0)
def c74 : ACode :=
  (.seq (.region false [⟨some 4, none, .cst (.t (.int .i64 0))⟩] [] [0, 1]) c74_11)
def r74 : List ARes := [.tmp 4]
def n74 : Nat := 19
/- 75 supergraph cost.Length 1 -/
def c75_0 : ACode :=
  (.seq (.region false [⟨some 3, none, .fa 0 (.s 1)⟩,
    ⟨some 4, none, .ld false 1 (.s 3)⟩,
    ⟨some 5, none, .bin .eql (.s 4) (.c (.t (.str [102, 105, 114, 115, 116])))⟩,
    ⟨some 2, none, .mv (.s 5)⟩] [] [2]) .ret)
def c75 : ACode :=
  (.seq (.region false [⟨some 1, none, .box 6 (.s 0)⟩,
    ⟨some 2, none, .cst (.t (.bool false))⟩] [] [1]) c75_0)
def r75 : List ARes := [.tmp 2]
def n75 : Nat := 6
/- 76 supergraph supergraphref40.levels -/
def c76_0 : ACode :=
  (.seq (.region false [⟨some 20, none, .mv (.s 3)⟩,
    ⟨some 2, none, .mv (.s 20)⟩] [] [2]) .ret)
def c76_1 : ACode :=
  (.region false [⟨some 10, none, .mv (.s 4)⟩,
    ⟨some 11, none, .bin .add (.s 10) (.c (.t (.int .i64 1)))⟩,
    ⟨some 4, none, .mv (.s 11)⟩] [] [1, 3, 4])
def c76_2 : ACode :=
  (.region false [⟨some 18, none, .mv (.s 3)⟩,
    ⟨some 19, none, .bin .add (.s 18) (.c (.t (.int .i64 1)))⟩,
    ⟨some 3, none, .mv (.s 19)⟩] [] [1, 3, 4])
def c76_3 : ACode :=
  (.cond (.s 17) c76_2 .skip)
def c76_4 : ACode :=
  (.seq (.region false [⟨some 12, none, .fa 1 (.s 1)⟩,
    ⟨some 13, none, .ld false 1 (.s 12)⟩,
    ⟨some 14, none, .mv (.s 4)⟩,
    ⟨some 15, none, .ia 1 (.s 13) (.s 14)⟩,
    ⟨some 16, none, .ld false 1 (.s 15)⟩,
    ⟨some 17, none, .bin .eql (.s 16) (.c (.t (.int .i64 2)))⟩] [] [1, 3, 4, 17]) c76_3)
def c76_5 : ACode :=
  (.seq (.block 1 c76_4) c76_1)
def c76_6 : ACode :=
  (.cond (.s 9) .skip (.exit 0))
def c76_7 : ACode :=
  (.seq (.seq (.region false [⟨some 5, none, .mv (.s 4)⟩,
    ⟨some 6, none, .fa 1 (.s 1)⟩,
    ⟨some 7, none, .ld false 1 (.s 6)⟩,
    ⟨some 8, none, .len (.s 7)⟩,
    ⟨some 9, none, .bin .lss (.s 5) (.s 8)⟩] [] [1, 3, 4, 9]) c76_6) c76_5)
def c76_8 : ACode :=
  (.loop c76_7)
def c76_9 : ACode :=
  (.block 0 c76_8)
def c76_10 : ACode :=
  (.seq (.seq (.region false [⟨some 4, none, .cst (.t (.int .i64 0))⟩] [] [1, 3, 4]) c76_9) c76_0)
def c76_11 : ACode :=
  (.seq (.region false [⟨some 3, none, .cst (.t (.int .i64 0))⟩] [] [1, 3]) c76_10)
def c76 : ACode :=
  (.seq (.region false [⟨some 1, none, .box 2 (.s 0)⟩,
    ⟨some 2, none, .cst (.t (.int .i64 0))⟩] [] [1]) c76_11)
def r76 : List ARes := [.tmp 2]
def n76 : Nat := 21
/- 77 supergraph supergraphref40.least -/
def c77_0 : ACode :=
  (.seq (.region false [⟨some 9, none, .mv (.s 1)⟩,
    ⟨some 4, none, .mv (.s 9)⟩] [] [4]) .ret)
def c77_1 : ACode :=
  (.seq (.region false [⟨some 8, none, .mv (.s 0)⟩,
    ⟨some 4, none, .mv (.s 8)⟩] [] [4]) .ret)
def c77_2 : ACode :=
  (.cond (.s 7) c77_1 .skip)
def c77_3 : ACode :=
  (.seq (.seq (.region false [⟨some 5, none, .mv (.s 0)⟩,
    ⟨some 6, none, .mv (.s 1)⟩,
    ⟨some 7, none, .bin .lss (.s 5) (.s 6)⟩] [] [0, 1, 7]) c77_2) c77_0)
def c77 : ACode :=
  (.seq (.region false [⟨some 4, none, .cst (.t (.int .i64 0))⟩] [] [0, 1]) c77_3)
def r77 : List ARes := [.tmp 4]
def n77 : Nat := 10
/- 78 supergraph cost.greatest -/
def c78_0 : ACode :=
  (.seq (.region false [⟨some 35, none, .mv (.s 6)⟩,
    ⟨some 4, none, .mv (.s 35)⟩] [] [4]) .ret)
def c78_1 : ACode :=
  (.region false [⟨some 34, none, .bin .add (.s 12) (.c (.t (.int .i64 1)))⟩,
    ⟨some 12, none, .mv (.s 34)⟩] [] [2, 5, 6, 10, 11, 12])
def c78_2 : ACode :=
  (.region false [⟨some 28, none, .mv (.s 6)⟩,
    ⟨some 29, none, .mv (.s 5)⟩,
    ⟨some 30, none, .fa 1 (.s 8)⟩,
    ⟨some 31, none, .ld false 1 (.s 30)⟩,
    ⟨some 32, none, .nw (.lookup [.str] false (.t (.int .i64 0)) false (.s 29) (.s 31))⟩,
    ⟨some 33, none, .maxi (.s 28) (.s 32)⟩,
    ⟨some 6, none, .mv (.s 33)⟩] [] [2, 5, 6, 10, 11, 12])
def c78_3 : ACode :=
  (.seq (.region true [⟨some 16, none, .mv (.s 5)⟩,
    ⟨some 17, none, .fa 1 (.s 8)⟩,
    ⟨some 18, none, .ld false 1 (.s 17)⟩,
    ⟨some 19, none, .mv (.s 5)⟩,
    ⟨some 20, none, .fa 1 (.s 8)⟩,
    ⟨some 21, none, .ld false 1 (.s 20)⟩,
    ⟨some 22, none, .nw (.lookup [.str] false (.t (.int .i64 0)) false (.s 19) (.s 21))⟩,
    ⟨some 23, none, .ld true 1 (.s 2)⟩,
    ⟨some 24, none, .ld true 9 (.s 8)⟩,
    ⟨some 25, none, .call 111 [(.s 23), (.s 24)]⟩,
    ⟨some 26, none, .bsl true 1 [[.int .i64 0], [.int .i64 0]] [(0, (.s 22)), (1, (.s 25))]⟩,
    ⟨some 27, none, .call 110 [(.s 26)]⟩,
    ⟨none, none, .nw (.mupd [.str] false (.s 16) (.s 18) (.s 27))⟩] [[], [], [1], [], [], [4], [3, 5], [], [], [7, 8], [6, 9], [10, 9], [0, 2, 11, 11, 0, 1, 2, 3, 4, 5, 6, 7, 8, 9, 10, 11]] [2, 5, 6, 8, 10, 11, 12]) c78_2)
def c78_4 : ACode :=
  (.seq (.region false [⟨some 14, none, .ia 9 (.s 10) (.s 12)⟩,
    ⟨some 15, none, .ld true 9 (.s 14)⟩,
    ⟨some 8, none, .alloc [.t (.str []), .t (.str []), .t (.str []), .nils, .t (.str []), .nils, .t (.str []), .t (.int .i64 0), .nils]⟩,
    ⟨none, none, .st 9 (.s 8) (.s 15)⟩] [] [2, 5, 6, 8, 10, 11, 12]) c78_3)
def c78_5 : ACode :=
  (.seq (.block 1 c78_4) c78_1)
def c78_6 : ACode :=
  (.seq (.cond (.s 13) .skip (.exit 0)) c78_5)
def c78_7 : ACode :=
  (.seq (.region false [⟨some 13, none, .bin .lss (.s 12) (.s 11)⟩] [] [2, 5, 6, 10, 11, 12, 13]) c78_6)
def c78_8 : ACode :=
  (.loop c78_7)
def c78_9 : ACode :=
  (.block 0 c78_8)
def c78_10 : ACode :=
  (.seq (.seq (.region false [⟨some 10, none, .mv (.s 1)⟩,
    ⟨some 11, none, .len (.s 10)⟩,
    ⟨some 12, none, .cst (.t (.int .i64 0))⟩] [] [2, 5, 6, 10, 11, 12]) c78_9) c78_0)
def c78_11 : ACode :=
  (.seq (.region false [⟨some 6, none, .cst (.t (.int .i64 0))⟩] [] [1, 2, 5, 6]) c78_10)
def c78_12 : ACode :=
  (.seq (.region false [⟨some 9, none, .mkmap false false⟩,
    ⟨some 5, none, .mv (.s 9)⟩] [] [1, 2, 5]) c78_11)
def c78 : ACode :=
  (.seq (.region false [⟨some 2, none, .box 1 (.s 0)⟩,
    ⟨some 4, none, .cst (.t (.int .i64 0))⟩] [] [1, 2]) c78_12)
def r78 : List ARes := [.tmp 4]
def n78 : Nat := 36
/- 79 supergraph supergraphref40.sum -/
def c79_0 : ACode :=
  (.seq (.region false [⟨some 61, none, .mv (.s 8)⟩,
    ⟨some 4, none, .mv (.s 61)⟩] [] [4]) .ret)
def c79_1 : ACode :=
  (.region false [⟨some 32, none, .mv (.s 9)⟩,
    ⟨some 33, none, .bin .add (.s 32) (.c (.t (.int .i64 1)))⟩,
    ⟨some 9, none, .mv (.s 33)⟩] [] [1, 5, 8, 9])
def c79_2 : ACode :=
  (.region false [⟨some 60, none, .mv (.s 10)⟩,
    ⟨some 8, none, .mv (.s 60)⟩] [] [1, 5, 8, 9])
def c79_3 : ACode :=
  (.cond (.s 59) c79_2 .skip)
def c79_4 : ACode :=
  (.seq (.region false [⟨some 57, none, .mv (.s 10)⟩,
    ⟨some 58, none, .mv (.s 8)⟩,
    ⟨some 59, none, .bin .gtr (.s 57) (.s 58)⟩] [] [1, 5, 8, 9, 10, 59]) c79_3)
def c79_5 : ACode :=
  (.region false [⟨some 38, none, .mv (.s 11)⟩,
    ⟨some 39, none, .bin .add (.s 38) (.c (.t (.int .i64 1)))⟩,
    ⟨some 11, none, .mv (.s 39)⟩] [] [1, 5, 8, 9, 10, 11])
def c79_6 : ACode :=
  (.region false [⟨some 51, none, .mv (.s 10)⟩,
    ⟨some 52, none, .mv (.s 5)⟩,
    ⟨some 53, none, .mv (.s 11)⟩,
    ⟨some 54, none, .ia 1 (.s 52) (.s 53)⟩,
    ⟨some 55, none, .ld false 1 (.s 54)⟩,
    ⟨some 56, none, .call 113 [(.s 51), (.s 55)]⟩,
    ⟨some 10, none, .mv (.s 56)⟩] [] [1, 5, 8, 9, 10, 11])
def c79_7 : ACode :=
  (.cond (.s 50) c79_6 .skip)
def c79_8 : ACode :=
  (.seq (.region true [⟨some 40, none, .mv (.s 1)⟩,
    ⟨some 41, none, .mv (.s 11)⟩,
    ⟨some 42, none, .ia 9 (.s 40) (.s 41)⟩,
    ⟨some 43, none, .fa 1 (.s 42)⟩,
    ⟨some 44, none, .ld false 1 (.s 43)⟩,
    ⟨some 45, none, .mv (.s 1)⟩,
    ⟨some 46, none, .mv (.s 9)⟩,
    ⟨some 47, none, .ia 9 (.s 45) (.s 46)⟩,
    ⟨some 48, none, .fa 1 (.s 47)⟩,
    ⟨some 49, none, .ld false 1 (.s 48)⟩,
    ⟨some 50, none, .bin .eql (.s 44) (.s 49)⟩] [[], [], [0, 1], [2], [3], [], [], [5, 6], [7], [8], [4, 9]] [1, 5, 8, 9, 10, 11, 50]) c79_7)
def c79_9 : ACode :=
  (.seq (.block 5 c79_8) c79_5)
def c79_10 : ACode :=
  (.cond (.s 37) .skip (.exit 4))
def c79_11 : ACode :=
  (.seq (.seq (.region false [⟨some 34, none, .mv (.s 11)⟩,
    ⟨some 35, none, .mv (.s 1)⟩,
    ⟨some 36, none, .len (.s 35)⟩,
    ⟨some 37, none, .bin .lss (.s 34) (.s 36)⟩] [] [1, 5, 8, 9, 10, 11, 37]) c79_10) c79_9)
def c79_12 : ACode :=
  (.loop c79_11)
def c79_13 : ACode :=
  (.block 4 c79_12)
def c79_14 : ACode :=
  (.seq (.seq (.region false [⟨some 11, none, .cst (.t (.int .i64 0))⟩] [] [1, 5, 8, 9, 10, 11]) c79_13) c79_4)
def c79_15 : ACode :=
  (.seq (.region false [⟨some 10, none, .cst (.t (.int .i64 0))⟩] [] [1, 5, 8, 9, 10]) c79_14)
def c79_16 : ACode :=
  (.seq (.block 3 c79_15) c79_1)
def c79_17 : ACode :=
  (.cond (.s 31) .skip (.exit 2))
def c79_18 : ACode :=
  (.seq (.seq (.region false [⟨some 28, none, .mv (.s 9)⟩,
    ⟨some 29, none, .mv (.s 1)⟩,
    ⟨some 30, none, .len (.s 29)⟩,
    ⟨some 31, none, .bin .lss (.s 28) (.s 30)⟩] [] [1, 5, 8, 9, 31]) c79_17) c79_16)
def c79_19 : ACode :=
  (.loop c79_18)
def c79_20 : ACode :=
  (.block 2 c79_19)
def c79_21 : ACode :=
  (.seq (.seq (.region false [⟨some 9, none, .cst (.t (.int .i64 0))⟩] [] [1, 5, 8, 9]) c79_20) c79_0)
def c79_22 : ACode :=
  (.seq (.region false [⟨some 8, none, .cst (.t (.int .i64 0))⟩] [] [1, 5, 8]) c79_21)
def c79_23 : ACode :=
  (.region false [⟨some 16, none, .mv (.s 6)⟩,
    ⟨some 17, none, .bin .add (.s 16) (.c (.t (.int .i64 1)))⟩,
    ⟨some 6, none, .mv (.s 17)⟩] [] [1, 2, 5, 6])
def c79_24 : ACode :=
  (.region false [⟨some 24, none, .mv (.s 5)⟩,
    ⟨some 25, none, .mv (.s 7)⟩,
    ⟨some 26, none, .bsl false 1 [[.int .i64 0]] [(0, (.s 25))]⟩,
    ⟨some 27, none, .app 1 8 (.s 24) (.s 26)⟩,
    ⟨some 5, none, .mv (.s 27)⟩] [] [1, 2, 5, 6])
def c79_25 : ACode :=
  (.seq (.region true [⟨some 18, none, .ld true 1 (.s 2)⟩,
    ⟨some 19, none, .mv (.s 1)⟩,
    ⟨some 20, none, .mv (.s 6)⟩,
    ⟨some 21, none, .ia 9 (.s 19) (.s 20)⟩,
    ⟨some 22, none, .ld true 9 (.s 21)⟩,
    ⟨some 23, none, .call 112 [(.s 18), (.s 22)]⟩,
    ⟨some 7, none, .mv (.s 23)⟩] [[], [], [], [1, 2], [3], [0, 4], [5, 5, 0, 1, 2, 3, 4, 5]] [1, 2, 5, 6, 7]) c79_24)
def c79_26 : ACode :=
  (.seq (.block 1 c79_25) c79_23)
def c79_27 : ACode :=
  (.cond (.s 15) .skip (.exit 0))
def c79_28 : ACode :=
  (.seq (.seq (.region false [⟨some 12, none, .mv (.s 6)⟩,
    ⟨some 13, none, .mv (.s 1)⟩,
    ⟨some 14, none, .len (.s 13)⟩,
    ⟨some 15, none, .bin .lss (.s 12) (.s 14)⟩] [] [1, 2, 5, 6, 15]) c79_27) c79_26)
def c79_29 : ACode :=
  (.loop c79_28)
def c79_30 : ACode :=
  (.block 0 c79_29)
def c79_31 : ACode :=
  (.seq (.seq (.region false [⟨some 6, none, .cst (.t (.int .i64 0))⟩] [] [1, 2, 5, 6]) c79_30) c79_22)
def c79_32 : ACode :=
  (.seq (.region false [⟨some 5, none, .cst (.nils)⟩] [] [1, 2, 5]) c79_31)
def c79 : ACode :=
  (.seq (.region false [⟨some 2, none, .box 1 (.s 0)⟩,
    ⟨some 4, none, .cst (.t (.int .i64 0))⟩] [] [1, 2]) c79_32)
def r79 : List ARes := [.tmp 4]
def n79 : Nat := 62
/- 80 supergraph cost.typeOf -/
def c80_0 : ACode :=
  (.seq (.region true [⟨some 11, none, .fa 2 (.s 4)⟩,
    ⟨some 12, none, .ld false 1 (.s 11)⟩,
    ⟨some 13, none, .mv (.s 5)⟩,
    ⟨some 14, none, .mv (.s 13)⟩,
    ⟨some 15, some (14, true), .fa 0 (.s 4)⟩,
    ⟨some 16, some (14, true), .ld false 1 (.s 15)⟩,
    ⟨some 17, some (14, true), .bin .eql (.s 16) (.c (.t (.int .i64 3)))⟩,
    ⟨some 18, none, .pick (.s 14) (.s 17) (.c (.t (.bool false)))⟩,
    ⟨some 2, none, .mv (.s 12)⟩,
    ⟨some 3, none, .mv (.s 18)⟩] [[], [0], [], [2], [3], [4, 3], [5, 3], [3, 6], [1, 3, 0, 1], [7, 8, 0, 1, 2, 3, 4, 5, 6, 7, 8]] [2, 3]) .ret)
def c80_1 : ACode :=
  (.seq (.region false [⟨some 7, none, .ld true 5 (.s 1)⟩,
    ⟨some 8, none, .call 84 [(.s 7), (.c (.t (.str [95, 95, 116])))]⟩,
    ⟨some 6, none, .mv (.s 8)⟩,
    ⟨some 9, none, .ext (.s 6) 0⟩,
    ⟨some 10, none, .ext (.s 6) 1⟩,
    ⟨some 4, none, .alloc [.t (.int .i64 0), .t (.int .i64 0), .t (.str []), .nils, .nils]⟩,
    ⟨none, none, .st 5 (.s 4) (.s 9)⟩,
    ⟨some 5, none, .mv (.s 10)⟩] [] [4, 5]) c80_0)
def c80 : ACode :=
  (.seq (.region false [⟨some 1, none, .box 5 (.s 0)⟩,
    ⟨some 2, none, .cst (.t (.str []))⟩,
    ⟨some 3, none, .cst (.t (.bool false))⟩] [] [1]) c80_1)
def r80 : List ARes := [.tmp 2, .tmp 3]
def n80 : Nat := 19
/- 81 supergraph cost.actual -/
def c81_0 : ACode :=
  (.seq (.region false [⟨some 76, none, .mv (.s 7)⟩,
    ⟨some 6, none, .mv (.s 76)⟩] [] [6]) .ret)
def c81_1 : ACode :=
  (.region false [⟨some 75, none, .bin .add (.s 42) (.c (.t (.int .i64 1)))⟩,
    ⟨some 42, none, .mv (.s 75)⟩] [] [3, 5, 7, 10, 11, 40, 41, 42])
def c81_2 : ACode :=
  (.region true [⟨some 61, none, .mv (.s 7)⟩,
    ⟨some 62, none, .ld true 1 (.s 3)⟩,
    ⟨some 63, none, .fa 1 (.s 13)⟩,
    ⟨some 64, none, .ld false 1 (.s 63)⟩,
    ⟨some 65, none, .fa 2 (.s 13)⟩,
    ⟨some 66, none, .ld false 1 (.s 65)⟩,
    ⟨some 67, none, .call 34 [(.s 62), (.s 64), (.s 66)]⟩,
    ⟨some 68, none, .ld true 1 (.s 3)⟩,
    ⟨some 69, none, .fa 8 (.s 13)⟩,
    ⟨some 70, none, .ld false 1 (.s 69)⟩,
    ⟨some 71, none, .ld true 5 (.s 14)⟩,
    ⟨some 72, none, .call 81 [(.s 68), (.s 70), (.s 71)]⟩,
    ⟨some 73, none, .bsl true 1 [[.int .i64 0], [.int .i64 0], [.int .i64 0]] [(0, (.s 61)), (1, (.s 67)), (2, (.s 72))]⟩,
    ⟨some 74, none, .call 110 [(.s 73)]⟩,
    ⟨some 7, none, .mv (.s 74)⟩] [[], [], [], [2], [], [4], [1, 3, 5], [], [], [8], [], [7, 9, 10, 6], [0, 6, 11], [12, 11], [13, 13, 0, 1, 2, 3, 4, 5, 6, 7, 8, 9, 10, 11, 12, 13]] [3, 5, 7, 10, 11, 40, 41, 42])
def c81_3 : ACode :=
  (.seq (.region false [⟨some 55, none, .ld true 5 (.s 5)⟩,
    ⟨some 56, none, .fa 0 (.s 13)⟩,
    ⟨some 57, none, .ld false 1 (.s 56)⟩,
    ⟨some 58, none, .call 84 [(.s 55), (.s 57)]⟩,
    ⟨some 54, none, .mv (.s 58)⟩,
    ⟨some 59, none, .ext (.s 54) 0⟩,
    ⟨some 60, none, .ext (.s 54) 1⟩,
    ⟨some 14, none, .alloc [.t (.int .i64 0), .t (.int .i64 0), .t (.str []), .nils, .nils]⟩,
    ⟨none, none, .st 5 (.s 14) (.s 59)⟩,
    ⟨some 15, none, .mv (.s 60)⟩] [] [3, 5, 7, 10, 11, 13, 14, 40, 41, 42]) c81_2)
def c81_4 : ACode :=
  (.cond (.s 53) (.exit 3) .skip)
def c81_5 : ACode :=
  (.seq (.seq (.region false [⟨some 46, none, .mv (.s 11)⟩,
    ⟨some 47, none, .un .not (.s 46)⟩,
    ⟨some 48, none, .mv (.s 47)⟩,
    ⟨some 49, some (48, false), .fa 1 (.s 13)⟩,
    ⟨some 50, some (48, false), .ld false 1 (.s 49)⟩,
    ⟨some 51, some (48, false), .mv (.s 10)⟩,
    ⟨some 52, some (48, false), .bin .neq (.s 50) (.s 51)⟩,
    ⟨some 53, none, .pick (.s 48) (.c (.t (.bool true))) (.s 52)⟩] [] [3, 5, 7, 10, 11, 13, 40, 41, 42, 53]) c81_4) c81_3)
def c81_6 : ACode :=
  (.seq (.region false [⟨some 44, none, .ia 9 (.s 40) (.s 42)⟩,
    ⟨some 45, none, .ld true 9 (.s 44)⟩,
    ⟨some 13, none, .alloc [.t (.str []), .t (.str []), .t (.str []), .nils, .t (.str []), .nils, .t (.str []), .t (.int .i64 0), .nils]⟩,
    ⟨none, none, .st 9 (.s 13) (.s 45)⟩] [] [3, 5, 7, 10, 11, 13, 40, 41, 42]) c81_5)
def c81_7 : ACode :=
  (.seq (.block 3 c81_6) c81_1)
def c81_8 : ACode :=
  (.seq (.cond (.s 43) .skip (.exit 2)) c81_7)
def c81_9 : ACode :=
  (.seq (.region false [⟨some 43, none, .bin .lss (.s 42) (.s 41)⟩] [] [3, 5, 7, 10, 11, 40, 41, 42, 43]) c81_8)
def c81_10 : ACode :=
  (.loop c81_9)
def c81_11 : ACode :=
  (.block 2 c81_10)
def c81_12 : ACode :=
  (.seq (.seq (.region false [⟨some 40, none, .mv (.s 1)⟩,
    ⟨some 41, none, .len (.s 40)⟩,
    ⟨some 42, none, .cst (.t (.int .i64 0))⟩] [] [3, 5, 7, 10, 11, 40, 41, 42]) c81_11) c81_0)
def c81_13 : ACode :=
  (.seq (.region false [⟨some 36, none, .ld true 5 (.s 5)⟩,
    ⟨some 37, none, .call 80 [(.s 36)]⟩,
    ⟨some 35, none, .mv (.s 37)⟩,
    ⟨some 38, none, .ext (.s 35) 0⟩,
    ⟨some 39, none, .ext (.s 35) 1⟩,
    ⟨some 10, none, .mv (.s 38)⟩,
    ⟨some 11, none, .mv (.s 39)⟩] [] [1, 3, 5, 7, 10, 11]) c81_12)
def c81_14 : ACode :=
  (.seq (.region false [⟨some 34, none, .mv (.s 7)⟩,
    ⟨some 6, none, .mv (.s 34)⟩] [] [6]) .ret)
def c81_15 : ACode :=
  (.region false [⟨some 33, none, .bin .add (.s 22) (.c (.t (.int .i64 1)))⟩,
    ⟨some 22, none, .mv (.s 33)⟩] [] [1, 3, 7, 20, 21, 22])
def c81_16 : ACode :=
  (.region false [⟨some 26, none, .mv (.s 7)⟩,
    ⟨some 27, none, .ld true 1 (.s 3)⟩,
    ⟨some 28, none, .mv (.s 1)⟩,
    ⟨some 29, none, .ld true 5 (.s 9)⟩,
    ⟨some 30, none, .call 81 [(.s 27), (.s 28), (.s 29)]⟩,
    ⟨some 31, none, .bsl true 1 [[.int .i64 0], [.int .i64 0]] [(0, (.s 26)), (1, (.s 30))]⟩,
    ⟨some 32, none, .call 110 [(.s 31)]⟩,
    ⟨some 7, none, .mv (.s 32)⟩] [] [1, 3, 7, 20, 21, 22])
def c81_17 : ACode :=
  (.seq (.region false [⟨some 24, none, .ia 5 (.s 20) (.s 22)⟩,
    ⟨some 25, none, .ld true 5 (.s 24)⟩,
    ⟨some 9, none, .alloc [.t (.int .i64 0), .t (.int .i64 0), .t (.str []), .nils, .nils]⟩,
    ⟨none, none, .st 5 (.s 9) (.s 25)⟩] [] [1, 3, 7, 9, 20, 21, 22]) c81_16)
def c81_18 : ACode :=
  (.seq (.block 1 c81_17) c81_15)
def c81_19 : ACode :=
  (.seq (.cond (.s 23) .skip (.exit 0)) c81_18)
def c81_20 : ACode :=
  (.seq (.region false [⟨some 23, none, .bin .lss (.s 22) (.s 21)⟩] [] [1, 3, 7, 20, 21, 22, 23]) c81_19)
def c81_21 : ACode :=
  (.loop c81_20)
def c81_22 : ACode :=
  (.block 0 c81_21)
def c81_23 : ACode :=
  (.seq (.seq (.region false [⟨some 19, none, .fa 3 (.s 5)⟩,
    ⟨some 20, none, .ld false 1 (.s 19)⟩,
    ⟨some 21, none, .len (.s 20)⟩,
    ⟨some 22, none, .cst (.t (.int .i64 0))⟩] [] [1, 3, 7, 20, 21, 22]) c81_22) c81_14)
def c81_24 : ACode :=
  (.cond (.s 18) c81_23 .skip)
def c81_25 : ACode :=
  (.seq (.seq (.region false [⟨some 16, none, .fa 0 (.s 5)⟩,
    ⟨some 17, none, .ld false 1 (.s 16)⟩,
    ⟨some 18, none, .bin .eql (.s 17) (.c (.t (.int .i64 5)))⟩] [] [1, 3, 5, 7, 18]) c81_24) c81_13)
def c81_26 : ACode :=
  (.seq (.region false [⟨some 7, none, .cst (.t (.int .i64 0))⟩] [] [1, 3, 5, 7]) c81_25)
def c81 : ACode :=
  (.seq (.region false [⟨some 3, none, .box 1 (.s 0)⟩,
    ⟨some 5, none, .box 5 (.s 2)⟩,
    ⟨some 6, none, .cst (.t (.int .i64 0))⟩] [] [1, 3, 5]) c81_26)
def r81 : List ARes := [.tmp 6]
def n81 : Nat := 77
/- 82 supergraph supergraphref40.typed -/
def c82_0 : ACode :=
  (.seq (.region true [⟨some 11, none, .fa 2 (.s 4)⟩,
    ⟨some 12, none, .ld false 1 (.s 11)⟩,
    ⟨some 13, none, .mv (.s 5)⟩,
    ⟨some 14, none, .mv (.s 13)⟩,
    ⟨some 15, some (14, true), .fa 0 (.s 4)⟩,
    ⟨some 16, some (14, true), .ld false 1 (.s 15)⟩,
    ⟨some 17, some (14, true), .bin .eql (.s 16) (.c (.t (.int .i64 3)))⟩,
    ⟨some 18, none, .pick (.s 14) (.s 17) (.c (.t (.bool false)))⟩,
    ⟨some 2, none, .mv (.s 12)⟩,
    ⟨some 3, none, .mv (.s 18)⟩] [[], [0], [], [2], [3], [4, 3], [5, 3], [3, 6], [1, 3, 0, 1], [7, 8, 0, 1, 2, 3, 4, 5, 6, 7, 8]] [2, 3]) .ret)
def c82_1 : ACode :=
  (.seq (.region false [⟨some 7, none, .ld true 5 (.s 1)⟩,
    ⟨some 8, none, .call 86 [(.s 7), (.c (.t (.str [95, 95, 116])))]⟩,
    ⟨some 6, none, .mv (.s 8)⟩,
    ⟨some 9, none, .ext (.s 6) 0⟩,
    ⟨some 10, none, .ext (.s 6) 1⟩,
    ⟨some 4, none, .alloc [.t (.int .i64 0), .t (.int .i64 0), .t (.str []), .nils, .nils]⟩,
    ⟨none, none, .st 5 (.s 4) (.s 9)⟩,
    ⟨some 5, none, .mv (.s 10)⟩] [] [4, 5]) c82_0)
def c82 : ACode :=
  (.seq (.region false [⟨some 1, none, .box 5 (.s 0)⟩,
    ⟨some 2, none, .cst (.t (.str []))⟩,
    ⟨some 3, none, .cst (.t (.bool false))⟩] [] [1]) c82_1)
def r82 : List ARes := [.tmp 2, .tmp 3]
def n82 : Nat := 19
/- 83 supergraph supergraphref40.actual -/
def c83_0 : ACode :=
  (.seq (.region false [⟨some 86, none, .mv (.s 7)⟩,
    ⟨some 6, none, .mv (.s 86)⟩] [] [6]) .ret)
def c83_1 : ACode :=
  (.region false [⟨some 46, none, .mv (.s 11)⟩,
    ⟨some 47, none, .bin .add (.s 46) (.c (.t (.int .i64 1)))⟩,
    ⟨some 11, none, .mv (.s 47)⟩] [] [1, 3, 5, 7, 9, 11])
def c83_2 : ACode :=
  (.region true [⟨some 76, none, .mv (.s 7)⟩,
    ⟨some 77, none, .ld true 1 (.s 3)⟩,
    ⟨some 78, none, .mv (.s 1)⟩,
    ⟨some 79, none, .mv (.s 11)⟩,
    ⟨some 80, none, .ia 9 (.s 78) (.s 79)⟩,
    ⟨some 81, none, .fa 8 (.s 80)⟩,
    ⟨some 82, none, .ld false 1 (.s 81)⟩,
    ⟨some 83, none, .ld true 5 (.s 12)⟩,
    ⟨some 84, none, .call 83 [(.s 77), (.s 82), (.s 83)]⟩,
    ⟨some 85, none, .call 113 [(.s 76), (.s 84)]⟩,
    ⟨some 7, none, .mv (.s 85)⟩] [[], [], [], [], [2, 3], [4], [5], [], [1, 6, 7], [0, 8, 8], [9, 9, 0, 1, 2, 3, 4, 5, 6, 7, 8, 9]] [1, 3, 5, 7, 9, 11])
def c83_3 : ACode :=
  (.cond (.s 75) c83_2 .skip)
def c83_4 : ACode :=
  (.seq (.region false [⟨some 75, none, .mv (.s 13)⟩] [] [1, 3, 5, 7, 9, 11, 12, 75]) c83_3)
def c83_5 : ACode :=
  (.seq (.region true [⟨some 66, none, .ld true 5 (.s 5)⟩,
    ⟨some 67, none, .mv (.s 1)⟩,
    ⟨some 68, none, .mv (.s 11)⟩,
    ⟨some 69, none, .ia 9 (.s 67) (.s 68)⟩,
    ⟨some 70, none, .fa 0 (.s 69)⟩,
    ⟨some 71, none, .ld false 1 (.s 70)⟩,
    ⟨some 72, none, .call 86 [(.s 66), (.s 71)]⟩,
    ⟨some 65, none, .mv (.s 72)⟩,
    ⟨some 73, none, .ext (.s 65) 0⟩,
    ⟨some 74, none, .ext (.s 65) 1⟩,
    ⟨some 12, none, .alloc [.t (.int .i64 0), .t (.int .i64 0), .t (.str []), .nils, .nils]⟩,
    ⟨none, none, .st 5 (.s 12) (.s 73)⟩,
    ⟨some 13, none, .mv (.s 74)⟩] [[], [], [], [1, 2], [3], [4], [0, 5], [6], [7], [7], [], [10, 8, 6, 0, 1, 2, 3, 4, 5, 6, 7, 8, 10], [9, 11, 0, 1, 2, 3, 4, 5, 6, 7, 8, 9, 10, 11]] [1, 3, 5, 7, 9, 11, 12, 13]) c83_4)
def c83_6 : ACode :=
  (.seq (.region true [⟨some 55, none, .mv (.s 7)⟩,
    ⟨some 56, none, .ld true 1 (.s 3)⟩,
    ⟨some 57, none, .mv (.s 9)⟩,
    ⟨some 58, none, .mv (.s 1)⟩,
    ⟨some 59, none, .mv (.s 11)⟩,
    ⟨some 60, none, .ia 9 (.s 58) (.s 59)⟩,
    ⟨some 61, none, .fa 2 (.s 60)⟩,
    ⟨some 62, none, .ld false 1 (.s 61)⟩,
    ⟨some 63, none, .call 35 [(.s 56), (.s 57), (.s 62)]⟩,
    ⟨some 64, none, .call 113 [(.s 55), (.s 63)]⟩,
    ⟨some 7, none, .mv (.s 64)⟩] [[], [], [], [], [], [3, 4], [5], [6], [1, 2, 7], [0, 8, 8], [9, 9, 0, 1, 2, 3, 4, 5, 6, 7, 8, 9]] [1, 3, 5, 7, 9, 11]) c83_5)
def c83_7 : ACode :=
  (.cond (.s 54) (.exit 3) .skip)
def c83_8 : ACode :=
  (.seq (.seq (.region false [⟨some 48, none, .mv (.s 1)⟩,
    ⟨some 49, none, .mv (.s 11)⟩,
    ⟨some 50, none, .ia 9 (.s 48) (.s 49)⟩,
    ⟨some 51, none, .fa 1 (.s 50)⟩,
    ⟨some 52, none, .ld false 1 (.s 51)⟩,
    ⟨some 53, none, .mv (.s 9)⟩,
    ⟨some 54, none, .bin .neq (.s 52) (.s 53)⟩] [] [1, 3, 5, 7, 9, 11, 54]) c83_7) c83_6)
def c83_9 : ACode :=
  (.seq (.block 3 c83_8) c83_1)
def c83_10 : ACode :=
  (.cond (.s 45) .skip (.exit 2))
def c83_11 : ACode :=
  (.seq (.seq (.region false [⟨some 42, none, .mv (.s 11)⟩,
    ⟨some 43, none, .mv (.s 1)⟩,
    ⟨some 44, none, .len (.s 43)⟩,
    ⟨some 45, none, .bin .lss (.s 42) (.s 44)⟩] [] [1, 3, 5, 7, 9, 11, 45]) c83_10) c83_9)
def c83_12 : ACode :=
  (.loop c83_11)
def c83_13 : ACode :=
  (.block 2 c83_12)
def c83_14 : ACode :=
  (.seq (.seq (.region false [⟨some 11, none, .cst (.t (.int .i64 0))⟩] [] [1, 3, 5, 7, 9, 11]) c83_13) c83_0)
def c83_15 : ACode :=
  (.seq (.region false [⟨some 6, none, .cst (.t (.int .i64 0))⟩] [] [6]) .ret)
def c83_16 : ACode :=
  (.cond (.s 41) c83_15 .skip)
def c83_17 : ACode :=
  (.seq (.seq (.region false [⟨some 40, none, .mv (.s 10)⟩,
    ⟨some 41, none, .un .not (.s 40)⟩] [] [1, 3, 5, 7, 9, 41]) c83_16) c83_14)
def c83_18 : ACode :=
  (.seq (.region false [⟨some 36, none, .ld true 5 (.s 5)⟩,
    ⟨some 37, none, .call 82 [(.s 36)]⟩,
    ⟨some 35, none, .mv (.s 37)⟩,
    ⟨some 38, none, .ext (.s 35) 0⟩,
    ⟨some 39, none, .ext (.s 35) 1⟩,
    ⟨some 9, none, .mv (.s 38)⟩,
    ⟨some 10, none, .mv (.s 39)⟩] [] [1, 3, 5, 7, 9, 10]) c83_17)
def c83_19 : ACode :=
  (.seq (.region false [⟨some 34, none, .mv (.s 7)⟩,
    ⟨some 6, none, .mv (.s 34)⟩] [] [6]) .ret)
def c83_20 : ACode :=
  (.region false [⟨some 22, none, .mv (.s 8)⟩,
    ⟨some 23, none, .bin .add (.s 22) (.c (.t (.int .i64 1)))⟩,
    ⟨some 8, none, .mv (.s 23)⟩] [] [1, 3, 5, 7, 8])
def c83_21 : ACode :=
  (.region true [⟨some 24, none, .mv (.s 7)⟩,
    ⟨some 25, none, .ld true 1 (.s 3)⟩,
    ⟨some 26, none, .mv (.s 1)⟩,
    ⟨some 27, none, .fa 3 (.s 5)⟩,
    ⟨some 28, none, .ld false 1 (.s 27)⟩,
    ⟨some 29, none, .mv (.s 8)⟩,
    ⟨some 30, none, .ia 5 (.s 28) (.s 29)⟩,
    ⟨some 31, none, .ld true 5 (.s 30)⟩,
    ⟨some 32, none, .call 83 [(.s 25), (.s 26), (.s 31)]⟩,
    ⟨some 33, none, .call 113 [(.s 24), (.s 32)]⟩,
    ⟨some 7, none, .mv (.s 33)⟩] [[], [], [], [], [3], [], [4, 5], [6], [1, 2, 7], [0, 8, 8], [9, 9, 0, 1, 2, 3, 4, 5, 6, 7, 8, 9]] [1, 3, 5, 7, 8])
def c83_22 : ACode :=
  (.seq (.block 1 c83_21) c83_20)
def c83_23 : ACode :=
  (.cond (.s 21) .skip (.exit 0))
def c83_24 : ACode :=
  (.seq (.seq (.region false [⟨some 17, none, .mv (.s 8)⟩,
    ⟨some 18, none, .fa 3 (.s 5)⟩,
    ⟨some 19, none, .ld false 1 (.s 18)⟩,
    ⟨some 20, none, .len (.s 19)⟩,
    ⟨some 21, none, .bin .lss (.s 17) (.s 20)⟩] [] [1, 3, 5, 7, 8, 21]) c83_23) c83_22)
def c83_25 : ACode :=
  (.loop c83_24)
def c83_26 : ACode :=
  (.block 0 c83_25)
def c83_27 : ACode :=
  (.seq (.seq (.region false [⟨some 8, none, .cst (.t (.int .i64 0))⟩] [] [1, 3, 5, 7, 8]) c83_26) c83_19)
def c83_28 : ACode :=
  (.cond (.s 16) c83_27 .skip)
def c83_29 : ACode :=
  (.seq (.seq (.region false [⟨some 14, none, .fa 0 (.s 5)⟩,
    ⟨some 15, none, .ld false 1 (.s 14)⟩,
    ⟨some 16, none, .bin .eql (.s 15) (.c (.t (.int .i64 5)))⟩] [] [1, 3, 5, 7, 16]) c83_28) c83_18)
def c83_30 : ACode :=
  (.seq (.region false [⟨some 7, none, .cst (.t (.int .i64 0))⟩] [] [1, 3, 5, 7]) c83_29)
def c83 : ACode :=
  (.seq (.region false [⟨some 3, none, .box 1 (.s 0)⟩,
    ⟨some 5, none, .box 5 (.s 2)⟩,
    ⟨some 6, none, .cst (.t (.int .i64 0))⟩] [] [1, 3, 5]) c83_30)
def r83 : List ARes := [.tmp 6]
def n83 : Nat := 87
/- 85 supergraph cost.within -/
def c85_0 : ACode :=
  (.seq (.region false [⟨some 8, none, .cst (.t (.bool true))⟩] [] [8]) .ret)
def c85_1 : ACode :=
  (.seq (.region true [⟨some 13, none, .ld false 1 (.s 6)⟩,
    ⟨some 14, none, .bin .gtr (.s 13) (.c (.t (.int .i64 0)))⟩,
    ⟨some 15, none, .mv (.s 14)⟩,
    ⟨some 16, some (15, true), .fa 3 (.s 7)⟩,
    ⟨some 17, some (15, true), .ld false 1 (.s 16)⟩,
    ⟨some 18, some (15, true), .len (.s 17)⟩,
    ⟨some 19, some (15, true), .ld true 1 (.s 4)⟩,
    ⟨some 20, some (15, true), .ld true 9 (.s 5)⟩,
    ⟨some 21, some (15, true), .call 36 [(.s 19), (.s 20)]⟩,
    ⟨some 22, some (15, true), .bin .leq (.s 18) (.s 21)⟩,
    ⟨some 23, none, .pick (.s 15) (.s 22) (.c (.t (.bool false)))⟩,
    ⟨some 24, none, .mv (.s 23)⟩,
    ⟨some 25, some (24, true), .fa 3 (.s 7)⟩,
    ⟨some 26, some (24, true), .ld false 1 (.s 25)⟩,
    ⟨some 27, some (24, true), .mkfn 115 [(.s 4), (.s 5), (.s 6)]⟩,
    ⟨some 28, some (24, true), .call 92 [(.s 26), (.s 27)]⟩,
    ⟨some 29, some (24, true), .un .not (.s 28)⟩,
    ⟨some 30, none, .pick (.s 24) (.s 29) (.c (.t (.bool false)))⟩,
    ⟨some 8, none, .mv (.s 30)⟩] [[], [0], [1], [2], [3, 2], [4, 2], [2], [2], [6, 7, 2, 2], [5, 8, 2], [2, 9], [10, 8], [11], [12, 11], [11], [13, 14, 11, 11], [15, 11], [11, 16], [17, 15, 0, 1, 2, 3, 4, 5, 6, 7, 8, 9, 10, 11, 12, 13, 14, 15, 16, 17]] [8]) .ret)
def c85_2 : ACode :=
  (.seq (.region false [⟨some 33, none, .ld false 1 (.s 6)⟩,
    ⟨some 34, none, .bin .eql (.s 33) (.c (.t (.int .i64 0)))⟩,
    ⟨some 35, none, .mv (.s 34)⟩,
    ⟨some 36, some (35, true), .ld true 1 (.s 4)⟩,
    ⟨some 37, some (35, true), .fa 8 (.s 5)⟩,
    ⟨some 38, some (35, true), .ld false 1 (.s 37)⟩,
    ⟨some 39, some (35, true), .ld true 5 (.s 7)⟩,
    ⟨some 40, some (35, true), .call 42 [(.s 36), (.s 38), (.s 39)]⟩,
    ⟨some 41, none, .pick (.s 35) (.s 40) (.c (.t (.bool false)))⟩,
    ⟨some 8, none, .mv (.s 41)⟩] [] [8]) .ret)
def c85_3 : ACode :=
  (.cond (.s 31) c85_2 .skip)
def c85_4 : ACode :=
  (.seq (.region false [⟨some 32, none, .bin .eql (.s 10) (.c (.t (.int .i64 6)))⟩,
    ⟨some 31, none, .mv (.s 32)⟩] [] [4, 5, 6, 7, 31]) c85_3)
def c85_5 : ACode :=
  (.cond (.s 11) c85_1 c85_4)
def c85_6 : ACode :=
  (.seq (.region false [⟨some 12, none, .bin .eql (.s 10) (.c (.t (.int .i64 5)))⟩,
    ⟨some 11, none, .mv (.s 12)⟩] [] [4, 5, 6, 7, 10, 11]) c85_5)
def c85_7 : ACode :=
  (.block 0 c85_6)
def c85_8 : ACode :=
  (.seq (.seq (.region false [⟨some 9, none, .fa 0 (.s 7)⟩,
    ⟨some 10, none, .ld false 1 (.s 9)⟩] [] [4, 5, 6, 7, 10]) c85_7) c85_0)
def c85 : ACode :=
  (.seq (.region false [⟨some 4, none, .box 1 (.s 0)⟩,
    ⟨some 5, none, .box 9 (.s 1)⟩,
    ⟨some 6, none, .box 1 (.s 2)⟩,
    ⟨some 7, none, .box 5 (.s 3)⟩,
    ⟨some 8, none, .cst (.t (.bool false))⟩] [] [4, 5, 6, 7]) c85_8)
def r85 : List ARes := [.tmp 8]
def n85 : Nat := 42
/- 87 supergraph supergraphref40.within -/
def c87_0 : ACode :=
  (.seq (.region false [⟨some 8, none, .cst (.t (.bool true))⟩] [] [8]) .ret)
def c87_1 : ACode :=
  (.region false [⟨some 41, none, .mv (.s 9)⟩,
    ⟨some 42, none, .bin .add (.s 41) (.c (.t (.int .i64 1)))⟩,
    ⟨some 9, none, .mv (.s 42)⟩] [] [2, 4, 5, 7, 9])
def c87_2 : ACode :=
  (.seq (.region false [⟨some 8, none, .cst (.t (.bool false))⟩] [] [8]) .ret)
def c87_3 : ACode :=
  (.cond (.s 53) c87_2 .skip)
def c87_4 : ACode :=
  (.seq (.region true [⟨some 43, none, .ld true 1 (.s 4)⟩,
    ⟨some 44, none, .ld true 9 (.s 5)⟩,
    ⟨some 45, none, .mv (.s 2)⟩,
    ⟨some 46, none, .bin .sub (.s 45) (.c (.t (.int .i64 1)))⟩,
    ⟨some 47, none, .fa 3 (.s 7)⟩,
    ⟨some 48, none, .ld false 1 (.s 47)⟩,
    ⟨some 49, none, .mv (.s 9)⟩,
    ⟨some 50, none, .ia 5 (.s 48) (.s 49)⟩,
    ⟨some 51, none, .ld true 5 (.s 50)⟩,
    ⟨some 52, none, .call 87 [(.s 43), (.s 44), (.s 46), (.s 51)]⟩,
    ⟨some 53, none, .un .not (.s 52)⟩] [[], [], [], [2], [], [4], [], [5, 6], [7], [0, 1, 3, 8], [9]] [2, 4, 5, 7, 9, 53]) c87_3)
def c87_5 : ACode :=
  (.seq (.block 1 c87_4) c87_1)
def c87_6 : ACode :=
  (.cond (.s 40) .skip (.exit 0))
def c87_7 : ACode :=
  (.seq (.seq (.region false [⟨some 36, none, .mv (.s 9)⟩,
    ⟨some 37, none, .fa 3 (.s 7)⟩,
    ⟨some 38, none, .ld false 1 (.s 37)⟩,
    ⟨some 39, none, .len (.s 38)⟩,
    ⟨some 40, none, .bin .lss (.s 36) (.s 39)⟩] [] [2, 4, 5, 7, 9, 40]) c87_6) c87_5)
def c87_8 : ACode :=
  (.loop c87_7)
def c87_9 : ACode :=
  (.block 0 c87_8)
def c87_10 : ACode :=
  (.seq (.seq (.region false [⟨some 9, none, .cst (.t (.int .i64 0))⟩] [] [2, 4, 5, 7, 9]) c87_9) c87_0)
def c87_11 : ACode :=
  (.seq (.region false [⟨some 8, none, .cst (.t (.bool false))⟩] [] [8]) .ret)
def c87_12 : ACode :=
  (.cond (.s 35) c87_11 .skip)
def c87_13 : ACode :=
  (.seq (.seq (.region true [⟨some 25, none, .mv (.s 2)⟩,
    ⟨some 26, none, .bin .eql (.s 25) (.c (.t (.int .i64 0)))⟩,
    ⟨some 27, none, .mv (.s 26)⟩,
    ⟨some 28, some (27, false), .fa 3 (.s 7)⟩,
    ⟨some 29, some (27, false), .ld false 1 (.s 28)⟩,
    ⟨some 30, some (27, false), .len (.s 29)⟩,
    ⟨some 31, some (27, false), .ld true 1 (.s 4)⟩,
    ⟨some 32, some (27, false), .ld true 9 (.s 5)⟩,
    ⟨some 33, some (27, false), .call 37 [(.s 31), (.s 32)]⟩,
    ⟨some 34, some (27, false), .bin .gtr (.s 30) (.s 33)⟩,
    ⟨some 35, none, .pick (.s 27) (.c (.t (.bool true))) (.s 34)⟩] [[], [0], [1], [2], [3, 2], [4, 2], [2], [2], [6, 7, 2, 2], [5, 8, 2], [2, 9]] [2, 4, 5, 7, 35]) c87_12) c87_10)
def c87_14 : ACode :=
  (.seq (.region false [⟨some 8, none, .cst (.t (.bool true))⟩] [] [8]) .ret)
def c87_15 : ACode :=
  (.cond (.s 24) c87_14 .skip)
def c87_16 : ACode :=
  (.seq (.seq (.region false [⟨some 22, none, .fa 0 (.s 7)⟩,
    ⟨some 23, none, .ld false 1 (.s 22)⟩,
    ⟨some 24, none, .bin .neq (.s 23) (.c (.t (.int .i64 5)))⟩] [] [2, 4, 5, 7, 24]) c87_15) c87_13)
def c87_17 : ACode :=
  (.seq (.region false [⟨some 13, none, .mv (.s 2)⟩,
    ⟨some 14, none, .bin .eql (.s 13) (.c (.t (.int .i64 0)))⟩,
    ⟨some 15, none, .mv (.s 14)⟩,
    ⟨some 16, some (15, true), .ld true 1 (.s 4)⟩,
    ⟨some 17, some (15, true), .fa 8 (.s 5)⟩,
    ⟨some 18, some (15, true), .ld false 1 (.s 17)⟩,
    ⟨some 19, some (15, true), .ld true 5 (.s 7)⟩,
    ⟨some 20, some (15, true), .call 43 [(.s 16), (.s 18), (.s 19)]⟩,
    ⟨some 21, none, .pick (.s 15) (.s 20) (.c (.t (.bool false)))⟩,
    ⟨some 8, none, .mv (.s 21)⟩] [] [8]) .ret)
def c87_18 : ACode :=
  (.cond (.s 12) c87_17 .skip)
def c87_19 : ACode :=
  (.seq (.seq (.region false [⟨some 10, none, .fa 0 (.s 7)⟩,
    ⟨some 11, none, .ld false 1 (.s 10)⟩,
    ⟨some 12, none, .bin .eql (.s 11) (.c (.t (.int .i64 6)))⟩] [] [2, 4, 5, 7, 12]) c87_18) c87_16)
def c87 : ACode :=
  (.seq (.region false [⟨some 4, none, .box 1 (.s 0)⟩,
    ⟨some 5, none, .box 9 (.s 1)⟩,
    ⟨some 7, none, .box 5 (.s 3)⟩,
    ⟨some 8, none, .cst (.t (.bool false))⟩] [] [2, 4, 5, 7]) c87_19)
def r87 : List ARes := [.tmp 8]
def n87 : Nat := 54
/- 106 supergraph supergraphlaw40.number -/
def c106_0 : ACode :=
  (.seq (.region false [⟨some 7, none, .mv (.s 0)⟩,
    ⟨some 8, none, .mv (.s 1)⟩,
    ⟨some 9, none, .mv (.s 2)⟩,
    ⟨some 10, none, .build [.t (.int .i64 0), .t (.int .i64 0), .t (.str []), .nils, .nils] [(0, 1, (.c (.t (.int .i64 2)))), (1, 1, (.s 9))]⟩,
    ⟨some 11, none, .build [.t (.str []), .t (.int .i64 0), .t (.int .i64 0), .t (.str []), .nils, .nils] [(0, 1, (.s 8)), (1, 5, (.s 10))]⟩,
    ⟨some 12, none, .bsl true 6 [[.str [], .int .i64 0, .int .i64 0, .str [], .lst [], .lst []]] [(0, (.s 11))]⟩,
    ⟨some 13, none, .build [.t (.str []), .nils] [(0, 1, (.s 7)), (1, 1, (.s 12))]⟩,
    ⟨some 14, none, .bsl true 2 [[.str [], .lst []]] [(0, (.s 13))]⟩,
    ⟨some 6, none, .mv (.s 14)⟩] [] [6]) .ret)
def c106 : ACode :=
  (.seq (.region false [⟨some 6, none, .cst (.nils)⟩] [] [0, 1, 2]) c106_0)
def r106 : List ARes := [.tmp 6]
def n106 : Nat := 15
/- 107 supergraph schema.kind -/
def c107_0 : ACode :=
  (.seq (.region false [⟨some 13, none, .fa 0 (.s 5)⟩,
    ⟨some 14, none, .ld false 1 (.s 13)⟩,
    ⟨some 4, none, .mv (.s 14)⟩] [] [4]) .ret)
def c107_1 : ACode :=
  (.seq (.region false [⟨some 8, none, .ld true 1 (.s 2)⟩,
    ⟨some 9, none, .mv (.s 1)⟩,
    ⟨some 10, none, .call 49 [(.s 8), (.s 9)]⟩,
    ⟨some 7, none, .mv (.s 10)⟩,
    ⟨some 11, none, .ext (.s 7) 0⟩,
    ⟨some 12, none, .ext (.s 7) 1⟩,
    ⟨some 5, none, .alloc [.t (.int .i64 0), .t (.str []), .nils, .nils, .nils, .nils, .nils]⟩,
    ⟨none, none, .st 7 (.s 5) (.s 11)⟩,
    ⟨some 6, none, .mv (.s 12)⟩] [] [5]) c107_0)
def c107 : ACode :=
  (.seq (.region false [⟨some 2, none, .box 1 (.s 0)⟩,
    ⟨some 4, none, .cst (.t (.int .i64 0))⟩] [] [1, 2]) c107_1)
def r107 : List ARes := [.tmp 4]
def n107 : Nat := 15
/- 108 supergraph schema.Scalar -/
def c108_0 : ACode :=
  (.seq (.region false [⟨some 3, none, .mv (.s 0)⟩,
    ⟨some 4, none, .bin .eql (.s 3) (.c (.t (.str [73, 110, 116])))⟩,
    ⟨some 5, none, .mv (.s 4)⟩,
    ⟨some 6, some (5, false), .mv (.s 0)⟩,
    ⟨some 7, some (5, false), .bin .eql (.s 6) (.c (.t (.str [83, 116, 114, 105, 110, 103])))⟩,
    ⟨some 8, none, .pick (.s 5) (.c (.t (.bool true))) (.s 7)⟩,
    ⟨some 9, none, .mv (.s 8)⟩,
    ⟨some 10, some (9, false), .mv (.s 0)⟩,
    ⟨some 11, some (9, false), .bin .eql (.s 10) (.c (.t (.str [66, 111, 111, 108, 101, 97, 110])))⟩,
    ⟨some 12, none, .pick (.s 9) (.c (.t (.bool true))) (.s 11)⟩,
    ⟨some 13, none, .mv (.s 12)⟩,
    ⟨some 14, some (13, false), .mv (.s 0)⟩,
    ⟨some 15, some (13, false), .bin .eql (.s 14) (.c (.t (.str [73, 68])))⟩,
    ⟨some 16, none, .pick (.s 13) (.c (.t (.bool true))) (.s 15)⟩,
    ⟨some 2, none, .mv (.s 16)⟩] [] [2]) .ret)
def c108 : ACode :=
  (.seq (.region false [⟨some 2, none, .cst (.t (.bool false))⟩] [] [0]) c108_0)
def r108 : List ARes := [.tmp 2]
def n108 : Nat := 17
/- 109 supergraph supergraphref10.Scalar -/
def c109_0 : ACode :=
  (.seq (.region false [⟨some 3, none, .mv (.s 0)⟩,
    ⟨some 4, none, .bin .eql (.s 3) (.c (.t (.str [73, 110, 116])))⟩,
    ⟨some 5, none, .mv (.s 4)⟩,
    ⟨some 6, some (5, false), .mv (.s 0)⟩,
    ⟨some 7, some (5, false), .bin .eql (.s 6) (.c (.t (.str [83, 116, 114, 105, 110, 103])))⟩,
    ⟨some 8, none, .pick (.s 5) (.c (.t (.bool true))) (.s 7)⟩,
    ⟨some 9, none, .mv (.s 8)⟩,
    ⟨some 10, some (9, false), .mv (.s 0)⟩,
    ⟨some 11, some (9, false), .bin .eql (.s 10) (.c (.t (.str [66, 111, 111, 108, 101, 97, 110])))⟩,
    ⟨some 12, none, .pick (.s 9) (.c (.t (.bool true))) (.s 11)⟩,
    ⟨some 13, none, .mv (.s 12)⟩,
    ⟨some 14, some (13, false), .mv (.s 0)⟩,
    ⟨some 15, some (13, false), .bin .eql (.s 14) (.c (.t (.str [73, 68])))⟩,
    ⟨some 16, none, .pick (.s 13) (.c (.t (.bool true))) (.s 15)⟩,
    ⟨some 2, none, .mv (.s 16)⟩] [] [2]) .ret)
def c109 : ACode :=
  (.seq (.region false [⟨some 2, none, .cst (.t (.bool false))⟩] [] [0]) c109_0)
def r109 : List ARes := [.tmp 2]
def n109 : Nat := 17
/- 110 supergraph cost.sum -/
def c110_0 : ACode :=
  (.seq (.region false [⟨some 17, none, .mv (.s 3)⟩,
    ⟨some 2, none, .mv (.s 17)⟩] [] [2]) .ret)
def c110_1 : ACode :=
  (.region false [⟨some 16, none, .bin .add (.s 8) (.c (.t (.int .i64 1)))⟩,
    ⟨some 8, none, .mv (.s 16)⟩] [] [3, 6, 7, 8])
def c110_2 : ACode :=
  (.region false [⟨some 12, none, .mv (.s 3)⟩,
    ⟨some 13, none, .mv (.s 5)⟩,
    ⟨some 14, none, .bin .add (.s 12) (.s 13)⟩,
    ⟨some 15, none, .mini (.s 14) (.c (.t (.int .i64 1099511627776)))⟩,
    ⟨some 3, none, .mv (.s 15)⟩] [] [3, 6, 7, 8])
def c110_3 : ACode :=
  (.seq (.region false [⟨some 10, none, .ia 1 (.s 6) (.s 8)⟩,
    ⟨some 11, none, .ld false 1 (.s 10)⟩,
    ⟨some 5, none, .mv (.s 11)⟩] [] [3, 5, 6, 7, 8]) c110_2)
def c110_4 : ACode :=
  (.seq (.block 1 c110_3) c110_1)
def c110_5 : ACode :=
  (.seq (.cond (.s 9) .skip (.exit 0)) c110_4)
def c110_6 : ACode :=
  (.seq (.region false [⟨some 9, none, .bin .lss (.s 8) (.s 7)⟩] [] [3, 6, 7, 8, 9]) c110_5)
def c110_7 : ACode :=
  (.loop c110_6)
def c110_8 : ACode :=
  (.block 0 c110_7)
def c110_9 : ACode :=
  (.seq (.seq (.region false [⟨some 6, none, .mv (.s 0)⟩,
    ⟨some 7, none, .len (.s 6)⟩,
    ⟨some 8, none, .cst (.t (.int .i64 0))⟩] [] [3, 6, 7, 8]) c110_8) c110_0)
def c110_10 : ACode :=
  (.seq (.region false [⟨some 3, none, .cst (.t (.int .i64 0))⟩] [] [0, 3]) c110_9)
def c110 : ACode :=
  (.seq (.region false [⟨some 2, none, .cst (.t (.int .i64 0))⟩] [] [0]) c110_10)
def r110 : List ARes := [.tmp 2]
def n110 : Nat := 18
/- 111 supergraph cost.pick -/
def c111_0 : ACode :=
  (.seq (.region true [⟨some 5, none, .ld true 1 (.s 2)⟩,
    ⟨some 6, none, .fa 1 (.s 3)⟩,
    ⟨some 7, none, .ld false 1 (.s 6)⟩,
    ⟨some 8, none, .fa 2 (.s 3)⟩,
    ⟨some 9, none, .ld false 1 (.s 8)⟩,
    ⟨some 10, none, .call 34 [(.s 5), (.s 7), (.s 9)]⟩,
    ⟨some 11, none, .ld true 1 (.s 2)⟩,
    ⟨some 12, none, .ld true 9 (.s 3)⟩,
    ⟨some 13, none, .call 130 [(.s 11), (.s 12)]⟩,
    ⟨some 14, none, .ld true 1 (.s 2)⟩,
    ⟨some 15, none, .fa 8 (.s 3)⟩,
    ⟨some 16, none, .ld false 1 (.s 15)⟩,
    ⟨some 17, none, .call 78 [(.s 14), (.s 16)]⟩,
    ⟨some 18, none, .call 129 [(.s 13), (.s 17)]⟩,
    ⟨some 19, none, .bsl true 1 [[.int .i64 0], [.int .i64 0]] [(0, (.s 10)), (1, (.s 18))]⟩,
    ⟨some 20, none, .call 110 [(.s 19)]⟩,
    ⟨some 4, none, .mv (.s 20)⟩] [[], [], [1], [], [3], [0, 2, 4], [], [], [6, 7, 5], [], [], [10], [9, 11, 8], [8, 12, 12], [5, 13], [14, 13], [15, 15, 0, 1, 2, 3, 4, 5, 6, 7, 8, 9, 10, 11, 12, 13, 14, 15]] [4]) .ret)
def c111 : ACode :=
  (.seq (.region false [⟨some 2, none, .box 1 (.s 0)⟩,
    ⟨some 3, none, .box 9 (.s 1)⟩,
    ⟨some 4, none, .cst (.t (.int .i64 0))⟩] [] [2, 3]) c111_0)
def r111 : List ARes := [.tmp 4]
def n111 : Nat := 21
/- 112 supergraph supergraphref40.cost -/
def c112_0 : ACode :=
  (.seq (.region true [⟨some 19, none, .ld true 1 (.s 2)⟩,
    ⟨some 20, none, .fa 1 (.s 3)⟩,
    ⟨some 21, none, .ld false 1 (.s 20)⟩,
    ⟨some 22, none, .fa 2 (.s 3)⟩,
    ⟨some 23, none, .ld false 1 (.s 22)⟩,
    ⟨some 24, none, .call 35 [(.s 19), (.s 21), (.s 23)]⟩,
    ⟨some 25, none, .mv (.s 5)⟩,
    ⟨some 26, none, .ld true 1 (.s 2)⟩,
    ⟨some 27, none, .fa 8 (.s 3)⟩,
    ⟨some 28, none, .ld false 1 (.s 27)⟩,
    ⟨some 29, none, .call 79 [(.s 26), (.s 28)]⟩,
    ⟨some 30, none, .call 131 [(.s 25), (.s 29)]⟩,
    ⟨some 31, none, .call 113 [(.s 24), (.s 30)]⟩,
    ⟨some 4, none, .mv (.s 31)⟩] [[], [], [1], [], [3], [0, 2, 4], [], [], [], [8], [7, 9, 5], [6, 10, 10], [5, 11, 11], [12, 12, 0, 1, 2, 3, 4, 5, 6, 7, 8, 9, 10, 11, 12]] [4]) .ret)
def c112_1 : ACode :=
  (.region false [⟨some 12, none, .mv (.s 6)⟩,
    ⟨some 13, none, .bin .add (.s 12) (.c (.t (.int .i64 1)))⟩,
    ⟨some 6, none, .mv (.s 13)⟩] [] [2, 3, 5, 6])
def c112_2 : ACode :=
  (.region false [⟨some 14, none, .mv (.s 5)⟩,
    ⟨some 15, none, .ld true 1 (.s 2)⟩,
    ⟨some 16, none, .ld true 9 (.s 3)⟩,
    ⟨some 17, none, .call 37 [(.s 15), (.s 16)]⟩,
    ⟨some 18, none, .call 131 [(.s 14), (.s 17)]⟩,
    ⟨some 5, none, .mv (.s 18)⟩] [] [2, 3, 5, 6])
def c112_3 : ACode :=
  (.seq (.block 1 c112_2) c112_1)
def c112_4 : ACode :=
  (.cond (.s 11) .skip (.exit 0))
def c112_5 : ACode :=
  (.seq (.seq (.region false [⟨some 7, none, .mv (.s 6)⟩,
    ⟨some 8, none, .fa 4 (.s 3)⟩,
    ⟨some 9, none, .ld true 2 (.s 8)⟩,
    ⟨some 10, none, .call 76 [(.s 9)]⟩,
    ⟨some 11, none, .bin .lss (.s 7) (.s 10)⟩] [] [2, 3, 5, 6, 11]) c112_4) c112_3)
def c112_6 : ACode :=
  (.loop c112_5)
def c112_7 : ACode :=
  (.block 0 c112_6)
def c112_8 : ACode :=
  (.seq (.seq (.region false [⟨some 6, none, .cst (.t (.int .i64 0))⟩] [] [2, 3, 5, 6]) c112_7) c112_0)
def c112_9 : ACode :=
  (.seq (.region false [⟨some 5, none, .cst (.t (.int .i64 1))⟩] [] [2, 3, 5]) c112_8)
def c112 : ACode :=
  (.seq (.region false [⟨some 2, none, .box 1 (.s 0)⟩,
    ⟨some 3, none, .box 9 (.s 1)⟩,
    ⟨some 4, none, .cst (.t (.int .i64 0))⟩] [] [2, 3]) c112_9)
def r112 : List ARes := [.tmp 4]
def n112 : Nat := 32
/- 113 supergraph supergraphref40.add -/
def c113_0 : ACode :=
  (.seq (.region false [⟨some 5, none, .mv (.s 0)⟩,
    ⟨some 6, none, .mv (.s 1)⟩,
    ⟨some 7, none, .bin .add (.s 5) (.s 6)⟩,
    ⟨some 8, none, .call 77 [(.s 7), (.c (.t (.int .i64 1099511627776)))]⟩,
    ⟨some 4, none, .mv (.s 8)⟩] [] [4]) .ret)
def c113 : ACode :=
  (.seq (.region false [⟨some 4, none, .cst (.t (.int .i64 0))⟩] [] [0, 1]) c113_0)
def r113 : List ARes := [.tmp 4]
def n113 : Nat := 9
/- 115 supergraph cost.within 1 -/
def c115_0 : ACode :=
  (.seq (.region false [⟨some 6, none, .ld true 1 (.s 1)⟩,
    ⟨some 7, none, .ld true 9 (.s 2)⟩,
    ⟨some 8, none, .ld false 1 (.s 3)⟩,
    ⟨some 9, none, .bin .sub (.s 8) (.c (.t (.int .i64 1)))⟩,
    ⟨some 10, none, .ld true 5 (.s 4)⟩,
    ⟨some 11, none, .call 85 [(.s 6), (.s 7), (.s 9), (.s 10)]⟩,
    ⟨some 12, none, .un .not (.s 11)⟩,
    ⟨some 5, none, .mv (.s 12)⟩] [] [5]) .ret)
def c115 : ACode :=
  (.seq (.region false [⟨some 4, none, .box 5 (.s 0)⟩,
    ⟨some 5, none, .cst (.t (.bool false))⟩] [] [1, 2, 3, 4]) c115_0)
def r115 : List ARes := [.tmp 5]
def n115 : Nat := 13
/- 129 supergraph cost.times -/
def c129_0 : ACode :=
  (.seq (.region false [⟨some 13, none, .mv (.s 0)⟩,
    ⟨some 14, none, .mv (.s 1)⟩,
    ⟨some 15, none, .bin .mul (.s 13) (.s 14)⟩,
    ⟨some 4, none, .mv (.s 15)⟩] [] [4]) .ret)
def c129_1 : ACode :=
  (.seq (.region false [⟨some 4, none, .cst (.t (.int .i64 1099511627776))⟩] [] [4]) .ret)
def c129_2 : ACode :=
  (.cond (.s 12) c129_1 .skip)
def c129_3 : ACode :=
  (.seq (.seq (.region false [⟨some 5, none, .mv (.s 0)⟩,
    ⟨some 6, none, .bin .gtr (.s 5) (.c (.t (.int .i64 0)))⟩,
    ⟨some 7, none, .mv (.s 6)⟩,
    ⟨some 8, some (7, true), .mv (.s 1)⟩,
    ⟨some 9, some (7, true), .mv (.s 0)⟩,
    ⟨some 10, some (7, true), .bin .quo (.c (.t (.int .i64 1099511627776))) (.s 9)⟩,
    ⟨some 11, some (7, true), .bin .gtr (.s 8) (.s 10)⟩,
    ⟨some 12, none, .pick (.s 7) (.s 11) (.c (.t (.bool false)))⟩] [] [0, 1, 12]) c129_2) c129_0)
def c129 : ACode :=
  (.seq (.region false [⟨some 4, none, .cst (.t (.int .i64 0))⟩] [] [0, 1]) c129_3)
def r129 : List ARes := [.tmp 4]
def n129 : Nat := 16
/- 130 supergraph cost.elements -/
def c130_0 : ACode :=
  (.seq (.region false [⟨some 19, none, .mv (.s 5)⟩,
    ⟨some 4, none, .mv (.s 19)⟩] [] [4]) .ret)
def c130_1 : ACode :=
  (.region false [⟨some 18, none, .bin .add (.s 13) (.c (.t (.int .i64 1)))⟩,
    ⟨some 13, none, .mv (.s 18)⟩] [] [5, 6, 12, 13])
def c130_2 : ACode :=
  (.region false [⟨some 15, none, .mv (.s 5)⟩,
    ⟨some 16, none, .mv (.s 6)⟩,
    ⟨some 17, none, .call 129 [(.s 15), (.s 16)]⟩,
    ⟨some 5, none, .mv (.s 17)⟩] [] [5, 6, 12, 13])
def c130_3 : ACode :=
  (.seq (.block 1 c130_2) c130_1)
def c130_4 : ACode :=
  (.seq (.cond (.s 14) .skip (.exit 0)) c130_3)
def c130_5 : ACode :=
  (.seq (.region false [⟨some 14, none, .bin .lss (.s 13) (.s 12)⟩] [] [5, 6, 12, 13, 14]) c130_4)
def c130_6 : ACode :=
  (.loop c130_5)
def c130_7 : ACode :=
  (.block 0 c130_6)
def c130_8 : ACode :=
  (.seq (.seq (.region false [⟨some 10, none, .fa 4 (.s 3)⟩,
    ⟨some 11, none, .ld true 2 (.s 10)⟩,
    ⟨some 12, none, .call 73 [(.s 11)]⟩,
    ⟨some 13, none, .cst (.t (.int .i64 0))⟩] [] [5, 6, 12, 13]) c130_7) c130_0)
def c130_9 : ACode :=
  (.seq (.region false [⟨some 7, none, .ld true 1 (.s 2)⟩,
    ⟨some 8, none, .ld true 9 (.s 3)⟩,
    ⟨some 9, none, .call 36 [(.s 7), (.s 8)]⟩,
    ⟨some 5, none, .cst (.t (.int .i64 1))⟩,
    ⟨some 6, none, .mv (.s 9)⟩] [] [3, 5, 6]) c130_8)
def c130 : ACode :=
  (.seq (.region false [⟨some 2, none, .box 1 (.s 0)⟩,
    ⟨some 3, none, .box 9 (.s 1)⟩,
    ⟨some 4, none, .cst (.t (.int .i64 0))⟩] [] [2, 3]) c130_9)
def r130 : List ARes := [.tmp 4]
def n130 : Nat := 20
/- 131 supergraph supergraphref40.times -/
def c131_0 : ACode :=
  (.seq (.region false [⟨some 13, none, .mv (.s 0)⟩,
    ⟨some 14, none, .mv (.s 1)⟩,
    ⟨some 15, none, .bin .mul (.s 13) (.s 14)⟩,
    ⟨some 4, none, .mv (.s 15)⟩] [] [4]) .ret)
def c131_1 : ACode :=
  (.seq (.region false [⟨some 4, none, .cst (.t (.int .i64 1099511627776))⟩] [] [4]) .ret)
def c131_2 : ACode :=
  (.cond (.s 12) c131_1 .skip)
def c131_3 : ACode :=
  (.seq (.seq (.region false [⟨some 5, none, .mv (.s 0)⟩,
    ⟨some 6, none, .bin .gtr (.s 5) (.c (.t (.int .i64 0)))⟩,
    ⟨some 7, none, .mv (.s 6)⟩,
    ⟨some 8, some (7, true), .mv (.s 1)⟩,
    ⟨some 9, some (7, true), .mv (.s 0)⟩,
    ⟨some 10, some (7, true), .bin .quo (.c (.t (.int .i64 1099511627776))) (.s 9)⟩,
    ⟨some 11, some (7, true), .bin .gtr (.s 8) (.s 10)⟩,
    ⟨some 12, none, .pick (.s 7) (.s 11) (.c (.t (.bool false)))⟩] [] [0, 1, 12]) c131_2) c131_0)
def c131 : ACode :=
  (.seq (.region false [⟨some 4, none, .cst (.t (.int .i64 0))⟩] [] [0, 1]) c131_3)
def r131 : List ARes := [.tmp 4]
def n131 : Nat := 16

end Go.GB.C43

/-
  GbY: calls of functions that are handed objects: the whole store goes along.
-/
namespace Go.GB
section
variable {P : Program}

/-- the labels behind a call that was handed the names below m -/
def L.backFrom (Λ : L) (m m' : Nat) (Λ' : L) : L where
  lab := fun b => if Λ.high m b then Λ.lab b else Λ'.lab b
  fro := fun k => if k < m' then Λ'.fro k else Λ.fro k
  nxt := Λ.nxt
  w := Λ'.w

theorem FnOk.same {f : FuncId} {vs : List V} {m : Nat} {sto : List (Nat × AObj)} {out : Out} (h : FnOk P f vs ⟨sto, m⟩ out) (hrd : out.rd = true) (hb : V.bds m vs = true) (hs : stoBd m sto = true) (hob : ∀ k o, (k, o) ∈ out.ob → aget sto k ≠ none ∨ (m ≤ k ∧ k < m + out.n)) : FnAt P f vs m sto out := by
  refine ⟨h.1, hob, fun Λ args hr hle hfree hsz hargs => ?_⟩
  refine (h.2 (Λ.hideFrom m) args (hr.hf hs) rfl hsz fun j v y h1 h2 => (hargs j v y h1 h2).hf (V.bds_at hb j y h2)).mono fun e w' he => ?_
  obtain ⟨v, Λ', rfl, rfl, k1, k2, k3, k4⟩ := he
  simp only at k2 k3
  have hlt : ∀ {b : Nat}, Λ.high m b = true → b < Λ.w.heap.size := by
    intro b hh
    rcases Nat.lt_or_ge b Λ.w.heap.size with h | h
    · exact h
    · unfold L.high at hh; rw [hr.new b h] at hh; simp at hh
  have hH : ∀ {b : Nat}, Λ.high m b = true → (Λ.backFrom m (m + out.n) Λ').lab b = Λ.lab b := fun h => by simp [L.backFrom, h]
  have hL : ∀ {b : Nat}, Λ.high m b = false → (Λ.backFrom m (m + out.n) Λ').lab b = Λ'.lab b := fun h => by simp [L.backFrom, h]
  have hheap : ∀ {b : Nat}, Λ.high m b = true → ∃ fr, Λ'.lab b = .fix (some fr) ∧ Λ'.w.heap[b]? = Λ.w.heap[b]? ∧ ((∃ k, Λ.lab b = .obj k ∧ m ≤ k ∧ fr = 0) ∨ ∃ k, Λ.lab b = .arr k fr ∧ m ≤ k) := by
    intro b hh
    obtain ⟨fr, e1, e2⟩ := hf_high hh
    obtain ⟨g1, g2⟩ := k1.fr.fix b (hlt hh) _ e1
    exact ⟨fr, g1, g2, e2⟩
  have hlow : ∀ {b k : Nat}, k < m → (Λ.lab b = .obj k ∨ ∃ n, Λ.lab b = .arr k n) → Λ.high m b = false := by
    intro b k hk hb
    unfold L.high
    rcases hb with hb | ⟨n, hb⟩ <;> rw [hb] <;> simp <;> omega
  have hkp : Kp Λ (Λ.backFrom m (m + out.n) Λ') := by
    refine ⟨⟨k1.fr.os, k1.fr.tape, k1.fr.output, k1.fr.size, fun b hb fr hl => ?_, fun b hb k fr hl o ho => ?_⟩, Nat.le_refl _, fun b k _ hl => ?_, fun b k n _ hb hl hf => ?_, fun k hk => ?_⟩
    · have hh : Λ.high m b = false := by unfold L.high; rw [hl]
      obtain ⟨g1, g2⟩ := k1.fr.fix b hb fr (by rw [hf_low hh]; exact hl)
      exact ⟨by rw [hL hh]; exact g1, g2⟩
    · cases hh : Λ.high m b with
      | true =>
        obtain ⟨fr', g1, g2, g3⟩ := hheap hh
        exact ⟨by unfold Rd; rw [hH hh, hl]; exact ho, cell?_heap g2⟩
      | false =>
        obtain ⟨g1, g2⟩ := k1.fr.arr b hb k fr (by rw [hf_low hh]; exact hl) o ho
        exact ⟨by unfold Rd; rw [hL hh]; exact g1, g2⟩
    · cases hh : Λ.high m b with
      | true => rw [hH hh]; exact hl
      | false =>
        have hk : k < m := by unfold L.high at hh; rw [hl] at hh; simpa using hh
        rw [hL hh]; exact k1.obj b k hk (hf_obj hl hk)
    · cases hh : Λ.high m b with
      | true =>
        obtain ⟨fr', g1, g2, g3⟩ := hheap hh
        exact ⟨by rw [hH hh]; exact hl, g2⟩
      | false =>
        have hk : k < m := by unfold L.high at hh; rw [hl] at hh; simpa using hh
        have e1 : (Λ.hideFrom m).fro k = Λ.fro k := by simp [L.hideFrom, hk]
        have e2 : (Λ.backFrom m (m + out.n) Λ').fro k = Λ'.fro k := by simp [L.backFrom]; omega
        obtain ⟨g1, g2⟩ := k1.own b k n hk hb (hf_arr hl hk) (by rw [← e2, hf, e1])
        exact ⟨by rw [hL hh]; exact g1, g2⟩
    · simp only [L.backFrom]
      by_cases h1 : k < m
      · have := k1.fro k h1
        have e1 : (Λ.hideFrom m).fro k = Λ.fro k := by simp [L.hideFrom, h1]
        rw [if_pos (by omega)]; omega
      · by_cases h2 : k < m + out.n
        · rw [if_pos h2, (hfree k (by omega) h2).2.1.fro]; omega
        · rw [if_neg h2]; exact Nat.le_refl _
  -- values of the callee, seen again by the caller
  have hobj : ∀ {b k : Nat}, Λ'.lab b = .obj k → (Λ.backFrom m (m + out.n) Λ').lab b = .obj k := by
    intro b k hb
    cases hh : Λ.high m b with
    | true => obtain ⟨fr, g1, _⟩ := hheap hh; rw [g1] at hb; simp at hb
    | false => rw [hL hh]; exact hb
  have harr : ∀ {b k n : Nat}, Λ'.lab b = .arr k n → (Λ.backFrom m (m + out.n) Λ').lab b = .arr k n := by
    intro b k n hb
    cases hh : Λ.high m b with
    | true => obtain ⟨fr, g1, _⟩ := hheap hh; rw [g1] at hb; simp at hb
    | false => rw [hL hh]; exact hb
  have hrep : ∀ {u : Value} {y : T}, RepT Λ'.lab Λ'.w u y → RepT (Λ.backFrom m (m + out.n) Λ').lab (Λ.backFrom m (m + out.n) Λ').w u y := by
    intro u y hy
    refine hy.keep fun b o _ _ hrd => ⟨?_, rfl⟩
    cases hh : Λ.high m b with
    | true =>
      obtain ⟨fr, g1, _, g3⟩ := hheap hh
      unfold Rd at hrd ⊢
      rw [g1] at hrd
      rw [hH hh]
      rcases g3 with ⟨k, e, _, rfl⟩ | ⟨k, e, _⟩
      · omega
      · rw [e]; exact hrd
    | false => unfold Rd; rw [hL hh]; exact hrd
  have hfro : ∀ {k : Nat}, k < Λ'.nxt → (Λ.backFrom m (m + out.n) Λ').fro k = Λ'.fro k := by
    intro k hk; rw [k2] at hk; simp [L.backFrom, hk]
  have hval : ∀ {u : Value} {y : V}, RelV Λ' u y → RelV (Λ.backFrom m (m + out.n) Λ') u y := by
    intro u y hy
    induction hy with
    | t h => exact .t (hrep h)
    | nils => exact .nils
    | @own v k sz xs h hsz hl hn ho =>
      refine .own (hrep h) hsz (by show k < Λ.nxt; omega) (by rw [hfro hl]; exact hn) fun he => ?_
      rcases ho (by rw [← hfro hl]; exact he) with ho | ⟨b, cap, arr, e, hv, hb', hh, hc, hn'⟩
      · exact .inl ho
      · exact .inr ⟨b, cap, arr, e, hv, harr hb', hh, hc, hn'⟩
    | slc hl hc h => exact .slc (by show _ < Λ.nxt; omega) hc (hobj h)
    | agg hs _ ih => exact .agg hs ih
    | tup hs _ ih => exact .tup hs ih
    | ptr hl h => exact .ptr (by show _ < Λ.nxt; omega) (hobj h)
    | mp hl h => exact .mp (by show _ < Λ.nxt; omega) (hobj h)
    | fn hs h => exact .fn hs fun j v c h1 h2 => let ⟨b, e1, e2, e3⟩ := h j v c h1 h2; ⟨b, e1, hobj e2, by show _ < Λ.nxt; omega⟩
    | gd _ h' ih => exact .gd ih h'
    | top => exact .top
    | ub h h' => exact .ub h h'
  have hname : ∀ {b k : Nat}, Λ.high m b = true → ((Λ.backFrom m (m + out.n) Λ').lab b = .obj k ∨ ∃ n, (Λ.backFrom m (m + out.n) Λ').lab b = .arr k n) → m + out.n ≤ k ∧ (Λ.lab b = .obj k ∨ ∃ n, Λ.lab b = .arr k n) := by
    intro b k hh hb
    rw [hH hh] at hb
    refine ⟨?_, hb⟩
    have hge : m ≤ k := by unfold L.high at hh; rcases hb with hb | ⟨n, hb⟩ <;> rw [hb] at hh <;> simpa using hh
    rcases Nat.lt_or_ge k (m + out.n) with h | h
    · have := (hfree k hge h).2.1
      rcases hb with hb | ⟨n, hb⟩
      · exact absurd hb (this.obj b)
      · exact absurd hb (this.arr b n)
    · exact h
  have hlowname : ∀ {b k : Nat}, Λ.high m b = false → ((Λ.backFrom m (m + out.n) Λ').lab b = .obj k ∨ ∃ n, (Λ.backFrom m (m + out.n) Λ').lab b = .arr k n) → k < m + out.n ∧ (Λ'.lab b = .obj k ∨ ∃ n, Λ'.lab b = .arr k n) := by
    intro b k hh hb
    rw [hL hh] at hb
    have := k3.bnd b k hb
    exact ⟨by omega, hb⟩
  refine ⟨v, Λ.backFrom m (m + out.n) Λ', rfl, rfl, hkp, rfl, ?_, hval k4, fun k hk hn hcase => ?_⟩
  · refine ⟨fun k o ho => ?_, fun b b' k h1 h2 => ?_, fun b hb => ?_, fun b k hb => ?_, fun k hk => ?_⟩
    · obtain ⟨g1, g2⟩ := k3.sto k o ho
      refine ⟨by show k < Λ.nxt; omega, ?_⟩
      cases o with
      | cells cs =>
        obtain ⟨b, arr, e, e1, e2, e3, e4⟩ := g2
        exact ⟨b, arr, e, hobj e1, e2, e3, fun j v c a1 a2 => hval (e4 j v c a1 a2)⟩
      | map kag es sx =>
        obtain ⟨b, ents, clock, e1, e2, e3⟩ := g2
        exact ⟨b, ents, clock, hobj e1, e2, e3.keep (fun _ _ h => hrep h) (fun _ _ _ _ h => hval h)⟩
      | arr n => unfold RelO at *; rw [hfro g1]; exact g2
    · cases hh : Λ.high m b with
      | true =>
        obtain ⟨q1, q2⟩ := hname hh (.inl h1)
        cases hh' : Λ.high m b' with
        | true =>
          rw [hH hh] at h1; rw [hH hh'] at h2
          exact hr.inj b b' k h1 h2
        | false => have := (hlowname hh' (.inl h2)).1; omega
      | false =>
        have q := (hlowname hh (.inl h1)).1
        cases hh' : Λ.high m b' with
        | true => have := (hname hh' (.inl h2)).1; omega
        | false => rw [hL hh] at h1; rw [hL hh'] at h2; exact k3.inj b b' k h1 h2
    · have hge : Λ.w.heap.size ≤ b := Nat.le_trans k1.fr.size hb
      have hh : Λ.high m b = false := by unfold L.high; rw [hr.new b hge]
      rw [hL hh]; exact k3.new b hb
    · show k < Λ.nxt
      cases hh : Λ.high m b with
      | true => exact hr.bnd b k (hname hh hb).2
      | false => have := (hlowname hh hb).1; omega
    · have hk' : Λ.nxt ≤ k := hk
      simp only [L.backFrom]
      rw [if_neg (by omega)]; exact hr.frz k hk'
  · rcases hcase with hge | ⟨hlt', hrd'⟩
    · refine ⟨fun b hb => ?_, fun b n hb => ?_, ?_⟩
      · cases hh : Λ.high m b with
        | true => rw [hH hh] at hb; exact hk.obj b hb
        | false => have := (hlowname hh (.inl hb)).1; omega
      · cases hh : Λ.high m b with
        | true => rw [hH hh] at hb; exact hk.arr b n hb
        | false => have := (hlowname hh (.inr ⟨n, hb⟩)).1; omega
      · simp only [L.backFrom]; rw [if_neg (by omega)]; exact hk.fro
    · rw [hrd] at hrd'; cases hrd'

/-- a call that is handed the whole store and leaves it as it is -/
theorem callSame {f : FuncId} {vs : List V} {x : V} {base : Nat} {sto : List (Nat × AObj)} {K : Out → Prop} (h : FnOk P f vs ⟨sto, base⟩ { v := x, rd := true }) (hb : V.bds base vs = true) (hs : stoBd base sto = true) (hk : K { v := x, rd := true }) : FnEv P f vs base sto K :=
  ⟨_, by simp only [if_true]; exact h.same rfl hb hs (by simp), hk⟩

/-- a call that changes objects -/
theorem callChg {f : FuncId} {vs : List V} {out : Out} {base : Nat} {sto : List (Nat × AObj)} {K : Out → Prop} (h : FnOk P f vs ⟨sto, base⟩ out) (hrd : out.rd = true) (hb : V.bds base vs = true) (hs : stoBd base sto = true) (hob : ∀ k o, (k, o) ∈ out.ob → aget sto k ≠ none ∨ (base ≤ k ∧ k < base + out.n)) (hk : K out) : FnEv P f vs base sto K :=
  ⟨_, by simp only [hrd, if_true]; exact h.same hrd hb hs hob, hk⟩

/-- a library function of which a contract says that it leaves the world -/
theorem FnOk.of_calls {f : FuncId} {vs : List V} {s : S} {x : V} {rd : Bool} (hb : HasB P f) (h : ∀ (Λ : L) (args : Array Value), RelS Λ s → args.size = vs.length → (∀ (j : Nat) (v : Value) (y : V), args[j]? = some v → vs[j]? = some y → RelV Λ v y) → ∃ r, RelV Λ r x ∧ Calls P f args Λ.w fun e w' => e = .returned r ∧ w' = Λ.w) (hs : s.sto = [] ) : FnOk P f vs s { v := x, rd := rd } := by
  refine ⟨hb, fun Λ args hr hx hsz hargs => ?_⟩
  obtain ⟨r, h1, h2⟩ := h Λ args hr hsz hargs
  refine h2.mono fun e w' he => ?_
  obtain ⟨rfl, rfl⟩ := he
  exact ⟨r, Λ, rfl, rfl, Kp.refl _, by simp [hx], ⟨by simp [hs, asets, aget], hr.inj, hr.new, hr.bnd, hr.frz⟩, h1⟩

end
end Go.GB

/-
  GbYe: objects that are lists, and maps of a type, without names in them.
-/
namespace Go.GB
def mE {κ ν : Type} (ek : κ → List T) (ev : ν → T) (l : List (κ × ν)) : List (List T × V) := l.map fun e => (ek e.1, .t (ev e.2))
def cE {ν : Type} (ev : ν → T) (l : List ν) : List V := l.map fun x => .t (ev x)
theorem V.bds_cE {ν : Type} (m : Nat) (ev : ν → T) : ∀ (l : List ν), V.bds m (cE ev l) = true
  | [] => rfl
  | x :: r => by have := V.bds_cE m ev r; simp only [cE] at this; simp [cE, V.bds, V.bd, this]
theorem AObj.bd_cE {ν : Type} (m : Nat) (ev : ν → T) (l : List ν) : (AObj.cells (cE ev l)).bd m = true := V.bds_cE m ev l
theorem AObj.bd_mE {κ ν : Type} (m : Nat) (kag : Bool) (ek : κ → List T) (ev : ν → T) (l : List (κ × ν)) (sx : Option (Nat × List Nat)) : (AObj.map kag (mE ek ev l) sx).bd m = true := by
  have := V.bds_cE m (fun e : κ × ν => ev e.2) l
  simp only [cE] at this
  simp only [AObj.bd, mE, List.map_map, Function.comp_def]; exact this
theorem LeXs.cE {ν : Type} {m m' : Nat} {ev : ν → T} {l l' : List ν} (h : l = l') : LeXs m m' (cE ev l) (cE ev l') := h ▸ .same (V.bds_cE m ev l)
theorem LeO.cE {ν : Type} {m m' : Nat} {ev : ν → T} {l l' : List ν} (h : l = l') : LeO m m' (.cells (cE ev l)) (.cells (cE ev l')) := .cells (.cE h)
theorem LeO.mE {κ ν : Type} {m m' : Nat} {kag : Bool} {ek : κ → List T} {ev : ν → T} {l l' : List (κ × ν)} {sx sx' : Option (Nat × List Nat)} (h : l = l') (hs : sx' = none ∨ sx' = sx) : LeO m m' (.map kag (mE ek ev l) sx) (.map kag (mE ek ev l') sx') := by
  subst h
  have := V.bds_cE m (fun e : κ × ν => ev e.2) l
  simp only [Go.GB.cE] at this
  exact .map rfl (by simp only [Go.GB.mE, List.map_map, Function.comp_def]; exact .same this) hs

end Go.GB

/-
  GbYr: calls in bigger stores: the callee knows some of the caller's objects, by its own names.
-/
namespace Go.GB
section
variable {P : Program}

mutual
/-- a value under other names -/
def V.ren (ρ : Nat → Nat) : V → V
  | .t x => .t x
  | .nils => .nils
  | .top => .top
  | .own k sz xs => .own (ρ k) sz xs
  | .slc k o l s => .slc (ρ k) o l s
  | .ptr k o => .ptr (ρ k) o
  | .mp k => .mp (ρ k)
  | .fn f cs => .fn f (cs.map fun c => (ρ c.1, c.2))
  | .agg cs => .agg (V.rens ρ cs)
  | .tup cs => .tup (V.rens ρ cs)
  | .gd c x => .gd c (x.ren ρ)
  | .ub c d => .ub c d
def V.rens (ρ : Nat → Nat) : List V → List V
  | [] => []
  | x :: r => x.ren ρ :: V.rens ρ r
end
theorem V.rens_eq (ρ : Nat → Nat) : ∀ (cs : List V), V.rens ρ cs = cs.map (V.ren ρ)
  | [] => rfl
  | x :: r => by simp [V.rens, V.rens_eq ρ r]

def AObj.ren (ρ : Nat → Nat) : AObj → AObj
  | .cells cs => .cells (V.rens ρ cs)
  | .map kag es st => .map kag (es.map fun e => (e.1, e.2.ren ρ)) st
  | .arr n => .arr n

structure Rn (ρ : Nat → Nat) (σ : Nat → Option Nat) (m1 m n : Nat) : Prop where
  inv : ∀ k j, σ k = some j → ρ j = k ∧ j < m1 + n
  at_ : ∀ j, j < m1 + n → σ (ρ j) = some j
  low : ∀ j, j < m1 → ρ j < m
  new : ∀ j, m1 ≤ j → j < m1 + n → ρ j = m + (j - m1)

/-- what the callee sees -/
def L.view (Λ : L) (ρ : Nat → Nat) (σ : Nat → Option Nat) (m1 : Nat) : L where
  lab := fun b => match Λ.lab b with
    | .obj k => match σ k with | some j => .obj j | none => .fix (some 0)
    | .arr k fr => match σ k with | some j => .arr j fr | none => .fix (some fr)
    | x => x
  fro := fun j => if j < m1 then Λ.fro (ρ j) else 0
  nxt := m1
  w := Λ.w

/-- a block that the callee does not see as an object -/
def L.hid (Λ : L) (σ : Nat → Option Nat) (b : Nat) : Bool :=
  match Λ.lab b with
  | .obj k => (σ k).isNone
  | .arr k _ => (σ k).isNone
  | _ => false

def Lab.ren (ρ : Nat → Nat) : Lab → Lab
  | .obj k => .obj (ρ k)
  | .arr k fr => .arr (ρ k) fr
  | x => x

/-- the caller's labels behind the call -/
def L.unview (Λ : L) (ρ : Nat → Nat) (σ : Nat → Option Nat) (Λ' : L) : L where
  lab := fun b => if Λ.hid σ b then Λ.lab b else (Λ'.lab b).ren ρ
  fro := fun k => match σ k with | some j => Λ'.fro j | none => Λ.fro k
  nxt := Λ.nxt
  w := Λ'.w

variable {ρ : Nat → Nat} {σ : Nat → Option Nat} {m1 m n : Nat}

theorem view_hid {Λ : L} {b : Nat} (h : Λ.hid σ b = true) : ∃ fr, (Λ.view ρ σ m1).lab b = .fix (some fr) ∧ ((∃ k, Λ.lab b = .obj k ∧ σ k = none ∧ fr = 0) ∨ ∃ k, Λ.lab b = .arr k fr ∧ σ k = none) := by
  unfold L.hid at h
  simp only [L.view]
  cases hl : Λ.lab b with
  | fix fr => rw [hl] at h; simp at h
  | obj k => rw [hl] at h; simp at h; exact ⟨0, by simp [h], .inl ⟨k, rfl, h, rfl⟩⟩
  | arr k fr => rw [hl] at h; simp at h; exact ⟨fr, by simp [h], .inr ⟨k, rfl, h⟩⟩
theorem view_obj {Λ : L} {b k j : Nat} (h : Λ.lab b = .obj k) (hk : σ k = some j) : (Λ.view ρ σ m1).lab b = .obj j := by simp [L.view, h, hk]
theorem view_arr {Λ : L} {b k j fr : Nat} (h : Λ.lab b = .arr k fr) (hk : σ k = some j) : (Λ.view ρ σ m1).lab b = .arr j fr := by simp [L.view, h, hk]
theorem view_fix {Λ : L} {b : Nat} {fr : Option Nat} (h : Λ.lab b = .fix fr) : (Λ.view ρ σ m1).lab b = .fix fr := by simp [L.view, h]
theorem view_obj_inv {Λ : L} {b j : Nat} (h : (Λ.view ρ σ m1).lab b = .obj j) : ∃ k, Λ.lab b = .obj k ∧ σ k = some j := by
  simp only [L.view] at h
  cases hl : Λ.lab b with
  | fix fr => simp [hl] at h
  | obj k => simp only [hl] at h; split at h <;> simp_all
  | arr k fr => simp only [hl] at h; split at h <;> simp_all
theorem view_arr_inv {Λ : L} {b j fr : Nat} (h : (Λ.view ρ σ m1).lab b = .arr j fr) : ∃ k, Λ.lab b = .arr k fr ∧ σ k = some j := by
  simp only [L.view] at h
  cases hl : Λ.lab b with
  | fix fr => simp [hl] at h
  | obj k => simp only [hl] at h; split at h <;> simp_all
  | arr k fr => simp only [hl] at h; split at h <;> simp_all
theorem view_rd {Λ : L} {b o : Nat} (h : Rd Λ.lab b o) : Rd (Λ.view ρ σ m1).lab b o := by
  unfold Rd at *
  cases hl : Λ.lab b with
  | fix fr => rw [view_fix hl]; rw [hl] at h; exact h
  | obj k => rw [hl] at h; exact h.elim
  | arr k fr =>
    rw [hl] at h
    cases hk : σ k with
    | some j => rw [view_arr hl hk]; exact h
    | none => simp only [L.view, hl, hk]; exact h
theorem RepT.view {Λ : L} {v : Value} {x : T} (h : RepT Λ.lab Λ.w v x) : RepT (Λ.view ρ σ m1).lab (Λ.view ρ σ m1).w v x := h.keep fun _ _ _ _ hr => ⟨view_rd hr, rfl⟩

theorem RelV.view (hn : Rn ρ σ m1 m n) {Λ : L} {v : Value} {y : V} (h : RelV Λ v y) : ∀ {x : V}, x.ren ρ = y → x.bd m1 = true → RelV (Λ.view ρ σ m1) v x := by
  induction h with
  | t h => intro x hx hb; cases x <;> simp [V.ren] at hx; subst hx; exact .t h.view
  | nils => intro x hx hb; cases x <;> simp [V.ren] at hx; exact .nils
  | @own v k sz xs h hsz hl hm ho =>
    intro x hx hb; cases x <;> simp [V.ren] at hx
    rename_i j sz' xs'
    obtain ⟨e1, rfl, rfl⟩ := hx
    have hj : j < m1 := by simpa [V.bd] using hb
    have hf : (Λ.view ρ σ m1).fro j = Λ.fro k := by simp [L.view, hj, e1]
    have hs : σ k = some j := by rw [← e1]; exact hn.at_ j (by omega)
    refine .own h.view hsz hj (by rw [hf]; exact hm) fun he => ?_
    rcases ho (by rw [← hf]; exact he) with ho | ⟨b, cap, arr, e, hv, hb', hh, hc, hn'⟩
    · exact .inl ho
    · exact .inr ⟨b, cap, arr, e, hv, view_arr hb' hs, hh, hc, hn'⟩
  | @slc b k off len cap sz hl hc h =>
    intro x hx hb; cases x <;> simp [V.ren] at hx
    rename_i j _ _ _
    obtain ⟨e1, rfl, rfl, rfl⟩ := hx
    have hj : j < m1 := by simpa [V.bd] using hb
    exact .slc hj hc (view_obj h (by rw [← e1]; exact hn.at_ j (by omega)))
  | @agg vs cs hs hv ih =>
    intro x hx hb; cases x <;> simp [V.ren] at hx
    rename_i ds
    rw [V.rens_eq] at hx; subst hx
    refine .agg (by simpa using hs) fun j v c h1 h2 => ih j v (c.ren ρ) h1 (by simp [h2]) rfl (V.bds_at (by simpa [V.bd] using hb) j c h2)
  | @tup vs cs hs hv ih =>
    intro x hx hb; cases x <;> simp [V.ren] at hx
    rename_i ds
    rw [V.rens_eq] at hx; subst hx
    refine .tup (by simpa using hs) fun j v c h1 h2 => ih j v (c.ren ρ) h1 (by simp [h2]) rfl (V.bds_at (by simpa [V.bd] using hb) j c h2)
  | @ptr b k off hl h =>
    intro x hx hb; cases x <;> simp [V.ren] at hx
    rename_i j _
    obtain ⟨e1, rfl⟩ := hx
    have hj : j < m1 := by simpa [V.bd] using hb
    exact .ptr hj (view_obj h (by rw [← e1]; exact hn.at_ j (by omega)))
  | @mp b k hl h =>
    intro x hx hb; cases x <;> simp [V.ren] at hx
    rename_i j
    have hj : j < m1 := by simpa [V.bd] using hb
    exact .mp hj (view_obj h (by rw [← hx]; exact hn.at_ j (by omega)))
  | @fn f vs cs hs h =>
    intro x hx hb; cases x <;> simp [V.ren] at hx
    obtain ⟨rfl, rfl⟩ := hx
    rename_i ds
    refine .fn (by simpa using hs) fun j v c h1 h2 => ?_
    obtain ⟨b, e1, e2, e3⟩ := h j v (ρ c.1, c.2) h1 (by simp only [List.getElem?_map, h2, Option.map_some])
    have hk : c.1 < m1 := by
      simp only [V.bd, List.all_eq_true, decide_eq_true_eq] at hb
      exact hb c (List.mem_of_getElem? h2)
    exact ⟨b, e1, view_obj e2 (hn.at_ c.1 (by omega)), hk⟩
  | gd _ h' ih =>
    intro x hx hb; cases x <;> simp [V.ren] at hx
    obtain ⟨rfl, e⟩ := hx
    exact .gd (fun hc => ih hc e (by simpa [V.bd] using hb)) h'
  | top => intro x hx hb; cases x <;> simp [V.ren] at hx; exact .top
  | ub h h' => intro x hx hb; cases x <;> simp only [V.ren, V.ub.injEq, reduceCtorEq] at hx; obtain ⟨rfl, rfl⟩ := hx; exact .ub h h'

theorem aget_asets_ren (hn : Rn ρ σ m1 m n) : ∀ (ob : List (Nat × AObj)) (s s1 : List (Nat × AObj)), (∀ j, j < m1 + n → aget s (ρ j) = (aget s1 j).map (AObj.ren ρ)) → (∀ j o, (j, o) ∈ ob → j < m1 + n) →
    (∀ j, j < m1 + n → aget (asets s (ob.map fun e => (ρ e.1, e.2.ren ρ))) (ρ j) = (aget (asets s1 ob) j).map (AObj.ren ρ)) ∧ (∀ k, σ k = none → aget (asets s (ob.map fun e => (ρ e.1, e.2.ren ρ))) k = aget s k)
  | [], s, s1, h, _ => ⟨h, fun _ _ => rfl⟩
  | (i, o) :: r, s, s1, h, hb => by
    simp only [List.map_cons, asets]
    have hi : i < m1 + n := hb i o (by simp)
    obtain ⟨g1, g2⟩ := aget_asets_ren hn r (aset s (ρ i) (o.ren ρ)) (aset s1 i o) (fun j hj => by
      rw [aget_aset, aget_aset]
      by_cases e : i = j
      · subst e; simp
      · have : ρ i ≠ ρ j := by
          intro e'
          have h1 := hn.at_ i hi
          have h2 := hn.at_ j hj
          rw [e', h2] at h1
          simp at h1; exact e h1.symm
        simp only [e, this, if_false]; exact h j hj) (fun j o hj => hb j o (by simp [hj]))
    refine ⟨g1, fun k hk => ?_⟩
    rw [g2 k hk, aget_aset]
    have : ρ i ≠ k := by rintro rfl; rw [hn.at_ i hi] at hk; cases hk
    simp [this]

theorem FnOk.ren {out : Out} (hn : Rn ρ σ m1 m out.n) {f : FuncId} {vs : List V} {sto s1 : List (Nat × AObj)} (h : FnOk P f vs ⟨s1, m1⟩ out) (hb : V.bds m1 vs = true) (hs : stoBd m1 s1 = true)
    (hsub : ∀ j, j < m1 → aget sto (ρ j) = (aget s1 j).map (AObj.ren ρ)) (hob : ∀ k o, (k, o) ∈ out.ob → k < m1 + out.n ∧ (aget s1 k ≠ none ∨ m1 ≤ k)) :
    FnAt P f (V.rens ρ vs) m sto { v := out.v.ren ρ, ob := out.ob.map fun e => (ρ e.1, e.2.ren ρ), n := out.n, rd := true } := by
  refine ⟨h.1, fun k o hk => ?_, fun Λ args hr hle hfree hsz hargs => ?_⟩
  · simp only [List.mem_map] at hk
    obtain ⟨⟨j, o'⟩, hj, e⟩ := hk
    simp at e
    obtain ⟨rfl, rfl⟩ := e
    obtain ⟨h1, h2⟩ := hob j o' hj
    by_cases hj1 : j < m1
    · left
      rcases h2 with h2 | h2
      · rw [hsub j hj1]; simpa using h2
      · omega
    · right
      have := hn.new j (by omega) h1
      show m ≤ ρ j ∧ ρ j < m + out.n
      omega
  simp only at hle hfree
  -- names that are new bear nothing
  have hfresh : ∀ {b k j : Nat}, σ k = some j → (Λ.lab b = .obj k ∨ ∃ fr, Λ.lab b = .arr k fr) → j < m1 := by
    intro b k j hk hl
    obtain ⟨e, hj⟩ := hn.inv k j hk
    rcases Nat.lt_or_ge j m1 with h | h
    · exact h
    · have e2 := hn.new j h hj
      have := (hfree k (by omega) (by omega)).2.1
      rcases hl with hl | ⟨fr, hl⟩
      · exact absurd hl (this.obj b)
      · exact absurd hl (this.arr b fr)
  have hr1 : RelS (Λ.view ρ σ m1) ⟨s1, m1⟩ := by
    refine ⟨fun j o hj => ?_, fun b b' j h1 h2 => ?_, fun b hb => ?_, fun b j hb => ?_, fun j hj => ?_⟩
    · obtain ⟨h1, h2⟩ := stoBd_at hs j o hj
      refine ⟨h1, ?_⟩
      have hro := (hr.sto (ρ j) (o.ren ρ) (by rw [hsub j h1, hj]; rfl)).2
      have hs' := hn.at_ j (by omega)
      cases o with
      | cells cs =>
        obtain ⟨b, arr, e, e1, e2, e3, e4⟩ := hro
        rw [V.rens_eq] at e3 e4
        exact ⟨b, arr, e, view_obj e1 hs', e2, by simpa using e3, fun i v c a1 a2 => (e4 i v (c.ren ρ) a1 (by simp [a2])).view hn rfl (V.bds_at (by simpa [AObj.bd] using h2) i c a2)⟩
      | map kag es sx =>
        obtain ⟨b, ents, clock, e1, e2, e3⟩ := hro
        refine ⟨b, ents, clock, view_obj e1 hs', e2, ⟨by simpa using e3.size, fun i e kv a1 a2 => ?_, e3.born, e3.apart, e3.known⟩⟩
        obtain ⟨g1, g2⟩ := e3.at_ i e (kv.1, kv.2.ren ρ) a1 (by simp [a2])
        exact ⟨g1.keep fun _ _ h => h.view, g2.view hn rfl (V.bds_at (by simpa [AObj.bd] using h2) i kv.2 (by simp [a2]))⟩
      | arr n => have hro' : Λ.fro (ρ j) = n := hro
                 unfold RelO; simp [L.view, h1, hro']
    · obtain ⟨k, a1, a2⟩ := view_obj_inv h1
      obtain ⟨k', b1, b2⟩ := view_obj_inv h2
      have := (hn.inv _ _ a2).1
      have := (hn.inv _ _ b2).1
      subst_vars
      exact hr.inj b b' _ a1 b1
    · exact view_fix (hr.new b hb)
    · rcases hb with hb | ⟨fr, hb⟩
      · obtain ⟨k, a1, a2⟩ := view_obj_inv hb; exact hfresh a2 (.inl a1)
      · obtain ⟨k, a1, a2⟩ := view_arr_inv hb; exact hfresh a2 (.inr ⟨_, a1⟩)
    · have hj' : m1 ≤ j := hj
      simp [L.view]; omega
  refine (h.2 (Λ.view ρ σ m1) args hr1 rfl (by rw [hsz, V.rens_eq]; simp) fun j v y h1 h2 => (hargs j v (y.ren ρ) h1 (by rw [V.rens_eq]; simp [h2])).view hn rfl (V.bds_at hb j y h2)).mono fun e w' he => ?_
  obtain ⟨v, Λ', rfl, rfl, k1, k2, k3, k4⟩ := he
  simp only at k2 k3
  have hlt : ∀ {b : Nat}, Λ.hid σ b = true → b < Λ.w.heap.size := by
    intro b hh
    rcases Nat.lt_or_ge b Λ.w.heap.size with h | h
    · exact h
    · unfold L.hid at hh; rw [hr.new b h] at hh; simp at hh
  have hH : ∀ {b : Nat}, Λ.hid σ b = true → (Λ.unview ρ σ Λ').lab b = Λ.lab b := fun h => by simp [L.unview, h]
  have hL : ∀ {b : Nat}, Λ.hid σ b = false → (Λ.unview ρ σ Λ').lab b = (Λ'.lab b).ren ρ := fun h => by simp [L.unview, h]
  have hheap : ∀ {b : Nat}, Λ.hid σ b = true → ∃ fr, Λ'.lab b = .fix (some fr) ∧ Λ'.w.heap[b]? = Λ.w.heap[b]? ∧ ((∃ k, Λ.lab b = .obj k ∧ σ k = none ∧ fr = 0) ∨ ∃ k, Λ.lab b = .arr k fr ∧ σ k = none) := by
    intro b hh
    obtain ⟨fr, e1, e2⟩ := view_hid (ρ := ρ) (m1 := m1) hh
    obtain ⟨g1, g2⟩ := k1.fr.fix b (hlt hh) _ e1
    exact ⟨fr, g1, g2, e2⟩
  have hvis : ∀ {b k j : Nat}, σ k = some j → (Λ.lab b = .obj k ∨ ∃ fr, Λ.lab b = .arr k fr) → Λ.hid σ b = false := by
    intro b k j hk hb
    unfold L.hid
    rcases hb with hb | ⟨fr, hb⟩ <;> rw [hb] <;> simp [hk]
  have hfix : ∀ {b : Nat} {fr : Option Nat}, Λ.lab b = .fix fr → Λ.hid σ b = false := by
    intro b fr hb; unfold L.hid; rw [hb]
  have rdren : ∀ {b o : Nat} {l : Nat → Lab}, l b = (Λ'.lab b).ren ρ → Rd Λ'.lab b o → Rd l b o := by
    intro b o l e h
    unfold Rd at *
    rw [e]
    cases hl : Λ'.lab b <;> rw [hl] at h <;> simp only [Lab.ren] <;> exact h
  have hkp : Kp Λ (Λ.unview ρ σ Λ') := by
    refine ⟨⟨k1.fr.os, k1.fr.tape, k1.fr.output, k1.fr.size, fun b hb fr hl => ?_, fun b hb k fr hl o ho => ?_⟩, Nat.le_refl _, fun b k _ hl => ?_, fun b k n _ hb hl hf => ?_, fun k hk => ?_⟩
    · obtain ⟨g1, g2⟩ := k1.fr.fix b hb fr (view_fix hl)
      exact ⟨by rw [hL (hfix hl), g1]; rfl, g2⟩
    · cases hk : σ k with
      | none =>
        have hh : Λ.hid σ b = true := by unfold L.hid; rw [hl]; simp [hk]
        obtain ⟨fr', g1, g2, g3⟩ := hheap hh
        exact ⟨by unfold Rd; rw [hH hh, hl]; exact ho, cell?_heap g2⟩
      | some j =>
        have hh := hvis hk (.inr ⟨_, hl⟩)
        obtain ⟨g1, g2⟩ := k1.fr.arr b hb j fr (view_arr hl hk) o ho
        exact ⟨rdren (hL hh) g1, g2⟩
    · cases hk : σ k with
      | none => rw [hH (by unfold L.hid; rw [hl]; simp [hk])]; exact hl
      | some j =>
        rw [hL (hvis hk (.inl hl)), k1.obj b j (hfresh hk (.inl hl)) (view_obj hl hk)]
        simp only [Lab.ren, (hn.inv k j hk).1]
    · cases hk : σ k with
      | none =>
        have hh : Λ.hid σ b = true := by unfold L.hid; rw [hl]; simp [hk]
        obtain ⟨fr', g1, g2, g3⟩ := hheap hh
        exact ⟨by rw [hH hh]; exact hl, g2⟩
      | some j =>
        have hj := hfresh hk (.inr ⟨_, hl⟩)
        have e1 : (Λ.view ρ σ m1).fro j = Λ.fro k := by simp [L.view, hj, (hn.inv k j hk).1]
        have e2 : (Λ.unview ρ σ Λ').fro k = Λ'.fro j := by simp [L.unview, hk]
        obtain ⟨g1, g2⟩ := k1.own b j n hj hb (view_arr hl hk) (by rw [← e2, hf, e1])
        exact ⟨by rw [hL (hvis hk (.inr ⟨_, hl⟩)), g1]; simp only [Lab.ren, (hn.inv k j hk).1], g2⟩
    · cases hk' : σ k with
      | none => simp [L.unview, hk']
      | some j =>
        obtain ⟨e1, e2⟩ := hn.inv k j hk'
        simp only [L.unview, hk']
        by_cases hj : j < m1
        · have := k1.fro j hj
          simpa [L.view, hj, e1] using this
        · have e3 := hn.new j (by omega) e2
          rw [(hfree k (by omega) (by omega)).2.1.fro]; omega
  have hobj : ∀ {b j : Nat}, Λ'.lab b = .obj j → (Λ.unview ρ σ Λ').lab b = .obj (ρ j) := by
    intro b k hb
    cases hh : Λ.hid σ b with
    | true => obtain ⟨fr, g1, _⟩ := hheap hh; rw [g1] at hb; simp at hb
    | false => rw [hL hh, hb]; rfl
  have harr : ∀ {b j n : Nat}, Λ'.lab b = .arr j n → (Λ.unview ρ σ Λ').lab b = .arr (ρ j) n := by
    intro b k n hb
    cases hh : Λ.hid σ b with
    | true => obtain ⟨fr, g1, _⟩ := hheap hh; rw [g1] at hb; simp at hb
    | false => rw [hL hh, hb]; rfl
  have hrep : ∀ {u : Value} {y : T}, RepT Λ'.lab Λ'.w u y → RepT (Λ.unview ρ σ Λ').lab (Λ.unview ρ σ Λ').w u y := by
    intro u y hy
    refine hy.keep fun b o _ _ hrd => ⟨?_, rfl⟩
    cases hh : Λ.hid σ b with
    | true =>
      obtain ⟨fr, g1, _, g3⟩ := hheap hh
      unfold Rd at hrd ⊢
      rw [g1] at hrd
      rw [hH hh]
      rcases g3 with ⟨k, e, _, rfl⟩ | ⟨k, e, _⟩
      · simp at hrd
      · rw [e]; exact hrd
    | false => exact rdren (hL hh) hrd
  have hfro : ∀ {j : Nat}, j < m1 + out.n → (Λ.unview ρ σ Λ').fro (ρ j) = Λ'.fro j := by
    intro j hj; simp [L.unview, hn.at_ j hj]
  have hρ : ∀ {j : Nat}, j < m1 + out.n → ρ j < Λ.nxt := by
    intro j hj
    by_cases h1 : j < m1
    · have := hn.low j h1; omega
    · have := hn.new j (by omega) hj; omega
  have hval : ∀ {u : Value} {y : V}, RelV Λ' u y → RelV (Λ.unview ρ σ Λ') u (y.ren ρ) := by
    intro u y hy
    induction hy with
    | t h => exact .t (hrep h)
    | nils => exact .nils
    | @own v k sz xs h hsz hl hn' ho =>
      rw [k2] at hl
      refine .own (hrep h) hsz (hρ hl) (by rw [hfro hl]; exact hn') fun he => ?_
      rcases ho (by rw [← hfro hl]; exact he) with ho | ⟨b, cap, arr, e, hv, hb', hh, hc, hn'⟩
      · exact .inl ho
      · exact .inr ⟨b, cap, arr, e, hv, harr hb', hh, hc, hn'⟩
    | slc hl hc h => exact .slc (hρ (by omega)) hc (hobj h)
    | agg hs _ ih =>
      refine .agg (by rw [V.rens_eq]; simpa using hs) fun j v c h1 h2 => ?_
      rw [V.rens_eq, List.getElem?_map, Option.map_eq_some_iff] at h2
      obtain ⟨c', h3, rfl⟩ := h2
      exact ih j v c' h1 h3
    | tup hs _ ih =>
      refine .tup (by rw [V.rens_eq]; simpa using hs) fun j v c h1 h2 => ?_
      rw [V.rens_eq, List.getElem?_map, Option.map_eq_some_iff] at h2
      obtain ⟨c', h3, rfl⟩ := h2
      exact ih j v c' h1 h3
    | ptr hl h => exact .ptr (hρ (by omega)) (hobj h)
    | mp hl h => exact .mp (hρ (by omega)) (hobj h)
    | fn hs h =>
      refine .fn (by simpa using hs) fun j v c h1 h2 => ?_
      rw [List.getElem?_map, Option.map_eq_some_iff] at h2
      obtain ⟨c', h3, rfl⟩ := h2
      obtain ⟨b, e1, e2, e3⟩ := h j v c' h1 h3
      exact ⟨b, e1, hobj e2, hρ (by omega)⟩
    | gd _ h' ih => exact .gd ih h'
    | top => exact .top
    | ub h h' => exact .ub h h'
  have hname : ∀ {b k : Nat}, Λ.hid σ b = true → ((Λ.unview ρ σ Λ').lab b = .obj k ∨ ∃ n, (Λ.unview ρ σ Λ').lab b = .arr k n) → σ k = none ∧ (Λ.lab b = .obj k ∨ ∃ n, Λ.lab b = .arr k n) := by
    intro b k hh hb
    rw [hH hh] at hb
    refine ⟨?_, hb⟩
    unfold L.hid at hh; rcases hb with hb | ⟨n, hb⟩ <;> rw [hb] at hh <;> simpa using hh
  have hseen : ∀ {b k : Nat}, Λ.hid σ b = false → ((Λ.unview ρ σ Λ').lab b = .obj k ∨ ∃ n, (Λ.unview ρ σ Λ').lab b = .arr k n) → ∃ j, ρ j = k ∧ j < m1 + out.n ∧ (Λ'.lab b = .obj j ∨ ∃ n, Λ'.lab b = .arr j n) := by
    intro b k hh hb
    rw [hL hh] at hb
    cases hl : Λ'.lab b with
    | fix fr => rw [hl] at hb; simp [Lab.ren] at hb
    | obj j => rw [hl] at hb; simp [Lab.ren] at hb; have := k3.bnd b j (.inl hl); exact ⟨j, hb, by omega, .inl rfl⟩
    | arr j n => rw [hl] at hb; simp [Lab.ren] at hb; have := k3.bnd b j (.inr ⟨n, hl⟩); exact ⟨j, hb, by omega, .inr ⟨n, rfl⟩⟩
  obtain ⟨ag1, ag2⟩ := aget_asets_ren hn out.ob sto s1 (fun j hj => by
    by_cases h1 : j < m1
    · exact hsub j h1
    · have e3 := hn.new j (by omega) hj
      rw [(hfree (ρ j) (by omega) (by omega)).2.2]
      cases ha : aget s1 j with
      | none => rfl
      | some o => have := (stoBd_at hs j o ha).1; omega) (fun j o hj => (hob j o hj).1)
  refine ⟨v, Λ.unview ρ σ Λ', rfl, rfl, hkp, rfl, ?_, hval k4, fun k hk _ hcase => ?_⟩
  · refine ⟨fun k o ho => ?_, fun b b' k h1 h2 => ?_, fun b hb => ?_, fun b k hb => ?_, fun k hk => ?_⟩
    · cases hk : σ k with
      | none =>
        have ho' : aget sto k = some o := by rw [← ag2 k hk]; exact ho
        obtain ⟨g1, g2⟩ := hr.sto k o ho'
        refine ⟨g1, g2.mono hkp g1 (fun b hb => ?_) (by simp [L.unview, hk])⟩
        obtain ⟨fr, q1, q2, _⟩ := hheap (b := b) (by unfold L.hid; rw [hb]; simp [hk])
        exact q2
      | some j =>
        obtain ⟨e1, e2⟩ := hn.inv k j hk
        subst e1
        have ho' : aget (asets sto (out.ob.map fun e => (ρ e.1, e.2.ren ρ))) (ρ j) = some o := ho
        rw [ag1 j e2, Option.map_eq_some_iff] at ho'
        obtain ⟨o1, a1, rfl⟩ := ho'
        obtain ⟨g1, g2⟩ := k3.sto j o1 a1
        refine ⟨hρ e2, ?_⟩
        cases o1 with
        | cells cs =>
          obtain ⟨b, arr, e, e1, e2, e3, e4⟩ := g2
          refine ⟨b, arr, e, hobj e1, e2, by rw [V.rens_eq]; simpa using e3, fun i v c a1 a2 => ?_⟩
          rw [V.rens_eq, List.getElem?_map, Option.map_eq_some_iff] at a2
          obtain ⟨c', a3, rfl⟩ := a2
          exact hval (e4 i v c' a1 a3)
        | map kag es sx =>
          obtain ⟨b, ents, clock, e1, e2, e3⟩ := g2
          refine ⟨b, ents, clock, hobj e1, e2, ⟨by simpa using e3.size, fun i e kv a1 a2 => ?_, e3.born, e3.apart, e3.known⟩⟩
          rw [List.getElem?_map, Option.map_eq_some_iff] at a2
          obtain ⟨kv', a3, rfl⟩ := a2
          obtain ⟨q1, q2⟩ := e3.at_ i e kv' a1 a3
          exact ⟨q1.keep fun _ _ h => hrep h, hval q2⟩
        | arr n' =>
          unfold RelO at *
          simp only [AObj.ren]
          rw [hfro e2]; exact g2
    · cases hh : Λ.hid σ b with
      | true =>
        obtain ⟨q1, q2⟩ := hname hh (.inl h1)
        cases hh' : Λ.hid σ b' with
        | true =>
          rw [hH hh] at h1; rw [hH hh'] at h2
          exact hr.inj b b' k h1 h2
        | false =>
          obtain ⟨j, e1, e2, _⟩ := hseen hh' (.inl h2)
          rw [← e1, hn.at_ j e2] at q1; cases q1
      | false =>
        obtain ⟨j, e1, e2, _⟩ := hseen hh (.inl h1)
        cases hh' : Λ.hid σ b' with
        | true =>
          obtain ⟨q1, _⟩ := hname hh' (.inl h2)
          rw [← e1, hn.at_ j e2] at q1; cases q1
        | false =>
          rw [hL hh] at h1; rw [hL hh'] at h2
          cases hl : Λ'.lab b <;> rw [hl] at h1 <;> simp [Lab.ren] at h1
          cases hl' : Λ'.lab b' <;> rw [hl'] at h2 <;> simp [Lab.ren] at h2
          rename_i j1 j2
          have b1 := k3.bnd b j1 (.inl hl)
          have b2 := k3.bnd b' j2 (.inl hl')
          have c1 := hn.at_ j1 (by omega)
          have c2 := hn.at_ j2 (by omega)
          rw [h1] at c1; rw [h2, c1] at c2
          simp at c2; subst c2
          exact k3.inj b b' j1 hl hl'
    · have hge : Λ.w.heap.size ≤ b := Nat.le_trans k1.fr.size hb
      rw [hL (hfix (hr.new b hge)), k3.new b hb]; rfl
    · show k < Λ.nxt
      cases hh : Λ.hid σ b with
      | true => exact hr.bnd b k (hname hh hb).2
      | false => obtain ⟨j, rfl, e2, _⟩ := hseen hh hb; exact hρ e2
    · have hk' : Λ.nxt ≤ k := hk
      cases hs : σ k with
      | none => simp only [L.unview, hs]; exact hr.frz k hk'
      | some j => obtain ⟨rfl, e2⟩ := hn.inv k j hs; have := hρ e2; omega
  · have hge : m + out.n ≤ k := by
      rcases hcase with h | ⟨_, h⟩
      · exact h
      · cases h
    have hs0 : σ k = none := by
      cases hs : σ k with
      | none => rfl
      | some j =>
        obtain ⟨rfl, e2⟩ := hn.inv k j hs
        by_cases h1 : j < m1
        · have := hn.low j h1; omega
        · have := hn.new j (by omega) e2; omega
    refine ⟨fun b hb => ?_, fun b n hb => ?_, by simp only [L.unview, hs0]; exact hk.fro⟩
    · cases hh : Λ.hid σ b with
      | true => rw [hH hh] at hb; exact hk.obj b hb
      | false => obtain ⟨j, e1, e2, _⟩ := hseen hh (.inl hb); rw [← e1, hn.at_ j e2] at hs0; cases hs0
    · cases hh : Λ.hid σ b with
      | true => rw [hH hh] at hb; exact hk.arr b n hb
      | false => obtain ⟨j, e1, e2, _⟩ := hseen hh (.inr ⟨n, hb⟩); rw [← e1, hn.at_ j e2] at hs0; cases hs0

end
end Go.GB
