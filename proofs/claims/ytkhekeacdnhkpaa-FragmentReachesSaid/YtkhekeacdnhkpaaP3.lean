/-
  YtkhekeacdnhkpaaP3: lemmas of this proof (part 3). No conditions.
-/
import Derived.Test.YtkhekeacdnhkpaaP2

/-
  C13Code: the code of some functions as abstract code (printed by program).
-/
namespace Go.GB.C11
open Go.GB
/- 8 supergraph supergraphlaw13.FragmentReaches -/
def c8_0 : ACode :=
  (.seq (.region false [⟨some 110, none, .mv (.s 16)⟩,
    ⟨some 111, none, .mv (.s 18)⟩,
    ⟨some 112, none, .eqb false (.s 110) (.s 111)⟩,
    ⟨some 113, none, .mv (.s 112)⟩,
    ⟨some 114, some (113, true), .fa 0 (.s 15)⟩,
    ⟨some 115, some (113, true), .ld false 1 (.s 114)⟩,
    ⟨some 116, some (113, true), .fa 0 (.s 17)⟩,
    ⟨some 117, some (113, true), .ld false 1 (.s 116)⟩,
    ⟨some 118, some (113, true), .bin .eql (.s 115) (.s 117)⟩,
    ⟨some 119, none, .pick (.s 113) (.s 118) (.c (.t (.bool false)))⟩,
    ⟨some 120, none, .mv (.s 119)⟩,
    ⟨some 121, some (120, true), .fa 1 (.s 15)⟩,
    ⟨some 122, some (120, true), .ld false 1 (.s 121)⟩,
    ⟨some 123, some (120, true), .fa 1 (.s 17)⟩,
    ⟨some 124, some (120, true), .ld false 1 (.s 123)⟩,
    ⟨some 125, some (120, true), .bin .eql (.s 122) (.s 124)⟩,
    ⟨some 126, none, .pick (.s 120) (.s 125) (.c (.t (.bool false)))⟩,
    ⟨some 127, none, .mv (.s 126)⟩,
    ⟨some 128, some (127, true), .fa 2 (.s 15)⟩,
    ⟨some 129, some (127, true), .ld false 1 (.s 128)⟩,
    ⟨some 130, some (127, true), .len (.s 129)⟩,
    ⟨some 131, some (127, true), .fa 2 (.s 17)⟩,
    ⟨some 132, some (127, true), .ld false 1 (.s 131)⟩,
    ⟨some 133, some (127, true), .len (.s 132)⟩,
    ⟨some 134, some (127, true), .bin .eql (.s 130) (.s 133)⟩,
    ⟨some 135, none, .pick (.s 127) (.s 134) (.c (.t (.bool false)))⟩,
    ⟨some 136, none, .mv (.s 135)⟩,
    ⟨some 137, some (136, true), .call 33 []⟩,
    ⟨some 138, none, .pick (.s 136) (.s 137) (.c (.t (.bool false)))⟩,
    ⟨some 4, none, .mv (.s 138)⟩] [] [4]) .ret)
def c8_1 : ACode :=
  (.seq (.region false [⟨some 105, none, .ld true 2 (.s 2)⟩,
    ⟨some 106, none, .mv (.s 1)⟩,
    ⟨some 107, none, .call 38 [(.s 105), (.s 106)]⟩,
    ⟨some 104, none, .mv (.s 107)⟩,
    ⟨some 108, none, .ext (.s 104) 0⟩,
    ⟨some 109, none, .ext (.s 104) 1⟩,
    ⟨some 17, none, .alloc [.t (.str []), .t (.str []), .nils]⟩,
    ⟨none, none, .st 3 (.s 17) (.s 108)⟩,
    ⟨some 18, none, .mv (.s 109)⟩] [] [15, 16, 17, 18]) c8_0)
def c8_2 : ACode :=
  (.seq (.region false [⟨some 99, none, .ld true 2 (.s 2)⟩,
    ⟨some 100, none, .mv (.s 1)⟩,
    ⟨some 101, none, .call 37 [(.s 99), (.s 100)]⟩,
    ⟨some 98, none, .mv (.s 101)⟩,
    ⟨some 102, none, .ext (.s 98) 0⟩,
    ⟨some 103, none, .ext (.s 98) 1⟩,
    ⟨some 15, none, .alloc [.t (.str []), .t (.str []), .nils]⟩,
    ⟨none, none, .st 3 (.s 15) (.s 102)⟩,
    ⟨some 16, none, .mv (.s 103)⟩] [] [1, 2, 15, 16]) c8_1)
def c8_3 : ACode :=
  (.region false [⟨some 65, none, .mv (.s 10)⟩,
    ⟨some 66, none, .bin .add (.s 65) (.c (.t (.int .i64 1)))⟩,
    ⟨some 10, none, .mv (.s 66)⟩] [] [1, 2, 10])
def c8_4 : ACode :=
  (.seq (.region false [⟨some 4, none, .cst (.t (.bool false))⟩] [] [4]) .ret)
def c8_5 : ACode :=
  (.cond (.s 97) c8_4 .skip)
def c8_6 : ACode :=
  (.seq (.region false [⟨some 89, none, .mv (.s 11)⟩,
    ⟨some 90, none, .mv (.s 13)⟩,
    ⟨some 91, none, .call 36 [(.s 89), (.s 90)]⟩,
    ⟨some 92, none, .un .not (.s 91)⟩,
    ⟨some 93, none, .mv (.s 92)⟩,
    ⟨some 94, some (93, false), .mv (.s 12)⟩,
    ⟨some 95, some (93, false), .mv (.s 14)⟩,
    ⟨some 96, some (93, false), .eqb true (.s 94) (.s 95)⟩,
    ⟨some 97, none, .pick (.s 93) (.c (.t (.bool true))) (.s 96)⟩] [] [1, 2, 10, 97]) c8_5)
def c8_7 : ACode :=
  (.seq (.region true [⟨some 79, none, .ld true 2 (.s 2)⟩,
    ⟨some 80, none, .fa 1 (.s 2)⟩,
    ⟨some 81, none, .ld false 1 (.s 80)⟩,
    ⟨some 82, none, .mv (.s 10)⟩,
    ⟨some 83, none, .ia 3 (.s 81) (.s 82)⟩,
    ⟨some 84, none, .fa 2 (.s 83)⟩,
    ⟨some 85, none, .ld false 1 (.s 84)⟩,
    ⟨some 86, none, .call 35 [(.s 79), (.s 85)]⟩,
    ⟨some 78, none, .mv (.s 86)⟩,
    ⟨some 87, none, .ext (.s 78) 0⟩,
    ⟨some 88, none, .ext (.s 78) 1⟩,
    ⟨some 13, none, .mv (.s 87)⟩,
    ⟨some 14, none, .mv (.s 88)⟩] [[], [], [1], [], [2, 3], [4], [5], [0, 6], [7], [8], [8], [9, 7, 0, 1, 2, 3, 4, 5, 6, 7, 8, 9], [10, 11, 0, 1, 2, 3, 4, 5, 6, 7, 8, 9, 10, 11]] [1, 2, 10, 11, 12, 13, 14]) c8_6)
def c8_8 : ACode :=
  (.seq (.region true [⟨some 68, none, .ld true 2 (.s 2)⟩,
    ⟨some 69, none, .fa 1 (.s 2)⟩,
    ⟨some 70, none, .ld false 1 (.s 69)⟩,
    ⟨some 71, none, .mv (.s 10)⟩,
    ⟨some 72, none, .ia 3 (.s 70) (.s 71)⟩,
    ⟨some 73, none, .fa 2 (.s 72)⟩,
    ⟨some 74, none, .ld false 1 (.s 73)⟩,
    ⟨some 75, none, .call 34 [(.s 68), (.s 74)]⟩,
    ⟨some 67, none, .mv (.s 75)⟩,
    ⟨some 76, none, .ext (.s 67) 0⟩,
    ⟨some 77, none, .ext (.s 67) 1⟩,
    ⟨some 11, none, .mv (.s 76)⟩,
    ⟨some 12, none, .mv (.s 77)⟩] [[], [], [1], [], [2, 3], [4], [5], [0, 6], [7], [8], [8], [9, 7, 0, 1, 2, 3, 4, 5, 6, 7, 8, 9], [10, 11, 0, 1, 2, 3, 4, 5, 6, 7, 8, 9, 10, 11]] [1, 2, 10, 11, 12]) c8_7)
def c8_9 : ACode :=
  (.seq (.block 3 c8_8) c8_3)
def c8_10 : ACode :=
  (.cond (.s 64) .skip (.exit 2))
def c8_11 : ACode :=
  (.seq (.seq (.region false [⟨some 60, none, .mv (.s 10)⟩,
    ⟨some 61, none, .fa 1 (.s 2)⟩,
    ⟨some 62, none, .ld false 1 (.s 61)⟩,
    ⟨some 63, none, .len (.s 62)⟩,
    ⟨some 64, none, .bin .lss (.s 60) (.s 63)⟩] [] [1, 2, 10, 64]) c8_10) c8_9)
def c8_12 : ACode :=
  (.loop c8_11)
def c8_13 : ACode :=
  (.block 2 c8_12)
def c8_14 : ACode :=
  (.seq (.seq (.region false [⟨some 10, none, .cst (.t (.int .i64 0))⟩] [] [1, 2, 10]) c8_13) c8_2)
def c8_15 : ACode :=
  (.region false [⟨some 27, none, .mv (.s 5)⟩,
    ⟨some 28, none, .bin .add (.s 27) (.c (.t (.int .i64 1)))⟩,
    ⟨some 5, none, .mv (.s 28)⟩] [] [1, 2, 5])
def c8_16 : ACode :=
  (.seq (.region false [⟨some 4, none, .cst (.t (.bool false))⟩] [] [4]) .ret)
def c8_17 : ACode :=
  (.cond (.s 59) c8_16 .skip)
def c8_18 : ACode :=
  (.seq (.region false [⟨some 51, none, .mv (.s 6)⟩,
    ⟨some 52, none, .mv (.s 8)⟩,
    ⟨some 53, none, .call 36 [(.s 51), (.s 52)]⟩,
    ⟨some 54, none, .un .not (.s 53)⟩,
    ⟨some 55, none, .mv (.s 54)⟩,
    ⟨some 56, some (55, false), .mv (.s 7)⟩,
    ⟨some 57, some (55, false), .mv (.s 9)⟩,
    ⟨some 58, some (55, false), .eqb true (.s 56) (.s 57)⟩,
    ⟨some 59, none, .pick (.s 55) (.c (.t (.bool true))) (.s 58)⟩] [] [1, 2, 5, 59]) c8_17)
def c8_19 : ACode :=
  (.seq (.region true [⟨some 41, none, .ld true 2 (.s 2)⟩,
    ⟨some 42, none, .fa 0 (.s 2)⟩,
    ⟨some 43, none, .ld false 1 (.s 42)⟩,
    ⟨some 44, none, .mv (.s 5)⟩,
    ⟨some 45, none, .ia 4 (.s 43) (.s 44)⟩,
    ⟨some 46, none, .fa 3 (.s 45)⟩,
    ⟨some 47, none, .ld false 1 (.s 46)⟩,
    ⟨some 48, none, .call 35 [(.s 41), (.s 47)]⟩,
    ⟨some 40, none, .mv (.s 48)⟩,
    ⟨some 49, none, .ext (.s 40) 0⟩,
    ⟨some 50, none, .ext (.s 40) 1⟩,
    ⟨some 8, none, .mv (.s 49)⟩,
    ⟨some 9, none, .mv (.s 50)⟩] [[], [], [1], [], [2, 3], [4], [5], [0, 6], [7], [8], [8], [9, 7, 0, 1, 2, 3, 4, 5, 6, 7, 8, 9], [10, 11, 0, 1, 2, 3, 4, 5, 6, 7, 8, 9, 10, 11]] [1, 2, 5, 6, 7, 8, 9]) c8_18)
def c8_20 : ACode :=
  (.seq (.region true [⟨some 30, none, .ld true 2 (.s 2)⟩,
    ⟨some 31, none, .fa 0 (.s 2)⟩,
    ⟨some 32, none, .ld false 1 (.s 31)⟩,
    ⟨some 33, none, .mv (.s 5)⟩,
    ⟨some 34, none, .ia 4 (.s 32) (.s 33)⟩,
    ⟨some 35, none, .fa 3 (.s 34)⟩,
    ⟨some 36, none, .ld false 1 (.s 35)⟩,
    ⟨some 37, none, .call 34 [(.s 30), (.s 36)]⟩,
    ⟨some 29, none, .mv (.s 37)⟩,
    ⟨some 38, none, .ext (.s 29) 0⟩,
    ⟨some 39, none, .ext (.s 29) 1⟩,
    ⟨some 6, none, .mv (.s 38)⟩,
    ⟨some 7, none, .mv (.s 39)⟩] [[], [], [1], [], [2, 3], [4], [5], [0, 6], [7], [8], [8], [9, 7, 0, 1, 2, 3, 4, 5, 6, 7, 8, 9], [10, 11, 0, 1, 2, 3, 4, 5, 6, 7, 8, 9, 10, 11]] [1, 2, 5, 6, 7]) c8_19)
def c8_21 : ACode :=
  (.seq (.block 1 c8_20) c8_15)
def c8_22 : ACode :=
  (.cond (.s 26) .skip (.exit 0))
def c8_23 : ACode :=
  (.seq (.seq (.region false [⟨some 22, none, .mv (.s 5)⟩,
    ⟨some 23, none, .fa 0 (.s 2)⟩,
    ⟨some 24, none, .ld false 1 (.s 23)⟩,
    ⟨some 25, none, .len (.s 24)⟩,
    ⟨some 26, none, .bin .lss (.s 22) (.s 25)⟩] [] [1, 2, 5, 26]) c8_22) c8_21)
def c8_24 : ACode :=
  (.loop c8_23)
def c8_25 : ACode :=
  (.block 0 c8_24)
def c8_26 : ACode :=
  (.seq (.seq (.region false [⟨some 5, none, .cst (.t (.int .i64 0))⟩] [] [1, 2, 5]) c8_25) c8_14)
def c8_27 : ACode :=
  (.seq (.region false [⟨some 21, none, .call 33 []⟩,
    ⟨some 4, none, .mv (.s 21)⟩] [] [4]) .ret)
def c8_28 : ACode :=
  (.cond (.s 20) c8_27 .skip)
def c8_29 : ACode :=
  (.seq (.seq (.region false [⟨some 19, none, .ld true 2 (.s 2)⟩,
    ⟨some 20, none, .call 32 [(.s 19)]⟩] [] [1, 2, 20]) c8_28) c8_26)
def c8 : ACode :=
  (.seq (.region false [⟨some 2, none, .box 2 (.s 0)⟩,
    ⟨some 4, none, .cst (.t (.bool false))⟩] [] [1, 2]) c8_29)
def r8 : List ARes := [.tmp 4]
def n8 : Nat := 139
/- 9 supergraph supergraphlaw13.FragmentChecks -/
/- 10 supergraph supergraphlaw13.FragmentClean -/
/- 11 supergraph supergraphlaw13.FragmentAdds -/
/- 32 supergraph supergraphref13.Large -/
def c32_0 : ACode :=
  (.seq (.region false [⟨some 72, none, .mv (.s 3)⟩,
    ⟨some 73, none, .bin .gtr (.s 72) (.c (.t (.int .i64 300)))⟩,
    ⟨some 2, none, .mv (.s 73)⟩] [] [2]) .ret)
def c32_1 : ACode :=
  (.region false [⟨some 54, none, .mv (.s 5)⟩,
    ⟨some 55, none, .bin .add (.s 54) (.c (.t (.int .i64 1)))⟩,
    ⟨some 5, none, .mv (.s 55)⟩] [] [1, 3, 5])
def c32_2 : ACode :=
  (.region false [⟨some 63, none, .mv (.s 3)⟩,
    ⟨some 64, none, .fa 1 (.s 1)⟩,
    ⟨some 65, none, .ld false 1 (.s 64)⟩,
    ⟨some 66, none, .mv (.s 5)⟩,
    ⟨some 67, none, .ia 3 (.s 65) (.s 66)⟩,
    ⟨some 68, none, .fa 2 (.s 67)⟩,
    ⟨some 69, none, .ld false 1 (.s 68)⟩,
    ⟨some 70, none, .call 70 [(.s 69), (.c (.t (.int .i64 300)))]⟩,
    ⟨some 71, none, .bin .add (.s 63) (.s 70)⟩,
    ⟨some 3, none, .mv (.s 71)⟩] [] [1, 3, 5])
def c32_3 : ACode :=
  (.seq (.region false [⟨some 2, none, .cst (.t (.bool true))⟩] [] [2]) .ret)
def c32_4 : ACode :=
  (.cond (.s 62) c32_3 .skip)
def c32_5 : ACode :=
  (.seq (.seq (.region false [⟨some 56, none, .fa 1 (.s 1)⟩,
    ⟨some 57, none, .ld false 1 (.s 56)⟩,
    ⟨some 58, none, .mv (.s 5)⟩,
    ⟨some 59, none, .ia 3 (.s 57) (.s 58)⟩,
    ⟨some 60, none, .fa 2 (.s 59)⟩,
    ⟨some 61, none, .ld false 1 (.s 60)⟩,
    ⟨some 62, none, .call 69 [(.s 61), (.c (.t (.int .i64 26)))]⟩] [] [1, 3, 5, 62]) c32_4) c32_2)
def c32_6 : ACode :=
  (.seq (.block 3 c32_5) c32_1)
def c32_7 : ACode :=
  (.cond (.s 53) .skip (.exit 2))
def c32_8 : ACode :=
  (.seq (.seq (.region false [⟨some 49, none, .mv (.s 5)⟩,
    ⟨some 50, none, .fa 1 (.s 1)⟩,
    ⟨some 51, none, .ld false 1 (.s 50)⟩,
    ⟨some 52, none, .len (.s 51)⟩,
    ⟨some 53, none, .bin .lss (.s 49) (.s 52)⟩] [] [1, 3, 5, 53]) c32_7) c32_6)
def c32_9 : ACode :=
  (.loop c32_8)
def c32_10 : ACode :=
  (.block 2 c32_9)
def c32_11 : ACode :=
  (.seq (.seq (.region false [⟨some 5, none, .cst (.t (.int .i64 0))⟩] [] [1, 3, 5]) c32_10) c32_0)
def c32_12 : ACode :=
  (.region false [⟨some 21, none, .mv (.s 4)⟩,
    ⟨some 22, none, .bin .add (.s 21) (.c (.t (.int .i64 1)))⟩,
    ⟨some 4, none, .mv (.s 22)⟩] [] [1, 3, 4])
def c32_13 : ACode :=
  (.region false [⟨some 40, none, .mv (.s 3)⟩,
    ⟨some 41, none, .fa 0 (.s 1)⟩,
    ⟨some 42, none, .ld false 1 (.s 41)⟩,
    ⟨some 43, none, .mv (.s 4)⟩,
    ⟨some 44, none, .ia 4 (.s 42) (.s 43)⟩,
    ⟨some 45, none, .fa 3 (.s 44)⟩,
    ⟨some 46, none, .ld false 1 (.s 45)⟩,
    ⟨some 47, none, .call 70 [(.s 46), (.c (.t (.int .i64 300)))]⟩,
    ⟨some 48, none, .bin .add (.s 40) (.s 47)⟩,
    ⟨some 3, none, .mv (.s 48)⟩] [] [1, 3, 4])
def c32_14 : ACode :=
  (.seq (.region false [⟨some 2, none, .cst (.t (.bool true))⟩] [] [2]) .ret)
def c32_15 : ACode :=
  (.cond (.s 39) c32_14 .skip)
def c32_16 : ACode :=
  (.seq (.seq (.region false [⟨some 23, none, .fa 0 (.s 1)⟩,
    ⟨some 24, none, .ld false 1 (.s 23)⟩,
    ⟨some 25, none, .mv (.s 4)⟩,
    ⟨some 26, none, .ia 4 (.s 24) (.s 25)⟩,
    ⟨some 27, none, .fa 3 (.s 26)⟩,
    ⟨some 28, none, .ld false 1 (.s 27)⟩,
    ⟨some 29, none, .call 69 [(.s 28), (.c (.t (.int .i64 26)))]⟩,
    ⟨some 30, none, .mv (.s 29)⟩,
    ⟨some 31, some (30, false), .fa 0 (.s 1)⟩,
    ⟨some 32, some (30, false), .ld false 1 (.s 31)⟩,
    ⟨some 33, some (30, false), .mv (.s 4)⟩,
    ⟨some 34, some (30, false), .ia 4 (.s 32) (.s 33)⟩,
    ⟨some 35, some (30, false), .fa 2 (.s 34)⟩,
    ⟨some 36, some (30, false), .ld false 1 (.s 35)⟩,
    ⟨some 37, some (30, false), .len (.s 36)⟩,
    ⟨some 38, some (30, false), .bin .gtr (.s 37) (.c (.t (.int .i64 30)))⟩,
    ⟨some 39, none, .pick (.s 30) (.c (.t (.bool true))) (.s 38)⟩] [] [1, 3, 4, 39]) c32_15) c32_13)
def c32_17 : ACode :=
  (.seq (.block 1 c32_16) c32_12)
def c32_18 : ACode :=
  (.cond (.s 20) .skip (.exit 0))
def c32_19 : ACode :=
  (.seq (.seq (.region false [⟨some 16, none, .mv (.s 4)⟩,
    ⟨some 17, none, .fa 0 (.s 1)⟩,
    ⟨some 18, none, .ld false 1 (.s 17)⟩,
    ⟨some 19, none, .len (.s 18)⟩,
    ⟨some 20, none, .bin .lss (.s 16) (.s 19)⟩] [] [1, 3, 4, 20]) c32_18) c32_17)
def c32_20 : ACode :=
  (.loop c32_19)
def c32_21 : ACode :=
  (.block 0 c32_20)
def c32_22 : ACode :=
  (.seq (.seq (.region false [⟨some 4, none, .cst (.t (.int .i64 0))⟩] [] [1, 3, 4]) c32_21) c32_11)
def c32_23 : ACode :=
  (.seq (.region false [⟨some 3, none, .cst (.t (.int .i64 0))⟩] [] [1, 3]) c32_22)
def c32_24 : ACode :=
  (.seq (.region false [⟨some 2, none, .cst (.t (.bool true))⟩] [] [2]) .ret)
def c32_25 : ACode :=
  (.cond (.s 15) c32_24 .skip)
def c32_26 : ACode :=
  (.seq (.seq (.region false [⟨some 6, none, .fa 0 (.s 1)⟩,
    ⟨some 7, none, .ld false 1 (.s 6)⟩,
    ⟨some 8, none, .len (.s 7)⟩,
    ⟨some 9, none, .bin .gtr (.s 8) (.c (.t (.int .i64 8)))⟩,
    ⟨some 10, none, .mv (.s 9)⟩,
    ⟨some 11, some (10, false), .fa 1 (.s 1)⟩,
    ⟨some 12, some (10, false), .ld false 1 (.s 11)⟩,
    ⟨some 13, some (10, false), .len (.s 12)⟩,
    ⟨some 14, some (10, false), .bin .gtr (.s 13) (.c (.t (.int .i64 12)))⟩,
    ⟨some 15, none, .pick (.s 10) (.c (.t (.bool true))) (.s 14)⟩] [] [1, 15]) c32_25) c32_23)
def c32 : ACode :=
  (.seq (.region false [⟨some 1, none, .box 2 (.s 0)⟩,
    ⟨some 2, none, .cst (.t (.bool false))⟩] [] [1]) c32_26)
def r32 : List ARes := [.tmp 2]
def n32 : Nat := 74
/- 33 supergraph supergraphlaw13.exampleHolds -/
def c33_0 : ACode :=
  (.seq (.region false [⟨some 40, none, .mv (.s 4)⟩,
    ⟨some 41, none, .len (.s 40)⟩,
    ⟨some 42, none, .bin .eql (.s 41) (.c (.t (.int .i64 1)))⟩,
    ⟨some 43, none, .mv (.s 42)⟩,
    ⟨some 44, some (43, true), .mv (.s 4)⟩,
    ⟨some 45, some (43, true), .ia 1 (.s 44) (.c (.t (.int .i64 0)))⟩,
    ⟨some 46, some (43, true), .ld false 1 (.s 45)⟩,
    ⟨some 47, some (43, true), .bin .eql (.s 46) (.c (.t (.str [102])))⟩,
    ⟨some 48, none, .pick (.s 43) (.s 47) (.c (.t (.bool false)))⟩,
    ⟨some 49, none, .mv (.s 48)⟩,
    ⟨some 50, some (49, true), .mv (.s 5)⟩,
    ⟨some 51, some (49, true), .un .not (.s 50)⟩,
    ⟨some 52, none, .pick (.s 49) (.s 51) (.c (.t (.bool false)))⟩,
    ⟨some 53, none, .mv (.s 52)⟩,
    ⟨some 54, some (53, true), .mv (.s 7)⟩,
    ⟨some 55, none, .pick (.s 53) (.s 54) (.c (.t (.bool false)))⟩,
    ⟨some 56, none, .mv (.s 55)⟩,
    ⟨some 57, some (56, true), .fa 1 (.s 6)⟩,
    ⟨some 58, some (56, true), .ld false 1 (.s 57)⟩,
    ⟨some 59, some (56, true), .bin .eql (.s 58) (.c (.t (.str [81, 117, 101, 114, 121])))⟩,
    ⟨some 60, none, .pick (.s 56) (.s 59) (.c (.t (.bool false)))⟩,
    ⟨some 61, none, .mv (.s 60)⟩,
    ⟨some 62, some (61, true), .ld true 1 (.s 3)⟩,
    ⟨some 63, some (61, true), .ld true 2 (.s 2)⟩,
    ⟨some 64, some (61, true), .call 41 [(.s 62), (.s 63)]⟩,
    ⟨some 65, some (61, true), .build [.t (.int .i64 0), .t (.str [])] [(0, 1, (.c (.t (.int .i64 24)))), (1, 1, (.c (.t (.str []))))]⟩,
    ⟨some 66, some (61, true), .bsl true 2 [[.int .i64 0, .str []]] [(0, (.s 65))]⟩,
    ⟨some 67, some (61, true), .call 40 [(.s 64), (.s 66)]⟩,
    ⟨some 68, none, .pick (.s 61) (.s 67) (.c (.t (.bool false)))⟩,
    ⟨some 0, none, .mv (.s 68)⟩] [] [0]) .ret)
def c33_1 : ACode :=
  (.seq (.region false [⟨some 36, none, .ld true 2 (.s 2)⟩,
    ⟨some 37, none, .call 37 [(.s 36), (.c (.t (.str [102])))]⟩,
    ⟨some 35, none, .mv (.s 37)⟩,
    ⟨some 38, none, .ext (.s 35) 0⟩,
    ⟨some 39, none, .ext (.s 35) 1⟩,
    ⟨some 6, none, .alloc [.t (.str []), .t (.str []), .nils]⟩,
    ⟨none, none, .st 3 (.s 6) (.s 38)⟩,
    ⟨some 7, none, .mv (.s 39)⟩] [] [2, 3, 4, 5, 6, 7]) c33_0)
def c33_2 : ACode :=
  (.seq (.region true [⟨some 26, none, .ld true 2 (.s 2)⟩,
    ⟨some 27, none, .fa 0 (.s 2)⟩,
    ⟨some 28, none, .ld false 1 (.s 27)⟩,
    ⟨some 29, none, .ia 4 (.s 28) (.c (.t (.int .i64 0)))⟩,
    ⟨some 30, none, .fa 3 (.s 29)⟩,
    ⟨some 31, none, .ld false 1 (.s 30)⟩,
    ⟨some 32, none, .call 34 [(.s 26), (.s 31)]⟩,
    ⟨some 25, none, .mv (.s 32)⟩,
    ⟨some 33, none, .ext (.s 25) 0⟩,
    ⟨some 34, none, .ext (.s 25) 1⟩,
    ⟨some 4, none, .mv (.s 33)⟩,
    ⟨some 5, none, .mv (.s 34)⟩] [[], [], [1], [2], [3], [4], [0, 5], [6], [7], [7], [8, 6, 0, 1, 2, 3, 4, 5, 6, 7, 8], [9, 10, 0, 1, 2, 3, 4, 5, 6, 7, 8, 9, 10]] [2, 3, 4, 5]) c33_1)
def c33_3 : ACode :=
  (.seq (.region false [⟨some 19, none, .build [.t (.str []), .nils] [(0, 1, (.c (.t (.str [73, 110, 116]))))]⟩,
    ⟨some 20, none, .build [.t (.str []), .nils, .t (.str []), .nils, .nils] [(0, 1, (.c (.t (.str [97])))), (2, 2, (.s 19))]⟩,
    ⟨some 21, none, .bsl true 5 [[.str [], .lst [], .str [], .lst [], .lst []]] [(0, (.s 20))]⟩,
    ⟨some 22, none, .build [.t (.int .i64 0), .t (.str []), .nils, .nils, .nils, .nils, .nils] [(0, 1, (.c (.t (.int .i64 1)))), (1, 1, (.c (.t (.str [81, 117, 101, 114, 121])))), (4, 1, (.s 21))]⟩,
    ⟨some 23, none, .bsl true 7 [[.int .i64 0, .str [], .lst [], .lst [], .lst [], .lst [], .lst []]] [(0, (.s 22))]⟩,
    ⟨some 24, none, .build [.nils] [(0, 1, (.s 23))]⟩,
    ⟨some 3, none, .alloc [.nils]⟩,
    ⟨none, none, .st 1 (.s 3) (.s 24)⟩] [] [2, 3]) c33_2)
def c33_4 : ACode :=
  (.seq (.region false [⟨some 11, none, .build [.t (.int .i64 0), .t (.str []), .t (.str []), .t (.str []), .nils, .nils, .nils] [(0, 1, (.c (.t (.int .i64 2)))), (2, 1, (.c (.t (.str [102]))))]⟩,
    ⟨some 12, none, .build [.t (.int .i64 0), .t (.str []), .t (.str []), .t (.str []), .nils, .nils, .nils] [(0, 1, (.c (.t (.int .i64 2)))), (2, 1, (.c (.t (.str [103]))))]⟩,
    ⟨some 13, none, .bsl true 7 [[.int .i64 0, .str [], .str [], .str [], .lst [], .lst [], .lst []], [.int .i64 0, .str [], .str [], .str [], .lst [], .lst [], .lst []]] [(0, (.s 11)), (1, (.s 12))]⟩,
    ⟨some 14, none, .build [.t (.int .i64 0), .t (.str []), .nils, .nils] [(0, 1, (.c (.t (.int .i64 1)))), (3, 1, (.s 13))]⟩,
    ⟨some 15, none, .bsl true 4 [[.int .i64 0, .str [], .lst [], .lst []]] [(0, (.s 14))]⟩,
    ⟨some 16, none, .ld true 3 (.s 1)⟩,
    ⟨some 17, none, .bsl true 3 [[.str [], .str [], .lst []]] [(0, (.s 16))]⟩,
    ⟨some 18, none, .build [.nils, .nils] [(0, 1, (.s 15)), (1, 1, (.s 17))]⟩,
    ⟨some 2, none, .alloc [.nils, .nils]⟩,
    ⟨none, none, .st 2 (.s 2) (.s 18)⟩] [] [2]) c33_3)
def c33_5 : ACode :=
  (.seq (.region false [⟨some 8, none, .build [.t (.int .i64 0), .t (.str []), .t (.str []), .t (.str []), .nils, .nils, .nils] [(0, 1, (.c (.t (.int .i64 1)))), (2, 1, (.c (.t (.str [97]))))]⟩,
    ⟨some 9, none, .bsl true 7 [[.int .i64 0, .str [], .str [], .str [], .lst [], .lst [], .lst []]] [(0, (.s 8))]⟩,
    ⟨some 10, none, .build [.t (.str []), .t (.str []), .nils] [(0, 1, (.c (.t (.str [102])))), (1, 1, (.c (.t (.str [81, 117, 101, 114, 121])))), (2, 1, (.s 9))]⟩,
    ⟨some 1, none, .alloc [.t (.str []), .t (.str []), .nils]⟩,
    ⟨none, none, .st 3 (.s 1) (.s 10)⟩] [] [1]) c33_4)
def c33 : ACode :=
  (.seq (.region false [⟨some 0, none, .cst (.t (.bool false))⟩] [] []) c33_5)
def r33 : List ARes := [.tmp 0]
def n33 : Nat := 69
/- 34 supergraph fragment.Reach -/
def c34_0 : ACode :=
  (.seq (.region false [⟨some 38, none, .mv (.s 6)⟩,
    ⟨some 39, none, .mv (.s 7)⟩,
    ⟨some 4, none, .mv (.s 38)⟩,
    ⟨some 5, none, .mv (.s 39)⟩] [] [4, 5]) .ret)
def c34_1 : ACode :=
  (.region false [⟨some 37, none, .bin .add (.s 20) (.c (.t (.int .i64 1)))⟩,
    ⟨some 20, none, .mv (.s 37)⟩] [] [2, 6, 7, 18, 19, 20])
def c34_2 : ACode :=
  (.region false [⟨some 30, none, .mv (.s 7)⟩,
    ⟨some 31, none, .mv (.s 30)⟩,
    ⟨some 32, some (31, true), .ld true 2 (.s 2)⟩,
    ⟨some 33, some (31, true), .ld true 3 (.s 10)⟩,
    ⟨some 34, some (31, true), .call 72 [(.s 32), (.s 33)]⟩,
    ⟨some 35, some (31, true), .un .not (.s 34)⟩,
    ⟨some 36, none, .pick (.s 31) (.s 35) (.c (.t (.bool false)))⟩,
    ⟨some 7, none, .mv (.s 36)⟩] [] [2, 6, 7, 18, 19, 20])
def c34_3 : ACode :=
  (.seq (.region false [⟨some 25, none, .ld true 2 (.s 2)⟩,
    ⟨some 26, none, .mv (.s 9)⟩,
    ⟨some 27, none, .call 37 [(.s 25), (.s 26)]⟩,
    ⟨some 24, none, .mv (.s 27)⟩,
    ⟨some 28, none, .ext (.s 24) 0⟩,
    ⟨some 29, none, .ext (.s 24) 1⟩,
    ⟨some 10, none, .alloc [.t (.str []), .t (.str []), .nils]⟩,
    ⟨none, none, .st 3 (.s 10) (.s 28)⟩,
    ⟨some 11, none, .mv (.s 29)⟩] [] [2, 6, 7, 10, 18, 19, 20]) c34_2)
def c34_4 : ACode :=
  (.seq (.region false [⟨some 22, none, .ia 1 (.s 18) (.s 20)⟩,
    ⟨some 23, none, .ld false 1 (.s 22)⟩,
    ⟨some 9, none, .mv (.s 23)⟩] [] [2, 6, 7, 9, 18, 19, 20]) c34_3)
def c34_5 : ACode :=
  (.seq (.block 1 c34_4) c34_1)
def c34_6 : ACode :=
  (.seq (.cond (.s 21) .skip (.exit 0)) c34_5)
def c34_7 : ACode :=
  (.seq (.region false [⟨some 21, none, .bin .lss (.s 20) (.s 19)⟩] [] [2, 6, 7, 18, 19, 20, 21]) c34_6)
def c34_8 : ACode :=
  (.loop c34_7)
def c34_9 : ACode :=
  (.block 0 c34_8)
def c34_10 : ACode :=
  (.seq (.seq (.region false [⟨some 18, none, .mv (.s 6)⟩,
    ⟨some 19, none, .len (.s 18)⟩,
    ⟨some 20, none, .cst (.t (.int .i64 0))⟩] [] [2, 6, 7, 18, 19, 20]) c34_9) c34_0)
def c34_11 : ACode :=
  (.seq (.region false [⟨some 13, none, .ld true 2 (.s 2)⟩,
    ⟨some 14, none, .mv (.s 1)⟩,
    ⟨some 15, none, .call 71 [(.s 13), (.s 14), (.c (.nils))]⟩,
    ⟨some 12, none, .mv (.s 15)⟩,
    ⟨some 16, none, .ext (.s 12) 0⟩,
    ⟨some 17, none, .ext (.s 12) 1⟩,
    ⟨some 6, none, .mv (.s 16)⟩,
    ⟨some 7, none, .mv (.s 17)⟩] [] [2, 6, 7]) c34_10)
def c34 : ACode :=
  (.seq (.region false [⟨some 2, none, .box 2 (.s 0)⟩,
    ⟨some 4, none, .cst (.nils)⟩,
    ⟨some 5, none, .cst (.t (.bool false))⟩] [] [1, 2]) c34_11)
def r34 : List ARes := [.tmp 4, .tmp 5]
def n34 : Nat := 40
/- 35 supergraph supergraphref13.Reach -/
def c35_0 : ACode :=
  (.seq (.region false [⟨some 35, none, .mv (.s 6)⟩,
    ⟨some 36, none, .mv (.s 7)⟩,
    ⟨some 4, none, .mv (.s 35)⟩,
    ⟨some 5, none, .mv (.s 36)⟩] [] [4, 5]) .ret)
def c35_1 : ACode :=
  (.region false [⟨some 21, none, .mv (.s 8)⟩,
    ⟨some 22, none, .bin .add (.s 21) (.c (.t (.int .i64 1)))⟩,
    ⟨some 8, none, .mv (.s 22)⟩] [] [2, 6, 7, 8])
def c35_2 : ACode :=
  (.region false [⟨some 7, none, .cst (.t (.bool false))⟩] [] [2, 6, 7, 8])
def c35_3 : ACode :=
  (.cond (.s 34) c35_2 .skip)
def c35_4 : ACode :=
  (.seq (.region false [⟨some 32, none, .ld true 2 (.s 2)⟩,
    ⟨some 33, none, .ld true 3 (.s 9)⟩,
    ⟨some 34, none, .call 74 [(.s 32), (.s 33)]⟩] [] [2, 6, 7, 8, 34]) c35_3)
def c35_5 : ACode :=
  (.seq (.region true [⟨some 24, none, .ld true 2 (.s 2)⟩,
    ⟨some 25, none, .mv (.s 6)⟩,
    ⟨some 26, none, .mv (.s 8)⟩,
    ⟨some 27, none, .ia 1 (.s 25) (.s 26)⟩,
    ⟨some 28, none, .ld false 1 (.s 27)⟩,
    ⟨some 29, none, .call 38 [(.s 24), (.s 28)]⟩,
    ⟨some 23, none, .mv (.s 29)⟩,
    ⟨some 30, none, .ext (.s 23) 0⟩,
    ⟨some 31, none, .ext (.s 23) 1⟩,
    ⟨some 9, none, .alloc [.t (.str []), .t (.str []), .nils]⟩,
    ⟨none, none, .st 3 (.s 9) (.s 30)⟩,
    ⟨some 10, none, .mv (.s 31)⟩] [[], [], [], [1, 2], [3], [0, 4], [5], [6], [6], [], [9, 7, 5, 0, 1, 2, 3, 4, 5, 6, 7, 9], [8, 10, 0, 1, 2, 3, 4, 5, 6, 7, 8, 9, 10]] [2, 6, 7, 8, 9]) c35_4)
def c35_6 : ACode :=
  (.seq (.block 1 c35_5) c35_1)
def c35_7 : ACode :=
  (.cond (.s 20) .skip (.exit 0))
def c35_8 : ACode :=
  (.seq (.seq (.region false [⟨some 17, none, .mv (.s 8)⟩,
    ⟨some 18, none, .mv (.s 6)⟩,
    ⟨some 19, none, .len (.s 18)⟩,
    ⟨some 20, none, .bin .lss (.s 17) (.s 19)⟩] [] [2, 6, 7, 8, 20]) c35_7) c35_6)
def c35_9 : ACode :=
  (.loop c35_8)
def c35_10 : ACode :=
  (.block 0 c35_9)
def c35_11 : ACode :=
  (.seq (.seq (.region false [⟨some 8, none, .cst (.t (.int .i64 0))⟩] [] [2, 6, 7, 8]) c35_10) c35_0)
def c35_12 : ACode :=
  (.seq (.region false [⟨some 12, none, .ld true 2 (.s 2)⟩,
    ⟨some 13, none, .mv (.s 1)⟩,
    ⟨some 14, none, .call 73 [(.s 12), (.s 13), (.c (.nils))]⟩,
    ⟨some 11, none, .mv (.s 14)⟩,
    ⟨some 15, none, .ext (.s 11) 0⟩,
    ⟨some 16, none, .ext (.s 11) 1⟩,
    ⟨some 6, none, .mv (.s 15)⟩,
    ⟨some 7, none, .mv (.s 16)⟩] [] [2, 6, 7]) c35_11)
def c35 : ACode :=
  (.seq (.region false [⟨some 2, none, .box 2 (.s 0)⟩,
    ⟨some 4, none, .cst (.nils)⟩,
    ⟨some 5, none, .cst (.t (.bool false))⟩] [] [1, 2]) c35_12)
def r35 : List ARes := [.tmp 4, .tmp 5]
def n35 : Nat := 37
/- 36 supergraph supergraphlaw13.same -/
def c36_0 : ACode :=
  (.seq (.region false [⟨some 4, none, .cst (.t (.bool true))⟩] [] [4]) .ret)
def c36_1 : ACode :=
  (.region false [⟨some 15, none, .mv (.s 5)⟩,
    ⟨some 16, none, .bin .add (.s 15) (.c (.t (.int .i64 1)))⟩,
    ⟨some 5, none, .mv (.s 16)⟩] [] [0, 1, 5])
def c36_2 : ACode :=
  (.seq (.region false [⟨some 4, none, .cst (.t (.bool false))⟩] [] [4]) .ret)
def c36_3 : ACode :=
  (.cond (.s 25) c36_2 .skip)
def c36_4 : ACode :=
  (.seq (.region true [⟨some 17, none, .mv (.s 0)⟩,
    ⟨some 18, none, .mv (.s 5)⟩,
    ⟨some 19, none, .ia 1 (.s 17) (.s 18)⟩,
    ⟨some 20, none, .ld false 1 (.s 19)⟩,
    ⟨some 21, none, .mv (.s 1)⟩,
    ⟨some 22, none, .mv (.s 5)⟩,
    ⟨some 23, none, .ia 1 (.s 21) (.s 22)⟩,
    ⟨some 24, none, .ld false 1 (.s 23)⟩,
    ⟨some 25, none, .bin .neq (.s 20) (.s 24)⟩] [[], [], [0, 1], [2], [], [], [4, 5], [6], [3, 7]] [0, 1, 5, 25]) c36_3)
def c36_5 : ACode :=
  (.seq (.block 1 c36_4) c36_1)
def c36_6 : ACode :=
  (.cond (.s 14) .skip (.exit 0))
def c36_7 : ACode :=
  (.seq (.seq (.region false [⟨some 11, none, .mv (.s 5)⟩,
    ⟨some 12, none, .mv (.s 0)⟩,
    ⟨some 13, none, .len (.s 12)⟩,
    ⟨some 14, none, .bin .lss (.s 11) (.s 13)⟩] [] [0, 1, 5, 14]) c36_6) c36_5)
def c36_8 : ACode :=
  (.loop c36_7)
def c36_9 : ACode :=
  (.block 0 c36_8)
def c36_10 : ACode :=
  (.seq (.seq (.region false [⟨some 5, none, .cst (.t (.int .i64 0))⟩] [] [0, 1, 5]) c36_9) c36_0)
def c36_11 : ACode :=
  (.seq (.region false [⟨some 4, none, .cst (.t (.bool false))⟩] [] [4]) .ret)
def c36_12 : ACode :=
  (.cond (.s 10) c36_11 .skip)
def c36_13 : ACode :=
  (.seq (.seq (.region false [⟨some 6, none, .mv (.s 0)⟩,
    ⟨some 7, none, .len (.s 6)⟩,
    ⟨some 8, none, .mv (.s 1)⟩,
    ⟨some 9, none, .len (.s 8)⟩,
    ⟨some 10, none, .bin .neq (.s 7) (.s 9)⟩] [] [0, 1, 10]) c36_12) c36_10)
def c36 : ACode :=
  (.seq (.region false [⟨some 4, none, .cst (.t (.bool false))⟩] [] [0, 1]) c36_13)
def r36 : List ARes := [.tmp 4]
def n36 : Nat := 26
/- 37 supergraph fragment.Find -/
def c37_0 : ACode :=
  (.seq (.region false [⟨some 21, none, .build [.t (.str []), .t (.str []), .nils] []⟩,
    ⟨none, none, .st 3 (.s 4) (.s 21)⟩,
    ⟨some 5, none, .cst (.t (.bool false))⟩] [] [4, 5]) .ret)
def c37_1 : ACode :=
  (.region false [⟨some 20, none, .bin .add (.s 11) (.c (.t (.int .i64 1)))⟩,
    ⟨some 11, none, .mv (.s 20)⟩] [] [1, 4, 9, 10, 11])
def c37_2 : ACode :=
  (.seq (.region false [⟨some 19, none, .ld true 3 (.s 7)⟩,
    ⟨none, none, .st 3 (.s 4) (.s 19)⟩,
    ⟨some 5, none, .cst (.t (.bool true))⟩] [] [4, 5]) .ret)
def c37_3 : ACode :=
  (.cond (.s 18) c37_2 .skip)
def c37_4 : ACode :=
  (.seq (.region false [⟨some 15, none, .fa 0 (.s 7)⟩,
    ⟨some 16, none, .ld false 1 (.s 15)⟩,
    ⟨some 17, none, .mv (.s 1)⟩,
    ⟨some 18, none, .bin .eql (.s 16) (.s 17)⟩] [] [1, 4, 7, 9, 10, 11, 18]) c37_3)
def c37_5 : ACode :=
  (.seq (.region false [⟨some 13, none, .ia 3 (.s 9) (.s 11)⟩,
    ⟨some 14, none, .ld true 3 (.s 13)⟩,
    ⟨some 7, none, .alloc [.t (.str []), .t (.str []), .nils]⟩,
    ⟨none, none, .st 3 (.s 7) (.s 14)⟩] [] [1, 4, 7, 9, 10, 11]) c37_4)
def c37_6 : ACode :=
  (.seq (.block 1 c37_5) c37_1)
def c37_7 : ACode :=
  (.seq (.cond (.s 12) .skip (.exit 0)) c37_6)
def c37_8 : ACode :=
  (.seq (.region false [⟨some 12, none, .bin .lss (.s 11) (.s 10)⟩] [] [1, 4, 9, 10, 11, 12]) c37_7)
def c37_9 : ACode :=
  (.loop c37_8)
def c37_10 : ACode :=
  (.block 0 c37_9)
def c37_11 : ACode :=
  (.seq (.seq (.region false [⟨some 8, none, .fa 1 (.s 2)⟩,
    ⟨some 9, none, .ld false 1 (.s 8)⟩,
    ⟨some 10, none, .len (.s 9)⟩,
    ⟨some 11, none, .cst (.t (.int .i64 0))⟩] [] [1, 4, 9, 10, 11]) c37_10) c37_0)
def c37 : ACode :=
  (.seq (.region false [⟨some 2, none, .box 2 (.s 0)⟩,
    ⟨some 4, none, .alloc [.t (.str []), .t (.str []), .nils]⟩,
    ⟨some 5, none, .cst (.t (.bool false))⟩] [] [1, 2, 4]) c37_11)
def r37 : List ARes := [.cell 4 true 3, .tmp 5]
def n37 : Nat := 22
/- 38 supergraph supergraphref13.Find -/
def c38_0 : ACode :=
  (.seq (.region false [⟨some 27, none, .build [.t (.str []), .t (.str []), .nils] []⟩,
    ⟨none, none, .st 3 (.s 4) (.s 27)⟩,
    ⟨some 5, none, .cst (.t (.bool false))⟩] [] [4, 5]) .ret)
def c38_1 : ACode :=
  (.region false [⟨some 12, none, .mv (.s 6)⟩,
    ⟨some 13, none, .bin .add (.s 12) (.c (.t (.int .i64 1)))⟩,
    ⟨some 6, none, .mv (.s 13)⟩] [] [1, 2, 4, 6])
def c38_2 : ACode :=
  (.seq (.region false [⟨some 22, none, .fa 1 (.s 2)⟩,
    ⟨some 23, none, .ld false 1 (.s 22)⟩,
    ⟨some 24, none, .mv (.s 6)⟩,
    ⟨some 25, none, .ia 3 (.s 23) (.s 24)⟩,
    ⟨some 26, none, .ld true 3 (.s 25)⟩,
    ⟨none, none, .st 3 (.s 4) (.s 26)⟩,
    ⟨some 5, none, .cst (.t (.bool true))⟩] [] [4, 5]) .ret)
def c38_3 : ACode :=
  (.cond (.s 21) c38_2 .skip)
def c38_4 : ACode :=
  (.seq (.region false [⟨some 14, none, .fa 1 (.s 2)⟩,
    ⟨some 15, none, .ld false 1 (.s 14)⟩,
    ⟨some 16, none, .mv (.s 6)⟩,
    ⟨some 17, none, .ia 3 (.s 15) (.s 16)⟩,
    ⟨some 18, none, .fa 0 (.s 17)⟩,
    ⟨some 19, none, .ld false 1 (.s 18)⟩,
    ⟨some 20, none, .mv (.s 1)⟩,
    ⟨some 21, none, .bin .eql (.s 19) (.s 20)⟩] [] [1, 2, 4, 6, 21]) c38_3)
def c38_5 : ACode :=
  (.seq (.block 1 c38_4) c38_1)
def c38_6 : ACode :=
  (.cond (.s 11) .skip (.exit 0))
def c38_7 : ACode :=
  (.seq (.seq (.region false [⟨some 7, none, .mv (.s 6)⟩,
    ⟨some 8, none, .fa 1 (.s 2)⟩,
    ⟨some 9, none, .ld false 1 (.s 8)⟩,
    ⟨some 10, none, .len (.s 9)⟩,
    ⟨some 11, none, .bin .lss (.s 7) (.s 10)⟩] [] [1, 2, 4, 6, 11]) c38_6) c38_5)
def c38_8 : ACode :=
  (.loop c38_7)
def c38_9 : ACode :=
  (.block 0 c38_8)
def c38_10 : ACode :=
  (.seq (.seq (.region false [⟨some 6, none, .cst (.t (.int .i64 0))⟩] [] [1, 2, 4, 6]) c38_9) c38_0)
def c38 : ACode :=
  (.seq (.region false [⟨some 2, none, .box 2 (.s 0)⟩,
    ⟨some 4, none, .alloc [.t (.str []), .t (.str []), .nils]⟩,
    ⟨some 5, none, .cst (.t (.bool false))⟩] [] [1, 2, 4]) c38_10)
def r38 : List ARes := [.cell 4 true 3, .tmp 5]
def n38 : Nat := 28
/- 39 supergraph supergraphlaw13.fits -/
/- 41 supergraph fragment.Check -/
def c41_0 : ACode :=
  (.seq (.region false [⟨some 94, none, .mv (.s 5)⟩,
    ⟨some 95, none, .nilck (.s 94)⟩,
    ⟨some 96, none, .fa 3 (.s 95)⟩,
    ⟨some 97, none, .ld false 1 (.s 96)⟩,
    ⟨some 4, none, .mv (.s 97)⟩] [] [4]) .ret)
def c41_1 : ACode :=
  (.region false [⟨some 93, none, .bin .add (.s 56) (.c (.t (.int .i64 1)))⟩,
    ⟨some 56, none, .mv (.s 93)⟩] [] [2, 3, 5, 6, 54, 55, 56])
def c41_2 : ACode :=
  (.region false [⟨some 85, none, .mv (.s 5)⟩,
    ⟨some 86, none, .fa 2 (.s 14)⟩,
    ⟨some 87, none, .ld false 1 (.s 86)⟩,
    ⟨some 88, none, .fa 1 (.s 14)⟩,
    ⟨some 89, none, .ld false 1 (.s 88)⟩,
    ⟨some 90, none, .fa 0 (.s 14)⟩,
    ⟨some 91, none, .ld false 1 (.s 90)⟩,
    ⟨some 92, none, .call 77 [(.s 85), (.s 87), (.s 89), (.s 91)]⟩] [] [2, 3, 5, 6, 54, 55, 56])
def c41_3 : ACode :=
  (.seq (.region false [⟨some 76, none, .mv (.s 5)⟩,
    ⟨some 77, none, .mv (.s 6)⟩,
    ⟨some 78, none, .fa 0 (.s 14)⟩,
    ⟨some 79, none, .ld false 1 (.s 78)⟩,
    ⟨some 80, none, .nw (.lookup [.str] false (.t (.bool false)) false (.s 77) (.s 79))⟩,
    ⟨some 81, none, .un .not (.s 80)⟩,
    ⟨some 82, none, .fa 0 (.s 14)⟩,
    ⟨some 83, none, .ld false 1 (.s 82)⟩,
    ⟨some 84, none, .call 79 [(.s 76), (.s 81), (.c (.t (.int .i64 26))), (.s 83)]⟩] [] [2, 3, 5, 6, 14, 54, 55, 56]) c41_2)
def c41_4 : ACode :=
  (.seq (.region true [⟨some 69, none, .mv (.s 5)⟩,
    ⟨some 70, none, .ld true 2 (.s 3)⟩,
    ⟨some 71, none, .ld true 3 (.s 14)⟩,
    ⟨some 72, none, .call 72 [(.s 70), (.s 71)]⟩,
    ⟨some 73, none, .fa 0 (.s 14)⟩,
    ⟨some 74, none, .ld false 1 (.s 73)⟩,
    ⟨some 75, none, .call 79 [(.s 69), (.s 72), (.c (.t (.int .i64 24))), (.s 74)]⟩] [[], [], [], [1, 2], [], [4], [0, 3, 5, 3]] [2, 3, 5, 6, 14, 54, 55, 56]) c41_3)
def c41_5 : ACode :=
  (.seq (.region true [⟨some 60, none, .mv (.s 5)⟩,
    ⟨some 61, none, .ld true 1 (.s 2)⟩,
    ⟨some 62, none, .fa 1 (.s 14)⟩,
    ⟨some 63, none, .ld false 1 (.s 62)⟩,
    ⟨some 64, none, .call 80 [(.s 61), (.s 63)]⟩,
    ⟨some 65, none, .un .not (.s 64)⟩,
    ⟨some 66, none, .fa 0 (.s 14)⟩,
    ⟨some 67, none, .ld false 1 (.s 66)⟩,
    ⟨some 68, none, .call 79 [(.s 60), (.s 65), (.c (.t (.int .i64 24))), (.s 67)]⟩] [[], [], [], [2], [1, 3], [4], [], [6], [0, 5, 7, 4]] [2, 3, 5, 6, 14, 54, 55, 56]) c41_4)
def c41_6 : ACode :=
  (.seq (.region false [⟨some 58, none, .ia 3 (.s 54) (.s 56)⟩,
    ⟨some 59, none, .ld true 3 (.s 58)⟩,
    ⟨some 14, none, .alloc [.t (.str []), .t (.str []), .nils]⟩,
    ⟨none, none, .st 3 (.s 14) (.s 59)⟩] [] [2, 3, 5, 6, 14, 54, 55, 56]) c41_5)
def c41_7 : ACode :=
  (.seq (.block 5 c41_6) c41_1)
def c41_8 : ACode :=
  (.seq (.cond (.s 57) .skip (.exit 4)) c41_7)
def c41_9 : ACode :=
  (.seq (.region false [⟨some 57, none, .bin .lss (.s 56) (.s 55)⟩] [] [2, 3, 5, 6, 54, 55, 56, 57]) c41_8)
def c41_10 : ACode :=
  (.loop c41_9)
def c41_11 : ACode :=
  (.block 4 c41_10)
def c41_12 : ACode :=
  (.seq (.seq (.region false [⟨some 53, none, .fa 1 (.s 3)⟩,
    ⟨some 54, none, .ld false 1 (.s 53)⟩,
    ⟨some 55, none, .len (.s 54)⟩,
    ⟨some 56, none, .cst (.t (.int .i64 0))⟩] [] [2, 3, 5, 6, 54, 55, 56]) c41_11) c41_0)
def c41_13 : ACode :=
  (.region false [⟨some 52, none, .bin .add (.s 23) (.c (.t (.int .i64 1)))⟩,
    ⟨some 23, none, .mv (.s 52)⟩] [] [2, 3, 5, 6, 21, 22, 23])
def c41_14 : ACode :=
  (.region false [⟨some 51, none, .bin .add (.s 45) (.c (.t (.int .i64 1)))⟩,
    ⟨some 45, none, .mv (.s 51)⟩] [] [2, 3, 5, 6, 21, 22, 23, 43, 44, 45])
def c41_15 : ACode :=
  (.region false [⟨some 49, none, .mv (.s 6)⟩,
    ⟨some 50, none, .mv (.s 12)⟩,
    ⟨none, none, .nw (.mupd [.str] false (.s 49) (.s 50) (.c (.t (.bool true))))⟩] [] [2, 3, 5, 6, 21, 22, 23, 43, 44, 45])
def c41_16 : ACode :=
  (.seq (.region false [⟨some 47, none, .ia 1 (.s 43) (.s 45)⟩,
    ⟨some 48, none, .ld false 1 (.s 47)⟩,
    ⟨some 12, none, .mv (.s 48)⟩] [] [2, 3, 5, 6, 12, 21, 22, 23, 43, 44, 45]) c41_15)
def c41_17 : ACode :=
  (.seq (.block 3 c41_16) c41_14)
def c41_18 : ACode :=
  (.seq (.cond (.s 46) .skip (.exit 2)) c41_17)
def c41_19 : ACode :=
  (.seq (.region false [⟨some 46, none, .bin .lss (.s 45) (.s 44)⟩] [] [2, 3, 5, 6, 21, 22, 23, 43, 44, 45, 46]) c41_18)
def c41_20 : ACode :=
  (.loop c41_19)
def c41_21 : ACode :=
  (.block 2 c41_20)
def c41_22 : ACode :=
  (.seq (.region false [⟨some 43, none, .mv (.s 9)⟩,
    ⟨some 44, none, .len (.s 43)⟩,
    ⟨some 45, none, .cst (.t (.int .i64 0))⟩] [] [2, 3, 5, 6, 21, 22, 23, 43, 44, 45]) c41_21)
def c41_23 : ACode :=
  (.seq (.region false [⟨some 37, none, .ld true 2 (.s 3)⟩,
    ⟨some 38, none, .fa 3 (.s 8)⟩,
    ⟨some 39, none, .ld false 1 (.s 38)⟩,
    ⟨some 40, none, .call 71 [(.s 37), (.s 39), (.c (.nils))]⟩,
    ⟨some 36, none, .mv (.s 40)⟩,
    ⟨some 41, none, .ext (.s 36) 0⟩,
    ⟨some 42, none, .ext (.s 36) 1⟩,
    ⟨some 9, none, .mv (.s 41)⟩,
    ⟨some 10, none, .mv (.s 42)⟩] [] [2, 3, 5, 6, 9, 21, 22, 23]) c41_22)
def c41_24 : ACode :=
  (.seq (.region true [⟨some 27, none, .mv (.s 5)⟩,
    ⟨some 28, none, .fa 3 (.s 8)⟩,
    ⟨some 29, none, .ld false 1 (.s 28)⟩,
    ⟨some 30, none, .fa 0 (.s 8)⟩,
    ⟨some 31, none, .ld false 1 (.s 30)⟩,
    ⟨some 32, none, .call 78 [(.s 31)]⟩,
    ⟨some 33, none, .fa 1 (.s 8)⟩,
    ⟨some 34, none, .ld false 1 (.s 33)⟩,
    ⟨some 35, none, .call 77 [(.s 27), (.s 29), (.s 32), (.s 34)]⟩] [[], [], [1], [], [3], [4], [], [6], [0, 2, 5, 7, 5]] [2, 3, 5, 6, 8, 21, 22, 23]) c41_23)
def c41_25 : ACode :=
  (.seq (.region false [⟨some 25, none, .ia 4 (.s 21) (.s 23)⟩,
    ⟨some 26, none, .ld true 4 (.s 25)⟩,
    ⟨some 8, none, .alloc [.t (.int .i64 0), .t (.str []), .nils, .nils]⟩,
    ⟨none, none, .st 4 (.s 8) (.s 26)⟩] [] [2, 3, 5, 6, 8, 21, 22, 23]) c41_24)
def c41_26 : ACode :=
  (.seq (.block 1 c41_25) c41_13)
def c41_27 : ACode :=
  (.seq (.cond (.s 24) .skip (.exit 0)) c41_26)
def c41_28 : ACode :=
  (.seq (.region false [⟨some 24, none, .bin .lss (.s 23) (.s 22)⟩] [] [2, 3, 5, 6, 21, 22, 23, 24]) c41_27)
def c41_29 : ACode :=
  (.loop c41_28)
def c41_30 : ACode :=
  (.block 0 c41_29)
def c41_31 : ACode :=
  (.seq (.seq (.region false [⟨some 20, none, .fa 0 (.s 3)⟩,
    ⟨some 21, none, .ld false 1 (.s 20)⟩,
    ⟨some 22, none, .len (.s 21)⟩,
    ⟨some 23, none, .cst (.t (.int .i64 0))⟩] [] [2, 3, 5, 6, 21, 22, 23]) c41_30) c41_12)
def c41_32 : ACode :=
  (.seq (.region false [⟨some 19, none, .mkmap false false⟩,
    ⟨some 6, none, .mv (.s 19)⟩] [] [2, 3, 5, 6]) c41_31)
def c41_33 : ACode :=
  (.seq (.region false [⟨some 15, none, .ld true 1 (.s 2)⟩,
    ⟨some 16, none, .ld true 2 (.s 3)⟩,
    ⟨some 17, none, .build [.nils, .nils, .nils, .nils] [(0, 1, (.s 15)), (1, 2, (.s 16))]⟩,
    ⟨some 18, none, .box 4 (.s 17)⟩,
    ⟨some 5, none, .mv (.s 18)⟩] [] [2, 3, 5]) c41_32)
def c41 : ACode :=
  (.seq (.region false [⟨some 2, none, .box 1 (.s 0)⟩,
    ⟨some 3, none, .box 2 (.s 1)⟩,
    ⟨some 4, none, .cst (.nils)⟩] [] [2, 3]) c41_33)
def r41 : List ARes := [.tmp 4]
def n41 : Nat := 98
/- 42 supergraph supergraphref13.Check -/
/- 43 supergraph supergraphref10.Composite -/
/- 69 supergraph supergraphref13.deep -/
def c69_0 : ACode :=
  (.seq (.region false [⟨some 4, none, .cst (.t (.bool false))⟩] [] [4]) .ret)
def c69_1 : ACode :=
  (.region false [⟨some 10, none, .mv (.s 5)⟩,
    ⟨some 11, none, .bin .add (.s 10) (.c (.t (.int .i64 1)))⟩,
    ⟨some 5, none, .mv (.s 11)⟩] [] [0, 1, 5])
def c69_2 : ACode :=
  (.seq (.region false [⟨some 4, none, .cst (.t (.bool true))⟩] [] [4]) .ret)
def c69_3 : ACode :=
  (.cond (.s 23) c69_2 .skip)
def c69_4 : ACode :=
  (.seq (.region false [⟨some 12, none, .mv (.s 1)⟩,
    ⟨some 13, none, .bin .leq (.s 12) (.c (.t (.int .i64 0)))⟩,
    ⟨some 14, none, .mv (.s 13)⟩,
    ⟨some 15, some (14, false), .mv (.s 0)⟩,
    ⟨some 16, some (14, false), .mv (.s 5)⟩,
    ⟨some 17, some (14, false), .ia 7 (.s 15) (.s 16)⟩,
    ⟨some 18, some (14, false), .fa 6 (.s 17)⟩,
    ⟨some 19, some (14, false), .ld false 1 (.s 18)⟩,
    ⟨some 20, some (14, false), .mv (.s 1)⟩,
    ⟨some 21, some (14, false), .bin .sub (.s 20) (.c (.t (.int .i64 1)))⟩,
    ⟨some 22, some (14, false), .call 69 [(.s 19), (.s 21)]⟩,
    ⟨some 23, none, .pick (.s 14) (.c (.t (.bool true))) (.s 22)⟩] [] [0, 1, 5, 23]) c69_3)
def c69_5 : ACode :=
  (.seq (.block 1 c69_4) c69_1)
def c69_6 : ACode :=
  (.cond (.s 9) .skip (.exit 0))
def c69_7 : ACode :=
  (.seq (.seq (.region false [⟨some 6, none, .mv (.s 5)⟩,
    ⟨some 7, none, .mv (.s 0)⟩,
    ⟨some 8, none, .len (.s 7)⟩,
    ⟨some 9, none, .bin .lss (.s 6) (.s 8)⟩] [] [0, 1, 5, 9]) c69_6) c69_5)
def c69_8 : ACode :=
  (.loop c69_7)
def c69_9 : ACode :=
  (.block 0 c69_8)
def c69_10 : ACode :=
  (.seq (.seq (.region false [⟨some 5, none, .cst (.t (.int .i64 0))⟩] [] [0, 1, 5]) c69_9) c69_0)
def c69 : ACode :=
  (.seq (.region false [⟨some 4, none, .cst (.t (.bool false))⟩] [] [0, 1]) c69_10)
def r69 : List ARes := [.tmp 4]
def n69 : Nat := 24
/- 70 supergraph supergraphref13.count -/
def c70_0 : ACode :=
  (.seq (.region false [⟨some 44, none, .mv (.s 5)⟩,
    ⟨some 4, none, .mv (.s 44)⟩] [] [4]) .ret)
def c70_1 : ACode :=
  (.region false [⟨some 16, none, .mv (.s 6)⟩,
    ⟨some 17, none, .bin .add (.s 16) (.c (.t (.int .i64 1)))⟩,
    ⟨some 6, none, .mv (.s 17)⟩] [] [0, 1, 5, 6])
def c70_2 : ACode :=
  (.region true [⟨some 18, none, .mv (.s 5)⟩,
    ⟨some 19, none, .mv (.s 0)⟩,
    ⟨some 20, none, .mv (.s 6)⟩,
    ⟨some 21, none, .ia 7 (.s 19) (.s 20)⟩,
    ⟨some 22, none, .fa 4 (.s 21)⟩,
    ⟨some 23, none, .ld false 1 (.s 22)⟩,
    ⟨some 24, none, .len (.s 23)⟩,
    ⟨some 25, none, .bin .add (.c (.t (.int .i64 1))) (.s 24)⟩,
    ⟨some 26, none, .mv (.s 0)⟩,
    ⟨some 27, none, .mv (.s 6)⟩,
    ⟨some 28, none, .ia 7 (.s 26) (.s 27)⟩,
    ⟨some 29, none, .fa 5 (.s 28)⟩,
    ⟨some 30, none, .ld false 1 (.s 29)⟩,
    ⟨some 31, none, .len (.s 30)⟩,
    ⟨some 32, none, .bin .add (.s 25) (.s 31)⟩,
    ⟨some 33, none, .mv (.s 0)⟩,
    ⟨some 34, none, .mv (.s 6)⟩,
    ⟨some 35, none, .ia 7 (.s 33) (.s 34)⟩,
    ⟨some 36, none, .fa 6 (.s 35)⟩,
    ⟨some 37, none, .ld false 1 (.s 36)⟩,
    ⟨some 38, none, .mv (.s 1)⟩,
    ⟨some 39, none, .mv (.s 5)⟩,
    ⟨some 40, none, .bin .sub (.s 38) (.s 39)⟩,
    ⟨some 41, none, .call 70 [(.s 37), (.s 40)]⟩,
    ⟨some 42, none, .bin .add (.s 32) (.s 41)⟩,
    ⟨some 43, none, .bin .add (.s 18) (.s 42)⟩,
    ⟨some 5, none, .mv (.s 43)⟩] [[], [], [], [1, 2], [3], [4], [5], [6], [], [], [8, 9], [10], [11], [12], [7, 13], [], [], [15, 16], [17], [18], [], [], [20, 21], [19, 22], [14, 23], [0, 24], [25, 23, 0, 1, 2, 3, 4, 5, 6, 7, 8, 9, 10, 11, 12, 13, 14, 15, 16, 17, 18, 19, 20, 21, 22, 23, 24, 25]] [0, 1, 5, 6])
def c70_3 : ACode :=
  (.seq (.block 1 c70_2) c70_1)
def c70_4 : ACode :=
  (.cond (.s 15) .skip (.exit 0))
def c70_5 : ACode :=
  (.seq (.seq (.region false [⟨some 7, none, .mv (.s 6)⟩,
    ⟨some 8, none, .mv (.s 0)⟩,
    ⟨some 9, none, .len (.s 8)⟩,
    ⟨some 10, none, .bin .lss (.s 7) (.s 9)⟩,
    ⟨some 11, none, .mv (.s 10)⟩,
    ⟨some 12, some (11, true), .mv (.s 5)⟩,
    ⟨some 13, some (11, true), .mv (.s 1)⟩,
    ⟨some 14, some (11, true), .bin .lss (.s 12) (.s 13)⟩,
    ⟨some 15, none, .pick (.s 11) (.s 14) (.c (.t (.bool false)))⟩] [] [0, 1, 5, 6, 15]) c70_4) c70_3)
def c70_6 : ACode :=
  (.loop c70_5)
def c70_7 : ACode :=
  (.block 0 c70_6)
def c70_8 : ACode :=
  (.seq (.seq (.region false [⟨some 6, none, .cst (.t (.int .i64 0))⟩] [] [0, 1, 5, 6]) c70_7) c70_0)
def c70_9 : ACode :=
  (.seq (.region false [⟨some 5, none, .cst (.t (.int .i64 0))⟩] [] [0, 1, 5]) c70_8)
def c70 : ACode :=
  (.seq (.region false [⟨some 4, none, .cst (.t (.int .i64 0))⟩] [] [0, 1]) c70_9)
def r70 : List ARes := [.tmp 4]
def n70 : Nat := 45
/- 71 supergraph fragment.walk -/
def c71_0 : ACode :=
  (.seq (.region false [⟨some 64, none, .mv (.s 2)⟩,
    ⟨some 65, none, .mv (.s 8)⟩,
    ⟨some 6, none, .mv (.s 64)⟩,
    ⟨some 7, none, .mv (.s 65)⟩] [] [6, 7]) .ret)
def c71_1 : ACode :=
  (.region false [⟨some 63, none, .bin .add (.s 17) (.c (.t (.int .i64 1)))⟩,
    ⟨some 17, none, .mv (.s 63)⟩] [] [2, 3, 8, 15, 16, 17])
def c71_2 : ACode :=
  (.region false [⟨some 59, none, .mv (.s 8)⟩,
    ⟨some 60, none, .mv (.s 59)⟩,
    ⟨some 61, some (60, true), .mv (.s 14)⟩,
    ⟨some 62, none, .pick (.s 60) (.s 61) (.c (.t (.bool false)))⟩,
    ⟨some 8, none, .mv (.s 62)⟩] [] [2, 3, 8, 15, 16, 17])
def c71_3 : ACode :=
  (.seq (.region false [⟨some 53, none, .ld true 2 (.s 3)⟩,
    ⟨some 54, none, .mv (.s 11)⟩,
    ⟨some 55, none, .mv (.s 2)⟩,
    ⟨some 56, none, .call 71 [(.s 53), (.s 54), (.s 55)]⟩,
    ⟨some 52, none, .mv (.s 56)⟩,
    ⟨some 57, none, .ext (.s 52) 0⟩,
    ⟨some 58, none, .ext (.s 52) 1⟩,
    ⟨some 2, none, .mv (.s 57)⟩,
    ⟨some 14, none, .mv (.s 58)⟩] [] [2, 3, 8, 14, 15, 16, 17]) c71_2)
def c71_4 : ACode :=
  (.seq (.region false [⟨some 14, none, .cst (.t (.bool false))⟩] [] [2, 3, 8, 11, 15, 16, 17]) c71_3)
def c71_5 : ACode :=
  (.region false [⟨some 50, none, .fa 2 (.s 12)⟩,
    ⟨some 51, none, .ld false 1 (.s 50)⟩,
    ⟨some 11, none, .mv (.s 51)⟩] [] [2, 3, 8, 11, 15, 16, 17])
def c71_6 : ACode :=
  (.seq (.region false [⟨some 45, none, .mv (.s 2)⟩,
    ⟨some 46, none, .fa 2 (.s 10)⟩,
    ⟨some 47, none, .ld false 1 (.s 46)⟩,
    ⟨some 48, none, .bsl false 1 [[.str []]] [(0, (.s 47))]⟩,
    ⟨some 49, none, .app 1 16 (.s 45) (.s 48)⟩,
    ⟨some 2, none, .mv (.s 49)⟩] [] [2, 3, 8, 12, 15, 16, 17]) c71_5)
def c71_7 : ACode :=
  (.cond (.s 44) (.exit 1) .skip)
def c71_8 : ACode :=
  (.seq (.seq (.region false [⟨some 37, none, .mv (.s 13)⟩,
    ⟨some 38, none, .un .not (.s 37)⟩,
    ⟨some 39, none, .mv (.s 38)⟩,
    ⟨some 40, some (39, false), .mv (.s 2)⟩,
    ⟨some 41, some (39, false), .fa 2 (.s 10)⟩,
    ⟨some 42, some (39, false), .ld false 1 (.s 41)⟩,
    ⟨some 43, some (39, false), .call 68 [(.s 40), (.s 42)]⟩,
    ⟨some 44, none, .pick (.s 39) (.c (.t (.bool true))) (.s 43)⟩] [] [2, 3, 8, 10, 12, 15, 16, 17, 44]) c71_7) c71_6)
def c71_9 : ACode :=
  (.seq (.region false [⟨some 33, none, .mv (.s 8)⟩,
    ⟨some 34, none, .mv (.s 33)⟩,
    ⟨some 35, some (34, true), .mv (.s 13)⟩,
    ⟨some 36, none, .pick (.s 34) (.s 35) (.c (.t (.bool false)))⟩,
    ⟨some 8, none, .mv (.s 36)⟩] [] [2, 3, 8, 10, 12, 13, 15, 16, 17]) c71_8)
def c71_10 : ACode :=
  (.seq (.region false [⟨some 27, none, .ld true 2 (.s 3)⟩,
    ⟨some 28, none, .fa 2 (.s 10)⟩,
    ⟨some 29, none, .ld false 1 (.s 28)⟩,
    ⟨some 30, none, .call 37 [(.s 27), (.s 29)]⟩,
    ⟨some 26, none, .mv (.s 30)⟩,
    ⟨some 31, none, .ext (.s 26) 0⟩,
    ⟨some 32, none, .ext (.s 26) 1⟩,
    ⟨some 12, none, .alloc [.t (.str []), .t (.str []), .nils]⟩,
    ⟨none, none, .st 3 (.s 12) (.s 31)⟩,
    ⟨some 13, none, .mv (.s 32)⟩] [] [2, 3, 8, 10, 12, 13, 15, 16, 17]) c71_9)
def c71_11 : ACode :=
  (.cond (.s 25) c71_10 .skip)
def c71_12 : ACode :=
  (.seq (.seq (.region false [⟨some 23, none, .fa 0 (.s 10)⟩,
    ⟨some 24, none, .ld false 1 (.s 23)⟩,
    ⟨some 25, none, .bin .eql (.s 24) (.c (.t (.int .i64 2)))⟩] [] [2, 3, 8, 10, 11, 15, 16, 17, 25]) c71_11) c71_4)
def c71_13 : ACode :=
  (.seq (.region false [⟨some 21, none, .fa 6 (.s 10)⟩,
    ⟨some 22, none, .ld false 1 (.s 21)⟩,
    ⟨some 11, none, .mv (.s 22)⟩] [] [2, 3, 8, 10, 11, 15, 16, 17]) c71_12)
def c71_14 : ACode :=
  (.seq (.region false [⟨some 19, none, .ia 7 (.s 15) (.s 17)⟩,
    ⟨some 20, none, .ld true 7 (.s 19)⟩,
    ⟨some 10, none, .alloc [.t (.int .i64 0), .t (.str []), .t (.str []), .t (.str []), .nils, .nils, .nils]⟩,
    ⟨none, none, .st 7 (.s 10) (.s 20)⟩] [] [2, 3, 8, 10, 15, 16, 17]) c71_13)
def c71_15 : ACode :=
  (.seq (.block 1 c71_14) c71_1)
def c71_16 : ACode :=
  (.seq (.cond (.s 18) .skip (.exit 0)) c71_15)
def c71_17 : ACode :=
  (.seq (.region false [⟨some 18, none, .bin .lss (.s 17) (.s 16)⟩] [] [2, 3, 8, 15, 16, 17, 18]) c71_16)
def c71_18 : ACode :=
  (.loop c71_17)
def c71_19 : ACode :=
  (.block 0 c71_18)
def c71_20 : ACode :=
  (.seq (.seq (.region false [⟨some 15, none, .mv (.s 1)⟩,
    ⟨some 16, none, .len (.s 15)⟩,
    ⟨some 17, none, .cst (.t (.int .i64 0))⟩] [] [2, 3, 8, 15, 16, 17]) c71_19) c71_0)
def c71_21 : ACode :=
  (.seq (.region false [⟨some 8, none, .cst (.t (.bool true))⟩] [] [1, 2, 3, 8]) c71_20)
def c71 : ACode :=
  (.seq (.region false [⟨some 3, none, .box 2 (.s 0)⟩,
    ⟨some 6, none, .cst (.nils)⟩,
    ⟨some 7, none, .cst (.t (.bool false))⟩] [] [1, 2, 3]) c71_21)
def r71 : List ARes := [.tmp 6, .tmp 7]
def n71 : Nat := 66
/- 72 supergraph fragment.loops -/
def c72_0 : ACode :=
  (.seq (.region false [⟨some 14, none, .mv (.s 5)⟩,
    ⟨some 15, none, .fa 0 (.s 3)⟩,
    ⟨some 16, none, .ld false 1 (.s 15)⟩,
    ⟨some 17, none, .call 68 [(.s 14), (.s 16)]⟩,
    ⟨some 4, none, .mv (.s 17)⟩] [] [4]) .ret)
def c72_1 : ACode :=
  (.seq (.region false [⟨some 8, none, .ld true 2 (.s 2)⟩,
    ⟨some 9, none, .fa 2 (.s 3)⟩,
    ⟨some 10, none, .ld false 1 (.s 9)⟩,
    ⟨some 11, none, .call 71 [(.s 8), (.s 10), (.c (.nils))]⟩,
    ⟨some 7, none, .mv (.s 11)⟩,
    ⟨some 12, none, .ext (.s 7) 0⟩,
    ⟨some 13, none, .ext (.s 7) 1⟩,
    ⟨some 5, none, .mv (.s 12)⟩,
    ⟨some 6, none, .mv (.s 13)⟩] [] [3, 5]) c72_0)
def c72 : ACode :=
  (.seq (.region false [⟨some 2, none, .box 2 (.s 0)⟩,
    ⟨some 3, none, .box 3 (.s 1)⟩,
    ⟨some 4, none, .cst (.t (.bool false))⟩] [] [2, 3]) c72_1)
def r72 : List ARes := [.tmp 4]
def n72 : Nat := 18
/- 73 supergraph supergraphref13.visit -/
def c73_0 : ACode :=
  (.seq (.region false [⟨some 71, none, .mv (.s 2)⟩,
    ⟨some 72, none, .mv (.s 8)⟩,
    ⟨some 6, none, .mv (.s 71)⟩,
    ⟨some 7, none, .mv (.s 72)⟩] [] [6, 7]) .ret)
def c73_1 : ACode :=
  (.region false [⟨some 19, none, .mv (.s 9)⟩,
    ⟨some 20, none, .bin .add (.s 19) (.c (.t (.int .i64 1)))⟩,
    ⟨some 9, none, .mv (.s 20)⟩] [] [1, 2, 3, 8, 9])
def c73_2 : ACode :=
  (.region false [⟨some 67, none, .mv (.s 8)⟩,
    ⟨some 68, none, .mv (.s 67)⟩,
    ⟨some 69, some (68, true), .mv (.s 14)⟩,
    ⟨some 70, none, .pick (.s 68) (.s 69) (.c (.t (.bool false)))⟩,
    ⟨some 8, none, .mv (.s 70)⟩] [] [1, 2, 3, 8, 9])
def c73_3 : ACode :=
  (.seq (.region false [⟨some 66, none, .mv (.s 13)⟩,
    ⟨some 2, none, .mv (.s 66)⟩] [] [1, 2, 3, 8, 9, 14]) c73_2)
def c73_4 : ACode :=
  (.seq (.region false [⟨some 60, none, .ld true 2 (.s 3)⟩,
    ⟨some 61, none, .mv (.s 10)⟩,
    ⟨some 62, none, .mv (.s 2)⟩,
    ⟨some 63, none, .call 73 [(.s 60), (.s 61), (.s 62)]⟩,
    ⟨some 59, none, .mv (.s 63)⟩,
    ⟨some 64, none, .ext (.s 59) 0⟩,
    ⟨some 65, none, .ext (.s 59) 1⟩,
    ⟨some 13, none, .mv (.s 64)⟩,
    ⟨some 14, none, .mv (.s 65)⟩] [] [1, 3, 8, 9, 13, 14]) c73_3)
def c73_5 : ACode :=
  (.region false [⟨some 57, none, .fa 2 (.s 11)⟩,
    ⟨some 58, none, .ld false 1 (.s 57)⟩,
    ⟨some 10, none, .mv (.s 58)⟩] [] [1, 2, 3, 8, 9, 10])
def c73_6 : ACode :=
  (.seq (.region false [⟨some 52, none, .mv (.s 2)⟩,
    ⟨some 53, none, .fa 0 (.s 11)⟩,
    ⟨some 54, none, .ld false 1 (.s 53)⟩,
    ⟨some 55, none, .bsl false 1 [[.str []]] [(0, (.s 54))]⟩,
    ⟨some 56, none, .app 1 16 (.s 52) (.s 55)⟩,
    ⟨some 2, none, .mv (.s 56)⟩] [] [1, 2, 3, 8, 9, 11]) c73_5)
def c73_7 : ACode :=
  (.cond (.s 51) (.exit 1) .skip)
def c73_8 : ACode :=
  (.seq (.seq (.region false [⟨some 44, none, .mv (.s 12)⟩,
    ⟨some 45, none, .un .not (.s 44)⟩,
    ⟨some 46, none, .mv (.s 45)⟩,
    ⟨some 47, some (46, false), .mv (.s 2)⟩,
    ⟨some 48, some (46, false), .fa 0 (.s 11)⟩,
    ⟨some 49, some (46, false), .ld false 1 (.s 48)⟩,
    ⟨some 50, some (46, false), .call 127 [(.s 47), (.s 49)]⟩,
    ⟨some 51, none, .pick (.s 46) (.c (.t (.bool true))) (.s 50)⟩] [] [1, 2, 3, 8, 9, 11, 51]) c73_7) c73_6)
def c73_9 : ACode :=
  (.region false [⟨some 8, none, .cst (.t (.bool false))⟩] [] [1, 2, 3, 8, 9, 11, 12])
def c73_10 : ACode :=
  (.cond (.s 43) c73_9 .skip)
def c73_11 : ACode :=
  (.seq (.seq (.region false [⟨some 42, none, .mv (.s 12)⟩,
    ⟨some 43, none, .un .not (.s 42)⟩] [] [1, 2, 3, 8, 9, 11, 12, 43]) c73_10) c73_8)
def c73_12 : ACode :=
  (.seq (.region true [⟨some 33, none, .ld true 2 (.s 3)⟩,
    ⟨some 34, none, .mv (.s 1)⟩,
    ⟨some 35, none, .mv (.s 9)⟩,
    ⟨some 36, none, .ia 7 (.s 34) (.s 35)⟩,
    ⟨some 37, none, .fa 2 (.s 36)⟩,
    ⟨some 38, none, .ld false 1 (.s 37)⟩,
    ⟨some 39, none, .call 38 [(.s 33), (.s 38)]⟩,
    ⟨some 32, none, .mv (.s 39)⟩,
    ⟨some 40, none, .ext (.s 32) 0⟩,
    ⟨some 41, none, .ext (.s 32) 1⟩,
    ⟨some 11, none, .alloc [.t (.str []), .t (.str []), .nils]⟩,
    ⟨none, none, .st 3 (.s 11) (.s 40)⟩,
    ⟨some 12, none, .mv (.s 41)⟩] [[], [], [], [1, 2], [3], [4], [0, 5], [6], [7], [7], [], [10, 8, 6, 0, 1, 2, 3, 4, 5, 6, 7, 8, 10], [9, 11, 0, 1, 2, 3, 4, 5, 6, 7, 8, 9, 10, 11]] [1, 2, 3, 8, 9, 11, 12]) c73_11)
def c73_13 : ACode :=
  (.cond (.s 31) c73_12 .skip)
def c73_14 : ACode :=
  (.seq (.seq (.region false [⟨some 26, none, .mv (.s 1)⟩,
    ⟨some 27, none, .mv (.s 9)⟩,
    ⟨some 28, none, .ia 7 (.s 26) (.s 27)⟩,
    ⟨some 29, none, .fa 0 (.s 28)⟩,
    ⟨some 30, none, .ld false 1 (.s 29)⟩,
    ⟨some 31, none, .bin .eql (.s 30) (.c (.t (.int .i64 2)))⟩] [] [1, 2, 3, 8, 9, 10, 31]) c73_13) c73_4)
def c73_15 : ACode :=
  (.seq (.region false [⟨some 21, none, .mv (.s 1)⟩,
    ⟨some 22, none, .mv (.s 9)⟩,
    ⟨some 23, none, .ia 7 (.s 21) (.s 22)⟩,
    ⟨some 24, none, .fa 6 (.s 23)⟩,
    ⟨some 25, none, .ld false 1 (.s 24)⟩,
    ⟨some 10, none, .mv (.s 25)⟩] [] [1, 2, 3, 8, 9, 10]) c73_14)
def c73_16 : ACode :=
  (.seq (.block 1 c73_15) c73_1)
def c73_17 : ACode :=
  (.cond (.s 18) .skip (.exit 0))
def c73_18 : ACode :=
  (.seq (.seq (.region false [⟨some 15, none, .mv (.s 9)⟩,
    ⟨some 16, none, .mv (.s 1)⟩,
    ⟨some 17, none, .len (.s 16)⟩,
    ⟨some 18, none, .bin .lss (.s 15) (.s 17)⟩] [] [1, 2, 3, 8, 9, 18]) c73_17) c73_16)
def c73_19 : ACode :=
  (.loop c73_18)
def c73_20 : ACode :=
  (.block 0 c73_19)
def c73_21 : ACode :=
  (.seq (.seq (.region false [⟨some 9, none, .cst (.t (.int .i64 0))⟩] [] [1, 2, 3, 8, 9]) c73_20) c73_0)
def c73_22 : ACode :=
  (.seq (.region false [⟨some 8, none, .cst (.t (.bool true))⟩] [] [1, 2, 3, 8]) c73_21)
def c73 : ACode :=
  (.seq (.region false [⟨some 3, none, .box 2 (.s 0)⟩,
    ⟨some 6, none, .cst (.nils)⟩,
    ⟨some 7, none, .cst (.t (.bool false))⟩] [] [1, 2, 3]) c73_22)
def r73 : List ARes := [.tmp 6, .tmp 7]
def n73 : Nat := 73
/- 74 supergraph supergraphref13.circular -/
def c74_0 : ACode :=
  (.seq (.region false [⟨some 14, none, .mv (.s 5)⟩,
    ⟨some 15, none, .fa 0 (.s 3)⟩,
    ⟨some 16, none, .ld false 1 (.s 15)⟩,
    ⟨some 17, none, .call 127 [(.s 14), (.s 16)]⟩,
    ⟨some 4, none, .mv (.s 17)⟩] [] [4]) .ret)
def c74_1 : ACode :=
  (.seq (.region false [⟨some 8, none, .ld true 2 (.s 2)⟩,
    ⟨some 9, none, .fa 2 (.s 3)⟩,
    ⟨some 10, none, .ld false 1 (.s 9)⟩,
    ⟨some 11, none, .call 73 [(.s 8), (.s 10), (.c (.nils))]⟩,
    ⟨some 7, none, .mv (.s 11)⟩,
    ⟨some 12, none, .ext (.s 7) 0⟩,
    ⟨some 13, none, .ext (.s 7) 1⟩,
    ⟨some 5, none, .mv (.s 12)⟩,
    ⟨some 6, none, .mv (.s 13)⟩] [] [3, 5]) c74_0)
def c74 : ACode :=
  (.seq (.region false [⟨some 2, none, .box 2 (.s 0)⟩,
    ⟨some 3, none, .box 3 (.s 1)⟩,
    ⟨some 4, none, .cst (.t (.bool false))⟩] [] [2, 3]) c74_1)
def r74 : List ARes := [.tmp 4]
def n74 : Nat := 18
/- 75 supergraph supergraphref08.Right -/
/- 76 supergraph supergraphref11.Faces -/
/- 77 (*supergraph fragment.checker).sels -/
def c77_0 : ACode :=
  (.region false [⟨some 146, none, .bin .add (.s 22) (.c (.t (.int .i64 1)))⟩,
    ⟨some 22, none, .mv (.s 146)⟩] [] [0, 2, 3, 20, 21, 22])
def c77_1 : ACode :=
  (.region true [⟨some 89, none, .mv (.s 0)⟩,
    ⟨some 90, none, .mv (.s 11)⟩,
    ⟨some 91, none, .mv (.s 90)⟩,
    ⟨some 92, some (91, true), .mv (.s 0)⟩,
    ⟨some 93, some (91, true), .nilck (.s 92)⟩,
    ⟨some 94, some (91, true), .fa 0 (.s 93)⟩,
    ⟨some 95, some (91, true), .ld true 1 (.s 94)⟩,
    ⟨some 96, some (91, true), .fa 1 (.s 10)⟩,
    ⟨some 97, some (91, true), .ld false 1 (.s 96)⟩,
    ⟨some 98, some (91, true), .call 80 [(.s 95), (.s 97)]⟩,
    ⟨some 99, none, .pick (.s 91) (.s 98) (.c (.t (.bool false)))⟩,
    ⟨some 100, none, .mv (.s 99)⟩,
    ⟨some 101, some (100, true), .mv (.s 0)⟩,
    ⟨some 102, some (100, true), .mv (.s 2)⟩,
    ⟨some 103, some (100, true), .fa 1 (.s 10)⟩,
    ⟨some 104, some (100, true), .ld false 1 (.s 103)⟩,
    ⟨some 105, some (100, true), .call 133 [(.s 101), (.s 102), (.s 104)]⟩,
    ⟨some 106, none, .pick (.s 100) (.s 105) (.c (.t (.bool false)))⟩,
    ⟨some 107, none, .mv (.s 3)⟩,
    ⟨some 108, none, .call 79 [(.s 89), (.s 106), (.c (.t (.int .i64 25))), (.s 107)]⟩] [[], [], [1], [2], [3, 2], [4, 2], [5, 2], [2], [7, 2], [6, 8, 2, 2], [2, 9], [10, 9], [11], [11], [11], [14, 11], [12, 13, 15, 11, 11], [11, 16], [], [0, 17, 18, 16]] [0, 2, 3, 20, 21, 22])
def c77_2 : ACode :=
  (.seq (.region false [⟨some 84, none, .mv (.s 0)⟩,
    ⟨some 85, none, .mv (.s 11)⟩,
    ⟨some 86, none, .un .not (.s 85)⟩,
    ⟨some 87, none, .mv (.s 3)⟩,
    ⟨some 88, none, .call 79 [(.s 84), (.s 86), (.c (.t (.int .i64 24))), (.s 87)]⟩] [] [0, 2, 3, 10, 11, 20, 21, 22]) c77_1)
def c77_3 : ACode :=
  (.seq (.region true [⟨some 75, none, .mv (.s 0)⟩,
    ⟨some 76, none, .nilck (.s 75)⟩,
    ⟨some 77, none, .fa 1 (.s 76)⟩,
    ⟨some 78, none, .ld true 2 (.s 77)⟩,
    ⟨some 79, none, .fa 2 (.s 9)⟩,
    ⟨some 80, none, .ld false 1 (.s 79)⟩,
    ⟨some 81, none, .call 37 [(.s 78), (.s 80)]⟩,
    ⟨some 74, none, .mv (.s 81)⟩,
    ⟨some 82, none, .ext (.s 74) 0⟩,
    ⟨some 83, none, .ext (.s 74) 1⟩,
    ⟨some 10, none, .alloc [.t (.str []), .t (.str []), .nils]⟩,
    ⟨none, none, .st 3 (.s 10) (.s 82)⟩,
    ⟨some 11, none, .mv (.s 83)⟩] [[], [0], [1], [2], [], [4], [3, 5], [6], [7], [7], [], [10, 8, 6, 0, 1, 2, 3, 4, 5, 6, 7, 8, 10], [9, 11, 0, 1, 2, 3, 4, 5, 6, 7, 8, 9, 10, 11]] [0, 2, 3, 10, 11, 20, 21, 22]) c77_2)
def c77_4 : ACode :=
  (.region false [⟨some 140, none, .mv (.s 0)⟩,
    ⟨some 141, none, .fa 6 (.s 9)⟩,
    ⟨some 142, none, .ld false 1 (.s 141)⟩,
    ⟨some 143, none, .mv (.s 12)⟩,
    ⟨some 144, none, .mv (.s 3)⟩,
    ⟨some 145, none, .call 77 [(.s 140), (.s 142), (.s 143), (.s 144)]⟩] [] [0, 2, 3, 20, 21, 22])
def c77_5 : ACode :=
  (.region false [⟨some 129, none, .mv (.s 0)⟩,
    ⟨some 130, none, .mv (.s 13)⟩,
    ⟨some 131, none, .mv (.s 130)⟩,
    ⟨some 132, some (131, true), .mv (.s 0)⟩,
    ⟨some 133, some (131, true), .mv (.s 2)⟩,
    ⟨some 134, some (131, true), .fa 3 (.s 9)⟩,
    ⟨some 135, some (131, true), .ld false 1 (.s 134)⟩,
    ⟨some 136, some (131, true), .call 133 [(.s 132), (.s 133), (.s 135)]⟩,
    ⟨some 137, none, .pick (.s 131) (.s 136) (.c (.t (.bool false)))⟩,
    ⟨some 138, none, .mv (.s 3)⟩,
    ⟨some 139, none, .call 79 [(.s 129), (.s 137), (.c (.t (.int .i64 25))), (.s 138)]⟩] [] [0, 2, 3, 9, 12, 20, 21, 22])
def c77_6 : ACode :=
  (.seq (.region false [⟨some 124, none, .mv (.s 0)⟩,
    ⟨some 125, none, .mv (.s 13)⟩,
    ⟨some 126, none, .un .not (.s 125)⟩,
    ⟨some 127, none, .mv (.s 3)⟩,
    ⟨some 128, none, .call 79 [(.s 124), (.s 126), (.c (.t (.int .i64 24))), (.s 127)]⟩] [] [0, 2, 3, 9, 12, 13, 20, 21, 22]) c77_5)
def c77_7 : ACode :=
  (.seq (.region true [⟨some 117, none, .mv (.s 0)⟩,
    ⟨some 118, none, .nilck (.s 117)⟩,
    ⟨some 119, none, .fa 0 (.s 118)⟩,
    ⟨some 120, none, .ld true 1 (.s 119)⟩,
    ⟨some 121, none, .fa 3 (.s 9)⟩,
    ⟨some 122, none, .ld false 1 (.s 121)⟩,
    ⟨some 123, none, .call 80 [(.s 120), (.s 122)]⟩,
    ⟨some 13, none, .mv (.s 123)⟩] [[], [0], [1], [2], [], [4], [3, 5], [6, 6, 0, 1, 2, 3, 4, 5, 6]] [0, 2, 3, 9, 12, 13, 20, 21, 22]) c77_6)
def c77_8 : ACode :=
  (.seq (.region false [⟨some 115, none, .fa 3 (.s 9)⟩,
    ⟨some 116, none, .ld false 1 (.s 115)⟩,
    ⟨some 12, none, .mv (.s 116)⟩] [] [0, 2, 3, 9, 12, 20, 21, 22]) c77_7)
def c77_9 : ACode :=
  (.cond (.s 114) c77_8 .skip)
def c77_10 : ACode :=
  (.seq (.seq (.region false [⟨some 112, none, .fa 3 (.s 9)⟩,
    ⟨some 113, none, .ld false 1 (.s 112)⟩,
    ⟨some 114, none, .bin .neq (.s 113) (.c (.t (.str [])))⟩] [] [0, 2, 3, 9, 12, 20, 21, 22, 114]) c77_9) c77_4)
def c77_11 : ACode :=
  (.seq (.region false [⟨some 111, none, .mv (.s 2)⟩,
    ⟨some 12, none, .mv (.s 111)⟩] [] [0, 2, 3, 9, 12, 20, 21, 22]) c77_10)
def c77_12 : ACode :=
  (.region false [⟨some 63, none, .mv (.s 0)⟩,
    ⟨some 64, none, .fa 6 (.s 9)⟩,
    ⟨some 65, none, .ld false 1 (.s 64)⟩,
    ⟨some 66, none, .mv (.s 15)⟩,
    ⟨some 67, none, .mv (.s 3)⟩,
    ⟨some 68, none, .bin .add (.s 67) (.c (.t (.str [47])))⟩,
    ⟨some 69, none, .mv (.s 14)⟩,
    ⟨some 70, none, .bin .add (.s 68) (.s 69)⟩,
    ⟨some 71, none, .call 77 [(.s 63), (.s 65), (.s 66), (.s 70)]⟩] [] [0, 2, 3, 20, 21, 22])
def c77_13 : ACode :=
  (.region false [⟨some 60, none, .fa 2 (.s 18)⟩,
    ⟨some 61, none, .fa 0 (.s 60)⟩,
    ⟨some 62, none, .ld false 1 (.s 61)⟩,
    ⟨some 15, none, .mv (.s 62)⟩] [] [0, 2, 3, 9, 14, 15, 20, 21, 22])
def c77_14 : ACode :=
  (.cond (.s 59) c77_13 .skip)
def c77_15 : ACode :=
  (.seq (.region false [⟨some 59, none, .mv (.s 19)⟩] [] [0, 2, 3, 9, 14, 15, 18, 20, 21, 22, 59]) c77_14)
def c77_16 : ACode :=
  (.seq (.region false [⟨some 53, none, .ld true 7 (.s 16)⟩,
    ⟨some 54, none, .fa 2 (.s 9)⟩,
    ⟨some 55, none, .ld false 1 (.s 54)⟩,
    ⟨some 56, none, .call 134 [(.s 53), (.s 55)]⟩,
    ⟨some 52, none, .mv (.s 56)⟩,
    ⟨some 57, none, .ext (.s 52) 0⟩,
    ⟨some 58, none, .ext (.s 52) 1⟩,
    ⟨some 18, none, .alloc [.t (.str []), .nils, .t (.str []), .nils, .nils]⟩,
    ⟨none, none, .st 5 (.s 18) (.s 57)⟩,
    ⟨some 19, none, .mv (.s 58)⟩] [] [0, 2, 3, 9, 14, 15, 18, 19, 20, 21, 22]) c77_15)
def c77_17 : ACode :=
  (.cond (.s 51) c77_16 .skip)
def c77_18 : ACode :=
  (.seq (.region false [⟨some 43, none, .mv (.s 17)⟩,
    ⟨some 44, none, .mv (.s 43)⟩,
    ⟨some 45, some (44, true), .mv (.s 0)⟩,
    ⟨some 46, some (44, true), .nilck (.s 45)⟩,
    ⟨some 47, some (44, true), .fa 0 (.s 46)⟩,
    ⟨some 48, some (44, true), .ld true 1 (.s 47)⟩,
    ⟨some 49, some (44, true), .mv (.s 2)⟩,
    ⟨some 50, some (44, true), .call 80 [(.s 48), (.s 49)]⟩,
    ⟨some 51, none, .pick (.s 44) (.s 50) (.c (.t (.bool false)))⟩] [] [0, 2, 3, 9, 14, 15, 16, 20, 21, 22, 51]) c77_17)
def c77_19 : ACode :=
  (.seq (.seq (.region false [⟨some 35, none, .mv (.s 0)⟩,
    ⟨some 36, none, .nilck (.s 35)⟩,
    ⟨some 37, none, .fa 0 (.s 36)⟩,
    ⟨some 38, none, .ld true 1 (.s 37)⟩,
    ⟨some 39, none, .mv (.s 2)⟩,
    ⟨some 40, none, .call 87 [(.s 38), (.s 39)]⟩,
    ⟨some 34, none, .mv (.s 40)⟩,
    ⟨some 41, none, .ext (.s 34) 0⟩,
    ⟨some 42, none, .ext (.s 34) 1⟩,
    ⟨some 16, none, .alloc [.t (.int .i64 0), .t (.str []), .nils, .nils, .nils, .nils, .nils]⟩,
    ⟨none, none, .st 7 (.s 16) (.s 41)⟩,
    ⟨some 17, none, .mv (.s 42)⟩] [] [0, 2, 3, 9, 14, 15, 16, 17, 20, 21, 22]) c77_18) c77_12)
def c77_20 : ACode :=
  (.region false [⟨some 32, none, .fa 2 (.s 9)⟩,
    ⟨some 33, none, .ld false 1 (.s 32)⟩,
    ⟨some 14, none, .mv (.s 33)⟩] [] [0, 2, 3, 9, 14, 15, 20, 21, 22])
def c77_21 : ACode :=
  (.cond (.s 31) c77_20 .skip)
def c77_22 : ACode :=
  (.seq (.seq (.region false [⟨some 30, none, .mv (.s 14)⟩,
    ⟨some 31, none, .bin .eql (.s 30) (.c (.t (.str [])))⟩] [] [0, 2, 3, 9, 14, 15, 20, 21, 22, 31]) c77_21) c77_19)
def c77_23 : ACode :=
  (.seq (.region false [⟨some 28, none, .fa 1 (.s 9)⟩,
    ⟨some 29, none, .ld false 1 (.s 28)⟩,
    ⟨some 14, none, .mv (.s 29)⟩,
    ⟨some 15, none, .cst (.t (.str []))⟩] [] [0, 2, 3, 9, 14, 15, 20, 21, 22]) c77_22)
def c77_24 : ACode :=
  (.cond (.s 109) c77_11 c77_23)
def c77_25 : ACode :=
  (.seq (.region false [⟨some 110, none, .bin .eql (.s 27) (.c (.t (.int .i64 3)))⟩,
    ⟨some 109, none, .mv (.s 110)⟩] [] [0, 2, 3, 9, 20, 21, 22, 109]) c77_24)
def c77_26 : ACode :=
  (.cond (.s 72) c77_3 c77_25)
def c77_27 : ACode :=
  (.seq (.region false [⟨some 73, none, .bin .eql (.s 27) (.c (.t (.int .i64 2)))⟩,
    ⟨some 72, none, .mv (.s 73)⟩] [] [0, 2, 3, 9, 20, 21, 22, 27, 72]) c77_26)
def c77_28 : ACode :=
  (.block 2 c77_27)
def c77_29 : ACode :=
  (.seq (.region false [⟨some 26, none, .fa 0 (.s 9)⟩,
    ⟨some 27, none, .ld false 1 (.s 26)⟩] [] [0, 2, 3, 9, 20, 21, 22, 27]) c77_28)
def c77_30 : ACode :=
  (.seq (.region false [⟨some 24, none, .ia 7 (.s 20) (.s 22)⟩,
    ⟨some 25, none, .ld true 7 (.s 24)⟩,
    ⟨some 9, none, .alloc [.t (.int .i64 0), .t (.str []), .t (.str []), .t (.str []), .nils, .nils, .nils]⟩,
    ⟨none, none, .st 7 (.s 9) (.s 25)⟩] [] [0, 2, 3, 9, 20, 21, 22]) c77_29)
def c77_31 : ACode :=
  (.seq (.block 1 c77_30) c77_0)
def c77_32 : ACode :=
  (.seq (.cond (.s 23) .skip (.exit 0)) c77_31)
def c77_33 : ACode :=
  (.seq (.region false [⟨some 23, none, .bin .lss (.s 22) (.s 21)⟩] [] [0, 2, 3, 20, 21, 22, 23]) c77_32)
def c77_34 : ACode :=
  (.loop c77_33)
def c77_35 : ACode :=
  (.block 0 c77_34)
def c77 : ACode :=
  (.seq (.region false [⟨some 20, none, .mv (.s 1)⟩,
    ⟨some 21, none, .len (.s 20)⟩,
    ⟨some 22, none, .cst (.t (.int .i64 0))⟩] [] [0, 2, 3, 20, 21, 22]) c77_35)
def r77 : List ARes := []
def n77 : Nat := 147
/- 78 supergraph schema.Root -/
def c78_0 : ACode :=
  (.seq (.region false [⟨some 2, none, .cst (.t (.str []))⟩] [] [2]) .ret)
def c78_1 : ACode :=
  (.seq (.region false [⟨some 2, none, .cst (.t (.str [81, 117, 101, 114, 121]))⟩] [] [2]) .ret)
def c78_2 : ACode :=
  (.seq (.region false [⟨some 2, none, .cst (.t (.str [77, 117, 116, 97, 116, 105, 111, 110]))⟩] [] [2]) .ret)
def c78_3 : ACode :=
  (.seq (.region false [⟨some 2, none, .cst (.t (.str [83, 117, 98, 115, 99, 114, 105, 112, 116, 105, 111, 110]))⟩] [] [2]) .ret)
def c78_4 : ACode :=
  (.cond (.s 8) c78_3 .skip)
def c78_5 : ACode :=
  (.seq (.region false [⟨some 9, none, .bin .eql (.s 3) (.c (.t (.int .i64 3)))⟩,
    ⟨some 8, none, .mv (.s 9)⟩] [] [8]) c78_4)
def c78_6 : ACode :=
  (.cond (.s 6) c78_2 c78_5)
def c78_7 : ACode :=
  (.seq (.region false [⟨some 7, none, .bin .eql (.s 3) (.c (.t (.int .i64 2)))⟩,
    ⟨some 6, none, .mv (.s 7)⟩] [] [3, 6]) c78_6)
def c78_8 : ACode :=
  (.cond (.s 4) c78_1 c78_7)
def c78_9 : ACode :=
  (.seq (.region false [⟨some 5, none, .bin .eql (.s 3) (.c (.t (.int .i64 1)))⟩,
    ⟨some 4, none, .mv (.s 5)⟩] [] [3, 4]) c78_8)
def c78_10 : ACode :=
  (.block 0 c78_9)
def c78_11 : ACode :=
  (.seq (.seq (.region false [⟨some 3, none, .mv (.s 0)⟩] [] [3]) c78_10) c78_0)
def c78 : ACode :=
  (.seq (.region false [⟨some 2, none, .cst (.t (.str []))⟩] [] [0]) c78_11)
def r78 : List ARes := [.tmp 2]
def n78 : Nat := 10
/- 79 (*supergraph fragment.checker).add -/
def c79_0 : ACode :=
  (.region false [⟨some 9, none, .mv (.s 0)⟩,
    ⟨some 10, none, .mv (.s 0)⟩,
    ⟨some 11, none, .nilck (.s 10)⟩,
    ⟨some 12, none, .fa 3 (.s 11)⟩,
    ⟨some 13, none, .ld false 1 (.s 12)⟩,
    ⟨some 14, none, .mv (.s 2)⟩,
    ⟨some 15, none, .mv (.s 3)⟩,
    ⟨some 16, none, .build [.t (.int .i64 0), .t (.str [])] [(0, 1, (.s 14)), (1, 1, (.s 15))]⟩,
    ⟨some 17, none, .bsl false 2 [[.int .i64 0, .str []]] [(0, (.s 16))]⟩,
    ⟨some 18, none, .app 2 24 (.s 13) (.s 17)⟩,
    ⟨some 19, none, .nilck (.s 9)⟩,
    ⟨some 20, none, .fa 3 (.s 19)⟩,
    ⟨none, none, .st 1 (.s 20) (.s 18)⟩] [] [])
def c79_1 : ACode :=
  (.cond (.s 8) c79_0 .skip)
def c79 : ACode :=
  (.seq (.region false [⟨some 8, none, .mv (.s 1)⟩] [] [0, 2, 3, 8]) c79_1)
def r79 : List ARes := []
def n79 : Nat := 21
/- 80 supergraph schema.Composite -/
def c80_0 : ACode :=
  (.seq (.region false [⟨some 9, none, .mv (.s 1)⟩,
    ⟨some 10, none, .call 136 [(.s 9)]⟩,
    ⟨some 11, none, .un .not (.s 10)⟩,
    ⟨some 12, none, .mv (.s 11)⟩,
    ⟨some 13, some (12, true), .mv (.s 5)⟩,
    ⟨some 14, some (12, true), .bin .eql (.s 13) (.c (.t (.int .i64 1)))⟩,
    ⟨some 15, some (12, true), .mv (.s 14)⟩,
    ⟨some 16, some (15, false), .mv (.s 5)⟩,
    ⟨some 17, some (15, false), .bin .eql (.s 16) (.c (.t (.int .i64 2)))⟩,
    ⟨some 18, some (12, true), .pick (.s 15) (.c (.t (.bool true))) (.s 17)⟩,
    ⟨some 19, some (12, true), .mv (.s 18)⟩,
    ⟨some 20, some (19, false), .mv (.s 5)⟩,
    ⟨some 21, some (19, false), .bin .eql (.s 20) (.c (.t (.int .i64 3)))⟩,
    ⟨some 22, some (12, true), .pick (.s 19) (.c (.t (.bool true))) (.s 21)⟩,
    ⟨some 23, none, .pick (.s 12) (.s 22) (.c (.t (.bool false)))⟩,
    ⟨some 4, none, .mv (.s 23)⟩] [] [4]) .ret)
def c80_1 : ACode :=
  (.seq (.region false [⟨some 6, none, .ld true 1 (.s 2)⟩,
    ⟨some 7, none, .mv (.s 1)⟩,
    ⟨some 8, none, .call 135 [(.s 6), (.s 7)]⟩,
    ⟨some 5, none, .mv (.s 8)⟩] [] [1, 5]) c80_0)
def c80 : ACode :=
  (.seq (.region false [⟨some 2, none, .box 1 (.s 0)⟩,
    ⟨some 4, none, .cst (.t (.bool false))⟩] [] [1, 2]) c80_1)
def r80 : List ARes := [.tmp 4]
def n80 : Nat := 24
/- 81 supergraph supergraphref13.sels -/
/- 82 supergraph supergraphref13.known -/
/- 83 supergraph supergraphref10.Root -/
/- 84 supergraph supergraphref13.used -/
/- 127 supergraph supergraphref13.has -/
def c127_0 : ACode :=
  (.seq (.region false [⟨some 4, none, .cst (.t (.bool false))⟩] [] [4]) .ret)
def c127_1 : ACode :=
  (.region false [⟨some 10, none, .mv (.s 5)⟩,
    ⟨some 11, none, .bin .add (.s 10) (.c (.t (.int .i64 1)))⟩,
    ⟨some 5, none, .mv (.s 11)⟩] [] [0, 1, 5])
def c127_2 : ACode :=
  (.seq (.region false [⟨some 4, none, .cst (.t (.bool true))⟩] [] [4]) .ret)
def c127_3 : ACode :=
  (.cond (.s 17) c127_2 .skip)
def c127_4 : ACode :=
  (.seq (.region false [⟨some 12, none, .mv (.s 0)⟩,
    ⟨some 13, none, .mv (.s 5)⟩,
    ⟨some 14, none, .ia 1 (.s 12) (.s 13)⟩,
    ⟨some 15, none, .ld false 1 (.s 14)⟩,
    ⟨some 16, none, .mv (.s 1)⟩,
    ⟨some 17, none, .bin .eql (.s 15) (.s 16)⟩] [] [0, 1, 5, 17]) c127_3)
def c127_5 : ACode :=
  (.seq (.block 1 c127_4) c127_1)
def c127_6 : ACode :=
  (.cond (.s 9) .skip (.exit 0))
def c127_7 : ACode :=
  (.seq (.seq (.region false [⟨some 6, none, .mv (.s 5)⟩,
    ⟨some 7, none, .mv (.s 0)⟩,
    ⟨some 8, none, .len (.s 7)⟩,
    ⟨some 9, none, .bin .lss (.s 6) (.s 8)⟩] [] [0, 1, 5, 9]) c127_6) c127_5)
def c127_8 : ACode :=
  (.loop c127_7)
def c127_9 : ACode :=
  (.block 0 c127_8)
def c127_10 : ACode :=
  (.seq (.seq (.region false [⟨some 5, none, .cst (.t (.int .i64 0))⟩] [] [0, 1, 5]) c127_9) c127_0)
def c127 : ACode :=
  (.seq (.region false [⟨some 4, none, .cst (.t (.bool false))⟩] [] [0, 1]) c127_10)
def r127 : List ARes := [.tmp 4]
def n127 : Nat := 18
/- 128 supergraph supergraphref08.varsRight -/
/- 129 supergraph supergraphref08.selsRight -/
/- 130 supergraph supergraphref08.title -/
/- 131 supergraph supergraphref11.object -/
/- 132 supergraph supergraphref11.union -/
/- 133 (*supergraph fragment.checker).apart -/
def c133_0 : ACode :=
  (.seq (.region false [⟨some 7, none, .mv (.s 0)⟩,
    ⟨some 8, none, .nilck (.s 7)⟩,
    ⟨some 9, none, .fa 0 (.s 8)⟩,
    ⟨some 10, none, .ld true 1 (.s 9)⟩,
    ⟨some 11, none, .mv (.s 1)⟩,
    ⟨some 12, none, .call 80 [(.s 10), (.s 11)]⟩,
    ⟨some 13, none, .mv (.s 12)⟩,
    ⟨some 14, some (13, true), .mv (.s 0)⟩,
    ⟨some 15, some (13, true), .nilck (.s 14)⟩,
    ⟨some 16, some (13, true), .fa 0 (.s 15)⟩,
    ⟨some 17, some (13, true), .ld true 1 (.s 16)⟩,
    ⟨some 18, some (13, true), .mv (.s 1)⟩,
    ⟨some 19, some (13, true), .mv (.s 2)⟩,
    ⟨some 20, some (13, true), .call 49 [(.s 17), (.s 18), (.s 19)]⟩,
    ⟨some 21, some (13, true), .un .not (.s 20)⟩,
    ⟨some 22, none, .pick (.s 13) (.s 21) (.c (.t (.bool false)))⟩,
    ⟨some 6, none, .mv (.s 22)⟩] [] [6]) .ret)
def c133 : ACode :=
  (.seq (.region false [⟨some 6, none, .cst (.t (.bool false))⟩] [] [0, 1, 2]) c133_0)
def r133 : List ARes := [.tmp 6]
def n133 : Nat := 23
/- 135 supergraph schema.kind -/
def c135_0 : ACode :=
  (.seq (.region false [⟨some 13, none, .fa 0 (.s 5)⟩,
    ⟨some 14, none, .ld false 1 (.s 13)⟩,
    ⟨some 4, none, .mv (.s 14)⟩] [] [4]) .ret)
def c135_1 : ACode :=
  (.seq (.region false [⟨some 8, none, .ld true 1 (.s 2)⟩,
    ⟨some 9, none, .mv (.s 1)⟩,
    ⟨some 10, none, .call 87 [(.s 8), (.s 9)]⟩,
    ⟨some 7, none, .mv (.s 10)⟩,
    ⟨some 11, none, .ext (.s 7) 0⟩,
    ⟨some 12, none, .ext (.s 7) 1⟩,
    ⟨some 5, none, .alloc [.t (.int .i64 0), .t (.str []), .nils, .nils, .nils, .nils, .nils]⟩,
    ⟨none, none, .st 7 (.s 5) (.s 11)⟩,
    ⟨some 6, none, .mv (.s 12)⟩] [] [5]) c135_0)
def c135 : ACode :=
  (.seq (.region false [⟨some 2, none, .box 1 (.s 0)⟩,
    ⟨some 4, none, .cst (.t (.int .i64 0))⟩] [] [1, 2]) c135_1)
def r135 : List ARes := [.tmp 4]
def n135 : Nat := 15
/- 137 supergraph supergraphref13.apart -/
/- 138 supergraph supergraphref13.within -/
/- 139 supergraph supergraphref13.key -/
/- 159 supergraph supergraphref02.Size -/
/- 164 supergraph supergraphref02.Literal -/
/- 165 supergraph supergraphref08.constant -/
/- 166 supergraph supergraphref08.selRight -/
/- 167 supergraph supergraphref11.kindOf -/
/- 168 supergraph supergraphref11.field -/
/- 179 supergraph supergraphref02.Depth -/
/- 180 supergraph supergraphref02.whole -/
/- 181 supergraph supergraphref08.dirsRight -/
/- 182 supergraph supergraphref08.argsRight -/
/- 183 supergraph supergraphref05.Same -/
/- 190 supergraph supergraphref02.node -/
/- 191 supergraph supergraphref02.twice -/
end Go.GB.C11


/-
  GbY: calls of functions that are handed objects: the whole store goes along.
-/
namespace Go.GB
section
variable {P : Program}

/-- the labels behind a call that was handed the names below m -/
def L.backFrom (Λ : L) (m m' : Nat) (Λ' : L) : L where
  lab := fun b => if Λ.high m b then Λ.lab b else Λ'.lab b
  fro := fun k => if k < m' then Λ'.fro k else Λ.fro k
  nxt := Λ.nxt
  w := Λ'.w

theorem FnOk.same {f : FuncId} {vs : List V} {m : Nat} {sto : List (Nat × AObj)} {out : Out} (h : FnOk P f vs ⟨sto, m⟩ out) (hrd : out.rd = true) (hb : V.bds m vs = true) (hs : stoBd m sto = true) (hob : ∀ k o, (k, o) ∈ out.ob → aget sto k ≠ none ∨ (m ≤ k ∧ k < m + out.n)) : FnAt P f vs m sto out := by
  refine ⟨h.1, hob, fun Λ args hr hle hfree hsz hargs => ?_⟩
  refine (h.2 (Λ.hideFrom m) args (hr.hf hs) rfl hsz fun j v y h1 h2 => (hargs j v y h1 h2).hf (V.bds_at hb j y h2)).mono fun e w' he => ?_
  obtain ⟨v, Λ', rfl, rfl, k1, k2, k3, k4⟩ := he
  simp only at k2 k3
  have hlt : ∀ {b : Nat}, Λ.high m b = true → b < Λ.w.heap.size := by
    intro b hh
    rcases Nat.lt_or_ge b Λ.w.heap.size with h | h
    · exact h
    · unfold L.high at hh; rw [hr.new b h] at hh; simp at hh
  have hH : ∀ {b : Nat}, Λ.high m b = true → (Λ.backFrom m (m + out.n) Λ').lab b = Λ.lab b := fun h => by simp [L.backFrom, h]
  have hL : ∀ {b : Nat}, Λ.high m b = false → (Λ.backFrom m (m + out.n) Λ').lab b = Λ'.lab b := fun h => by simp [L.backFrom, h]
  have hheap : ∀ {b : Nat}, Λ.high m b = true → ∃ fr, Λ'.lab b = .fix (some fr) ∧ Λ'.w.heap[b]? = Λ.w.heap[b]? ∧ ((∃ k, Λ.lab b = .obj k ∧ m ≤ k ∧ fr = 0) ∨ ∃ k, Λ.lab b = .arr k fr ∧ m ≤ k) := by
    intro b hh
    obtain ⟨fr, e1, e2⟩ := hf_high hh
    obtain ⟨g1, g2⟩ := k1.fr.fix b (hlt hh) _ e1
    exact ⟨fr, g1, g2, e2⟩
  have hlow : ∀ {b k : Nat}, k < m → (Λ.lab b = .obj k ∨ ∃ n, Λ.lab b = .arr k n) → Λ.high m b = false := by
    intro b k hk hb
    unfold L.high
    rcases hb with hb | ⟨n, hb⟩ <;> rw [hb] <;> simp <;> omega
  have hkp : Kp Λ (Λ.backFrom m (m + out.n) Λ') := by
    refine ⟨⟨k1.fr.os, k1.fr.tape, k1.fr.output, k1.fr.size, fun b hb fr hl => ?_, fun b hb k fr hl o ho => ?_⟩, Nat.le_refl _, fun b k _ hl => ?_, fun b k n _ hb hl hf => ?_, fun k hk => ?_⟩
    · have hh : Λ.high m b = false := by unfold L.high; rw [hl]
      obtain ⟨g1, g2⟩ := k1.fr.fix b hb fr (by rw [hf_low hh]; exact hl)
      exact ⟨by rw [hL hh]; exact g1, g2⟩
    · cases hh : Λ.high m b with
      | true =>
        obtain ⟨fr', g1, g2, g3⟩ := hheap hh
        exact ⟨by unfold Rd; rw [hH hh, hl]; exact ho, cell?_heap g2⟩
      | false =>
        obtain ⟨g1, g2⟩ := k1.fr.arr b hb k fr (by rw [hf_low hh]; exact hl) o ho
        exact ⟨by unfold Rd; rw [hL hh]; exact g1, g2⟩
    · cases hh : Λ.high m b with
      | true => rw [hH hh]; exact hl
      | false =>
        have hk : k < m := by unfold L.high at hh; rw [hl] at hh; simpa using hh
        rw [hL hh]; exact k1.obj b k hk (hf_obj hl hk)
    · cases hh : Λ.high m b with
      | true =>
        obtain ⟨fr', g1, g2, g3⟩ := hheap hh
        exact ⟨by rw [hH hh]; exact hl, g2⟩
      | false =>
        have hk : k < m := by unfold L.high at hh; rw [hl] at hh; simpa using hh
        have e1 : (Λ.hideFrom m).fro k = Λ.fro k := by simp [L.hideFrom, hk]
        have e2 : (Λ.backFrom m (m + out.n) Λ').fro k = Λ'.fro k := by simp [L.backFrom]; omega
        obtain ⟨g1, g2⟩ := k1.own b k n hk hb (hf_arr hl hk) (by rw [← e2, hf, e1])
        exact ⟨by rw [hL hh]; exact g1, g2⟩
    · simp only [L.backFrom]
      by_cases h1 : k < m
      · have := k1.fro k h1
        have e1 : (Λ.hideFrom m).fro k = Λ.fro k := by simp [L.hideFrom, h1]
        rw [if_pos (by omega)]; omega
      · by_cases h2 : k < m + out.n
        · rw [if_pos h2, (hfree k (by omega) h2).2.1.fro]; omega
        · rw [if_neg h2]; exact Nat.le_refl _
  -- values of the callee, seen again by the caller
  have hobj : ∀ {b k : Nat}, Λ'.lab b = .obj k → (Λ.backFrom m (m + out.n) Λ').lab b = .obj k := by
    intro b k hb
    cases hh : Λ.high m b with
    | true => obtain ⟨fr, g1, _⟩ := hheap hh; rw [g1] at hb; simp at hb
    | false => rw [hL hh]; exact hb
  have harr : ∀ {b k n : Nat}, Λ'.lab b = .arr k n → (Λ.backFrom m (m + out.n) Λ').lab b = .arr k n := by
    intro b k n hb
    cases hh : Λ.high m b with
    | true => obtain ⟨fr, g1, _⟩ := hheap hh; rw [g1] at hb; simp at hb
    | false => rw [hL hh]; exact hb
  have hrep : ∀ {u : Value} {y : T}, RepT Λ'.lab Λ'.w u y → RepT (Λ.backFrom m (m + out.n) Λ').lab (Λ.backFrom m (m + out.n) Λ').w u y := by
    intro u y hy
    refine hy.keep fun b o _ _ hrd => ⟨?_, rfl⟩
    cases hh : Λ.high m b with
    | true =>
      obtain ⟨fr, g1, _, g3⟩ := hheap hh
      unfold Rd at hrd ⊢
      rw [g1] at hrd
      rw [hH hh]
      rcases g3 with ⟨k, e, _, rfl⟩ | ⟨k, e, _⟩
      · omega
      · rw [e]; exact hrd
    | false => unfold Rd; rw [hL hh]; exact hrd
  have hfro : ∀ {k : Nat}, k < Λ'.nxt → (Λ.backFrom m (m + out.n) Λ').fro k = Λ'.fro k := by
    intro k hk; rw [k2] at hk; simp [L.backFrom, hk]
  have hval : ∀ {u : Value} {y : V}, RelV Λ' u y → RelV (Λ.backFrom m (m + out.n) Λ') u y := by
    intro u y hy
    induction hy with
    | t h => exact .t (hrep h)
    | nils => exact .nils
    | @own v k sz xs h hsz hl hn ho =>
      refine .own (hrep h) hsz (by show k < Λ.nxt; omega) (by rw [hfro hl]; exact hn) fun he => ?_
      rcases ho (by rw [← hfro hl]; exact he) with ho | ⟨b, cap, arr, e, hv, hb', hh, hc, hn'⟩
      · exact .inl ho
      · exact .inr ⟨b, cap, arr, e, hv, harr hb', hh, hc, hn'⟩
    | slc hl hc h => exact .slc (by show _ < Λ.nxt; omega) hc (hobj h)
    | agg hs _ ih => exact .agg hs ih
    | tup hs _ ih => exact .tup hs ih
    | ptr hl h => exact .ptr (by show _ < Λ.nxt; omega) (hobj h)
    | mp hl h => exact .mp (by show _ < Λ.nxt; omega) (hobj h)
    | fn hs h => exact .fn hs fun j v c h1 h2 => let ⟨b, e1, e2, e3⟩ := h j v c h1 h2; ⟨b, e1, hobj e2, by show _ < Λ.nxt; omega⟩
    | gd _ h' ih => exact .gd ih h'
    | top => exact .top
    | ub h h' => exact .ub h h'
  have hname : ∀ {b k : Nat}, Λ.high m b = true → ((Λ.backFrom m (m + out.n) Λ').lab b = .obj k ∨ ∃ n, (Λ.backFrom m (m + out.n) Λ').lab b = .arr k n) → m + out.n ≤ k ∧ (Λ.lab b = .obj k ∨ ∃ n, Λ.lab b = .arr k n) := by
    intro b k hh hb
    rw [hH hh] at hb
    refine ⟨?_, hb⟩
    have hge : m ≤ k := by unfold L.high at hh; rcases hb with hb | ⟨n, hb⟩ <;> rw [hb] at hh <;> simpa using hh
    rcases Nat.lt_or_ge k (m + out.n) with h | h
    · have := (hfree k hge h).2.1
      rcases hb with hb | ⟨n, hb⟩
      · exact absurd hb (this.obj b)
      · exact absurd hb (this.arr b n)
    · exact h
  have hlowname : ∀ {b k : Nat}, Λ.high m b = false → ((Λ.backFrom m (m + out.n) Λ').lab b = .obj k ∨ ∃ n, (Λ.backFrom m (m + out.n) Λ').lab b = .arr k n) → k < m + out.n ∧ (Λ'.lab b = .obj k ∨ ∃ n, Λ'.lab b = .arr k n) := by
    intro b k hh hb
    rw [hL hh] at hb
    have := k3.bnd b k hb
    exact ⟨by omega, hb⟩
  refine ⟨v, Λ.backFrom m (m + out.n) Λ', rfl, rfl, hkp, rfl, ?_, hval k4, fun k hk hn hcase => ?_⟩
  · refine ⟨fun k o ho => ?_, fun b b' k h1 h2 => ?_, fun b hb => ?_, fun b k hb => ?_, fun k hk => ?_⟩
    · obtain ⟨g1, g2⟩ := k3.sto k o ho
      refine ⟨by show k < Λ.nxt; omega, ?_⟩
      cases o with
      | cells cs =>
        obtain ⟨b, arr, e, e1, e2, e3, e4⟩ := g2
        exact ⟨b, arr, e, hobj e1, e2, e3, fun j v c a1 a2 => hval (e4 j v c a1 a2)⟩
      | map kag es sx =>
        obtain ⟨b, ents, clock, e1, e2, e3⟩ := g2
        exact ⟨b, ents, clock, hobj e1, e2, e3.keep (fun _ _ h => hrep h) (fun _ _ _ _ h => hval h)⟩
      | arr n => unfold RelO at *; rw [hfro g1]; exact g2
      | iter q s seen c =>
        obtain ⟨b, bm, e1, e2, e3, e4⟩ := g2
        exact ⟨b, bm, hobj e1, e2, hobj e3, by show q < Λ.nxt; omega⟩
    · cases hh : Λ.high m b with
      | true =>
        obtain ⟨q1, q2⟩ := hname hh (.inl h1)
        cases hh' : Λ.high m b' with
        | true =>
          rw [hH hh] at h1; rw [hH hh'] at h2
          exact hr.inj b b' k h1 h2
        | false => have := (hlowname hh' (.inl h2)).1; omega
      | false =>
        have q := (hlowname hh (.inl h1)).1
        cases hh' : Λ.high m b' with
        | true => have := (hname hh' (.inl h2)).1; omega
        | false => rw [hL hh] at h1; rw [hL hh'] at h2; exact k3.inj b b' k h1 h2
    · have hge : Λ.w.heap.size ≤ b := Nat.le_trans k1.fr.size hb
      have hh : Λ.high m b = false := by unfold L.high; rw [hr.new b hge]
      rw [hL hh]; exact k3.new b hb
    · show k < Λ.nxt
      cases hh : Λ.high m b with
      | true => exact hr.bnd b k (hname hh hb).2
      | false => have := (hlowname hh hb).1; omega
    · have hk' : Λ.nxt ≤ k := hk
      simp only [L.backFrom]
      rw [if_neg (by omega)]; exact hr.frz k hk'
  · rcases hcase with hge | ⟨hlt', hrd'⟩
    · refine ⟨fun b hb => ?_, fun b n hb => ?_, ?_⟩
      · cases hh : Λ.high m b with
        | true => rw [hH hh] at hb; exact hk.obj b hb
        | false => have := (hlowname hh (.inl hb)).1; omega
      · cases hh : Λ.high m b with
        | true => rw [hH hh] at hb; exact hk.arr b n hb
        | false => have := (hlowname hh (.inr ⟨n, hb⟩)).1; omega
      · simp only [L.backFrom]; rw [if_neg (by omega)]; exact hk.fro
    · rw [hrd] at hrd'; cases hrd'

/-- a call that is handed the whole store and leaves it as it is -/
theorem callSame {f : FuncId} {vs : List V} {x : V} {base : Nat} {sto : List (Nat × AObj)} {K : Out → Prop} (h : FnOk P f vs ⟨sto, base⟩ { v := x, rd := true }) (hb : V.bds base vs = true) (hs : stoBd base sto = true) (hk : K { v := x, rd := true }) : FnEv P f vs base sto K :=
  ⟨_, by simp only [if_true]; exact h.same rfl hb hs (by simp), hk⟩

end
end Go.GB


/-
  GbYe: objects that are lists, and maps of a type, without names in them.
-/
namespace Go.GB
def mE {κ ν : Type} (ek : κ → List T) (ev : ν → T) (l : List (κ × ν)) : List (List T × V) := l.map fun e => (ek e.1, .t (ev e.2))
def cE {ν : Type} (ev : ν → T) (l : List ν) : List V := l.map fun x => .t (ev x)
theorem V.bds_cE {ν : Type} (m : Nat) (ev : ν → T) : ∀ (l : List ν), V.bds m (cE ev l) = true
  | [] => rfl
  | x :: r => by have := V.bds_cE m ev r; simp only [cE] at this; simp [cE, V.bds, V.bd, this]
theorem LeXs.cE {ν : Type} {m m' : Nat} {ev : ν → T} {l l' : List ν} (h : l = l') : LeXs m m' (cE ev l) (cE ev l') := h ▸ .same (V.bds_cE m ev l)
theorem LeO.cE {ν : Type} {m m' : Nat} {ev : ν → T} {l l' : List ν} (h : l = l') : LeO m m' (.cells (cE ev l)) (.cells (cE ev l')) := .cells (.cE h)
theorem LeO.mE {κ ν : Type} {m m' : Nat} {kag : Bool} {ek : κ → List T} {ev : ν → T} {l l' : List (κ × ν)} {sx sx' : Option (Nat × List Nat)} (h : l = l') (hs : sx' = none ∨ sx' = sx) : LeO m m' (.map kag (mE ek ev l) sx) (.map kag (mE ek ev l') sx') := by
  subst h
  have := V.bds_cE m (fun e : κ × ν => ev e.2) l
  simp only [Go.GB.cE] at this
  exact .map rfl (by simp only [Go.GB.mE, List.map_map, Function.comp_def]; exact .same this) hs

end Go.GB


/-
  GbYr: calls in bigger stores: the callee knows some of the caller's objects, by its own names.
-/
namespace Go.GB
section
variable {P : Program}

mutual
/-- a value under other names -/
def V.ren (ρ : Nat → Nat) : V → V
  | .t x => .t x
  | .nils => .nils
  | .top => .top
  | .own k sz xs => .own (ρ k) sz xs
  | .slc k o l s => .slc (ρ k) o l s
  | .ptr k o => .ptr (ρ k) o
  | .mp k => .mp (ρ k)
  | .fn f cs => .fn f (cs.map fun c => (ρ c.1, c.2))
  | .agg cs => .agg (V.rens ρ cs)
  | .tup cs => .tup (V.rens ρ cs)
  | .gd c x => .gd c (x.ren ρ)
  | .ub c d => .ub c d
def V.rens (ρ : Nat → Nat) : List V → List V
  | [] => []
  | x :: r => x.ren ρ :: V.rens ρ r
end
theorem V.rens_eq (ρ : Nat → Nat) : ∀ (cs : List V), V.rens ρ cs = cs.map (V.ren ρ)
  | [] => rfl
  | x :: r => by simp [V.rens, V.rens_eq ρ r]

def AObj.ren (ρ : Nat → Nat) : AObj → AObj
  | .cells cs => .cells (V.rens ρ cs)
  | .map kag es st => .map kag (es.map fun e => (e.1, e.2.ren ρ)) st
  | .arr n => .arr n
  | .iter q s seen c => .iter (ρ q) s seen c

structure Rn (ρ : Nat → Nat) (σ : Nat → Option Nat) (m1 m n : Nat) : Prop where
  inv : ∀ k j, σ k = some j → ρ j = k ∧ j < m1 + n
  at_ : ∀ j, j < m1 + n → σ (ρ j) = some j
  low : ∀ j, j < m1 → ρ j < m
  new : ∀ j, m1 ≤ j → j < m1 + n → ρ j = m + (j - m1)

/-- what the callee sees -/
def L.view (Λ : L) (ρ : Nat → Nat) (σ : Nat → Option Nat) (m1 : Nat) : L where
  lab := fun b => match Λ.lab b with
    | .obj k => match σ k with | some j => .obj j | none => .fix (some 0)
    | .arr k fr => match σ k with | some j => .arr j fr | none => .fix (some fr)
    | x => x
  fro := fun j => if j < m1 then Λ.fro (ρ j) else 0
  nxt := m1
  w := Λ.w

/-- a block that the callee does not see as an object -/
def L.hid (Λ : L) (σ : Nat → Option Nat) (b : Nat) : Bool :=
  match Λ.lab b with
  | .obj k => (σ k).isNone
  | .arr k _ => (σ k).isNone
  | _ => false

def Lab.ren (ρ : Nat → Nat) : Lab → Lab
  | .obj k => .obj (ρ k)
  | .arr k fr => .arr (ρ k) fr
  | x => x

/-- the caller's labels behind the call -/
def L.unview (Λ : L) (ρ : Nat → Nat) (σ : Nat → Option Nat) (Λ' : L) : L where
  lab := fun b => if Λ.hid σ b then Λ.lab b else (Λ'.lab b).ren ρ
  fro := fun k => match σ k with | some j => Λ'.fro j | none => Λ.fro k
  nxt := Λ.nxt
  w := Λ'.w

variable {ρ : Nat → Nat} {σ : Nat → Option Nat} {m1 m n : Nat}

theorem view_hid {Λ : L} {b : Nat} (h : Λ.hid σ b = true) : ∃ fr, (Λ.view ρ σ m1).lab b = .fix (some fr) ∧ ((∃ k, Λ.lab b = .obj k ∧ σ k = none ∧ fr = 0) ∨ ∃ k, Λ.lab b = .arr k fr ∧ σ k = none) := by
  unfold L.hid at h
  simp only [L.view]
  cases hl : Λ.lab b with
  | fix fr => rw [hl] at h; simp at h
  | obj k => rw [hl] at h; simp at h; exact ⟨0, by simp [h], .inl ⟨k, rfl, h, rfl⟩⟩
  | arr k fr => rw [hl] at h; simp at h; exact ⟨fr, by simp [h], .inr ⟨k, rfl, h⟩⟩
theorem view_obj {Λ : L} {b k j : Nat} (h : Λ.lab b = .obj k) (hk : σ k = some j) : (Λ.view ρ σ m1).lab b = .obj j := by simp [L.view, h, hk]
theorem view_arr {Λ : L} {b k j fr : Nat} (h : Λ.lab b = .arr k fr) (hk : σ k = some j) : (Λ.view ρ σ m1).lab b = .arr j fr := by simp [L.view, h, hk]
theorem view_fix {Λ : L} {b : Nat} {fr : Option Nat} (h : Λ.lab b = .fix fr) : (Λ.view ρ σ m1).lab b = .fix fr := by simp [L.view, h]
theorem view_obj_inv {Λ : L} {b j : Nat} (h : (Λ.view ρ σ m1).lab b = .obj j) : ∃ k, Λ.lab b = .obj k ∧ σ k = some j := by
  simp only [L.view] at h
  cases hl : Λ.lab b with
  | fix fr => simp [hl] at h
  | obj k => simp only [hl] at h; split at h <;> simp_all
  | arr k fr => simp only [hl] at h; split at h <;> simp_all
theorem view_arr_inv {Λ : L} {b j fr : Nat} (h : (Λ.view ρ σ m1).lab b = .arr j fr) : ∃ k, Λ.lab b = .arr k fr ∧ σ k = some j := by
  simp only [L.view] at h
  cases hl : Λ.lab b with
  | fix fr => simp [hl] at h
  | obj k => simp only [hl] at h; split at h <;> simp_all
  | arr k fr => simp only [hl] at h; split at h <;> simp_all
theorem view_rd {Λ : L} {b o : Nat} (h : Rd Λ.lab b o) : Rd (Λ.view ρ σ m1).lab b o := by
  unfold Rd at *
  cases hl : Λ.lab b with
  | fix fr => rw [view_fix hl]; rw [hl] at h; exact h
  | obj k => rw [hl] at h; exact h.elim
  | arr k fr =>
    rw [hl] at h
    cases hk : σ k with
    | some j => rw [view_arr hl hk]; exact h
    | none => simp only [L.view, hl, hk]; exact h
theorem RepT.view {Λ : L} {v : Value} {x : T} (h : RepT Λ.lab Λ.w v x) : RepT (Λ.view ρ σ m1).lab (Λ.view ρ σ m1).w v x := h.keep fun _ _ _ _ hr => ⟨view_rd hr, rfl⟩

theorem RelV.view (hn : Rn ρ σ m1 m n) {Λ : L} {v : Value} {y : V} (h : RelV Λ v y) : ∀ {x : V}, x.ren ρ = y → x.bd m1 = true → RelV (Λ.view ρ σ m1) v x := by
  induction h with
  | t h => intro x hx hb; cases x <;> simp [V.ren] at hx; subst hx; exact .t h.view
  | nils => intro x hx hb; cases x <;> simp [V.ren] at hx; exact .nils
  | @own v k sz xs h hsz hl hm ho =>
    intro x hx hb; cases x <;> simp [V.ren] at hx
    rename_i j sz' xs'
    obtain ⟨e1, rfl, rfl⟩ := hx
    have hj : j < m1 := by simpa [V.bd] using hb
    have hf : (Λ.view ρ σ m1).fro j = Λ.fro k := by simp [L.view, hj, e1]
    have hs : σ k = some j := by rw [← e1]; exact hn.at_ j (by omega)
    refine .own h.view hsz hj (by rw [hf]; exact hm) fun he => ?_
    rcases ho (by rw [← hf]; exact he) with ho | ⟨b, cap, arr, e, hv, hb', hh, hc, hn'⟩
    · exact .inl ho
    · exact .inr ⟨b, cap, arr, e, hv, view_arr hb' hs, hh, hc, hn'⟩
  | @slc b k off len cap sz hl hc h =>
    intro x hx hb; cases x <;> simp [V.ren] at hx
    rename_i j _ _ _
    obtain ⟨e1, rfl, rfl, rfl⟩ := hx
    have hj : j < m1 := by simpa [V.bd] using hb
    exact .slc hj hc (view_obj h (by rw [← e1]; exact hn.at_ j (by omega)))
  | @agg vs cs hs hv ih =>
    intro x hx hb; cases x <;> simp [V.ren] at hx
    rename_i ds
    rw [V.rens_eq] at hx; subst hx
    refine .agg (by simpa using hs) fun j v c h1 h2 => ih j v (c.ren ρ) h1 (by simp [h2]) rfl (V.bds_at (by simpa [V.bd] using hb) j c h2)
  | @tup vs cs hs hv ih =>
    intro x hx hb; cases x <;> simp [V.ren] at hx
    rename_i ds
    rw [V.rens_eq] at hx; subst hx
    refine .tup (by simpa using hs) fun j v c h1 h2 => ih j v (c.ren ρ) h1 (by simp [h2]) rfl (V.bds_at (by simpa [V.bd] using hb) j c h2)
  | @ptr b k off hl h =>
    intro x hx hb; cases x <;> simp [V.ren] at hx
    rename_i j _
    obtain ⟨e1, rfl⟩ := hx
    have hj : j < m1 := by simpa [V.bd] using hb
    exact .ptr hj (view_obj h (by rw [← e1]; exact hn.at_ j (by omega)))
  | @mp b k hl h =>
    intro x hx hb; cases x <;> simp [V.ren] at hx
    rename_i j
    have hj : j < m1 := by simpa [V.bd] using hb
    exact .mp hj (view_obj h (by rw [← hx]; exact hn.at_ j (by omega)))
  | @fn f vs cs hs h =>
    intro x hx hb; cases x <;> simp [V.ren] at hx
    obtain ⟨rfl, rfl⟩ := hx
    rename_i ds
    refine .fn (by simpa using hs) fun j v c h1 h2 => ?_
    obtain ⟨b, e1, e2, e3⟩ := h j v (ρ c.1, c.2) h1 (by simp only [List.getElem?_map, h2, Option.map_some])
    have hk : c.1 < m1 := by
      simp only [V.bd, List.all_eq_true, decide_eq_true_eq] at hb
      exact hb c (List.mem_of_getElem? h2)
    exact ⟨b, e1, view_obj e2 (hn.at_ c.1 (by omega)), hk⟩
  | gd _ h' ih =>
    intro x hx hb; cases x <;> simp [V.ren] at hx
    obtain ⟨rfl, e⟩ := hx
    exact .gd (fun hc => ih hc e (by simpa [V.bd] using hb)) h'
  | top => intro x hx hb; cases x <;> simp [V.ren] at hx; exact .top
  | ub h h' => intro x hx hb; cases x <;> simp only [V.ren, V.ub.injEq, reduceCtorEq] at hx; obtain ⟨rfl, rfl⟩ := hx; exact .ub h h'

theorem aget_asets_ren (hn : Rn ρ σ m1 m n) : ∀ (ob : List (Nat × AObj)) (s s1 : List (Nat × AObj)), (∀ j, j < m1 + n → aget s (ρ j) = (aget s1 j).map (AObj.ren ρ)) → (∀ j o, (j, o) ∈ ob → j < m1 + n) →
    (∀ j, j < m1 + n → aget (asets s (ob.map fun e => (ρ e.1, e.2.ren ρ))) (ρ j) = (aget (asets s1 ob) j).map (AObj.ren ρ)) ∧ (∀ k, σ k = none → aget (asets s (ob.map fun e => (ρ e.1, e.2.ren ρ))) k = aget s k)
  | [], s, s1, h, _ => ⟨h, fun _ _ => rfl⟩
  | (i, o) :: r, s, s1, h, hb => by
    simp only [List.map_cons, asets]
    have hi : i < m1 + n := hb i o (by simp)
    obtain ⟨g1, g2⟩ := aget_asets_ren hn r (aset s (ρ i) (o.ren ρ)) (aset s1 i o) (fun j hj => by
      rw [aget_aset, aget_aset]
      by_cases e : i = j
      · subst e; simp
      · have : ρ i ≠ ρ j := by
          intro e'
          have h1 := hn.at_ i hi
          have h2 := hn.at_ j hj
          rw [e', h2] at h1
          simp at h1; exact e h1.symm
        simp only [e, this, if_false]; exact h j hj) (fun j o hj => hb j o (by simp [hj]))
    refine ⟨g1, fun k hk => ?_⟩
    rw [g2 k hk, aget_aset]
    have : ρ i ≠ k := by rintro rfl; rw [hn.at_ i hi] at hk; cases hk
    simp [this]

theorem FnOk.ren {out : Out} (hn : Rn ρ σ m1 m out.n) {f : FuncId} {vs : List V} {sto s1 : List (Nat × AObj)} (h : FnOk P f vs ⟨s1, m1⟩ out) (hb : V.bds m1 vs = true) (hs : stoBd m1 s1 = true)
    (hsub : ∀ j, j < m1 → aget sto (ρ j) = (aget s1 j).map (AObj.ren ρ)) (hob : ∀ k o, (k, o) ∈ out.ob → k < m1 + out.n ∧ (aget s1 k ≠ none ∨ m1 ≤ k)) :
    FnAt P f (V.rens ρ vs) m sto { v := out.v.ren ρ, ob := out.ob.map fun e => (ρ e.1, e.2.ren ρ), n := out.n, rd := true } := by
  refine ⟨h.1, fun k o hk => ?_, fun Λ args hr hle hfree hsz hargs => ?_⟩
  · simp only [List.mem_map] at hk
    obtain ⟨⟨j, o'⟩, hj, e⟩ := hk
    simp at e
    obtain ⟨rfl, rfl⟩ := e
    obtain ⟨h1, h2⟩ := hob j o' hj
    by_cases hj1 : j < m1
    · left
      rcases h2 with h2 | h2
      · rw [hsub j hj1]; simpa using h2
      · omega
    · right
      have := hn.new j (by omega) h1
      show m ≤ ρ j ∧ ρ j < m + out.n
      omega
  simp only at hle hfree
  -- names that are new bear nothing
  have hfresh : ∀ {b k j : Nat}, σ k = some j → (Λ.lab b = .obj k ∨ ∃ fr, Λ.lab b = .arr k fr) → j < m1 := by
    intro b k j hk hl
    obtain ⟨e, hj⟩ := hn.inv k j hk
    rcases Nat.lt_or_ge j m1 with h | h
    · exact h
    · have e2 := hn.new j h hj
      have := (hfree k (by omega) (by omega)).2.1
      rcases hl with hl | ⟨fr, hl⟩
      · exact absurd hl (this.obj b)
      · exact absurd hl (this.arr b fr)
  have hr1 : RelS (Λ.view ρ σ m1) ⟨s1, m1⟩ := by
    refine ⟨fun j o hj => ?_, fun b b' j h1 h2 => ?_, fun b hb => ?_, fun b j hb => ?_, fun j hj => ?_⟩
    · obtain ⟨h1, h2⟩ := stoBd_at hs j o hj
      refine ⟨h1, ?_⟩
      have hro := (hr.sto (ρ j) (o.ren ρ) (by rw [hsub j h1, hj]; rfl)).2
      have hs' := hn.at_ j (by omega)
      cases o with
      | cells cs =>
        obtain ⟨b, arr, e, e1, e2, e3, e4⟩ := hro
        rw [V.rens_eq] at e3 e4
        exact ⟨b, arr, e, view_obj e1 hs', e2, by simpa using e3, fun i v c a1 a2 => (e4 i v (c.ren ρ) a1 (by simp [a2])).view hn rfl (V.bds_at (by simpa [AObj.bd] using h2) i c a2)⟩
      | map kag es sx =>
        obtain ⟨b, ents, clock, e1, e2, e3⟩ := hro
        refine ⟨b, ents, clock, view_obj e1 hs', e2, ⟨by simpa using e3.size, fun i e kv a1 a2 => ?_, e3.born, e3.apart, e3.known⟩⟩
        obtain ⟨g1, g2⟩ := e3.at_ i e (kv.1, kv.2.ren ρ) a1 (by simp [a2])
        exact ⟨g1.keep fun _ _ h => h.view, g2.view hn rfl (V.bds_at (by simpa [AObj.bd] using h2) i kv.2 (by simp [a2]))⟩
      | arr n => have hro' : Λ.fro (ρ j) = n := hro
                 unfold RelO; simp [L.view, h1, hro']
      | iter q s seen c =>
        have hq : q < m1 := by simpa [AObj.bd] using h2
        obtain ⟨b, bm, e1, e2, e3, e4⟩ := hro
        exact ⟨b, bm, view_obj e1 hs', e2, view_obj e3 (hn.at_ q (by omega)), hq⟩
    · obtain ⟨k, a1, a2⟩ := view_obj_inv h1
      obtain ⟨k', b1, b2⟩ := view_obj_inv h2
      have := (hn.inv _ _ a2).1
      have := (hn.inv _ _ b2).1
      subst_vars
      exact hr.inj b b' _ a1 b1
    · exact view_fix (hr.new b hb)
    · rcases hb with hb | ⟨fr, hb⟩
      · obtain ⟨k, a1, a2⟩ := view_obj_inv hb; exact hfresh a2 (.inl a1)
      · obtain ⟨k, a1, a2⟩ := view_arr_inv hb; exact hfresh a2 (.inr ⟨_, a1⟩)
    · have hj' : m1 ≤ j := hj
      simp [L.view]; omega
  refine (h.2 (Λ.view ρ σ m1) args hr1 rfl (by rw [hsz, V.rens_eq]; simp) fun j v y h1 h2 => (hargs j v (y.ren ρ) h1 (by rw [V.rens_eq]; simp [h2])).view hn rfl (V.bds_at hb j y h2)).mono fun e w' he => ?_
  obtain ⟨v, Λ', rfl, rfl, k1, k2, k3, k4⟩ := he
  simp only at k2 k3
  have hlt : ∀ {b : Nat}, Λ.hid σ b = true → b < Λ.w.heap.size := by
    intro b hh
    rcases Nat.lt_or_ge b Λ.w.heap.size with h | h
    · exact h
    · unfold L.hid at hh; rw [hr.new b h] at hh; simp at hh
  have hH : ∀ {b : Nat}, Λ.hid σ b = true → (Λ.unview ρ σ Λ').lab b = Λ.lab b := fun h => by simp [L.unview, h]
  have hL : ∀ {b : Nat}, Λ.hid σ b = false → (Λ.unview ρ σ Λ').lab b = (Λ'.lab b).ren ρ := fun h => by simp [L.unview, h]
  have hheap : ∀ {b : Nat}, Λ.hid σ b = true → ∃ fr, Λ'.lab b = .fix (some fr) ∧ Λ'.w.heap[b]? = Λ.w.heap[b]? ∧ ((∃ k, Λ.lab b = .obj k ∧ σ k = none ∧ fr = 0) ∨ ∃ k, Λ.lab b = .arr k fr ∧ σ k = none) := by
    intro b hh
    obtain ⟨fr, e1, e2⟩ := view_hid (ρ := ρ) (m1 := m1) hh
    obtain ⟨g1, g2⟩ := k1.fr.fix b (hlt hh) _ e1
    exact ⟨fr, g1, g2, e2⟩
  have hvis : ∀ {b k j : Nat}, σ k = some j → (Λ.lab b = .obj k ∨ ∃ fr, Λ.lab b = .arr k fr) → Λ.hid σ b = false := by
    intro b k j hk hb
    unfold L.hid
    rcases hb with hb | ⟨fr, hb⟩ <;> rw [hb] <;> simp [hk]
  have hfix : ∀ {b : Nat} {fr : Option Nat}, Λ.lab b = .fix fr → Λ.hid σ b = false := by
    intro b fr hb; unfold L.hid; rw [hb]
  have rdren : ∀ {b o : Nat} {l : Nat → Lab}, l b = (Λ'.lab b).ren ρ → Rd Λ'.lab b o → Rd l b o := by
    intro b o l e h
    unfold Rd at *
    rw [e]
    cases hl : Λ'.lab b <;> rw [hl] at h <;> simp only [Lab.ren] <;> exact h
  have hkp : Kp Λ (Λ.unview ρ σ Λ') := by
    refine ⟨⟨k1.fr.os, k1.fr.tape, k1.fr.output, k1.fr.size, fun b hb fr hl => ?_, fun b hb k fr hl o ho => ?_⟩, Nat.le_refl _, fun b k _ hl => ?_, fun b k n _ hb hl hf => ?_, fun k hk => ?_⟩
    · obtain ⟨g1, g2⟩ := k1.fr.fix b hb fr (view_fix hl)
      exact ⟨by rw [hL (hfix hl), g1]; rfl, g2⟩
    · cases hk : σ k with
      | none =>
        have hh : Λ.hid σ b = true := by unfold L.hid; rw [hl]; simp [hk]
        obtain ⟨fr', g1, g2, g3⟩ := hheap hh
        exact ⟨by unfold Rd; rw [hH hh, hl]; exact ho, cell?_heap g2⟩
      | some j =>
        have hh := hvis hk (.inr ⟨_, hl⟩)
        obtain ⟨g1, g2⟩ := k1.fr.arr b hb j fr (view_arr hl hk) o ho
        exact ⟨rdren (hL hh) g1, g2⟩
    · cases hk : σ k with
      | none => rw [hH (by unfold L.hid; rw [hl]; simp [hk])]; exact hl
      | some j =>
        rw [hL (hvis hk (.inl hl)), k1.obj b j (hfresh hk (.inl hl)) (view_obj hl hk)]
        simp only [Lab.ren, (hn.inv k j hk).1]
    · cases hk : σ k with
      | none =>
        have hh : Λ.hid σ b = true := by unfold L.hid; rw [hl]; simp [hk]
        obtain ⟨fr', g1, g2, g3⟩ := hheap hh
        exact ⟨by rw [hH hh]; exact hl, g2⟩
      | some j =>
        have hj := hfresh hk (.inr ⟨_, hl⟩)
        have e1 : (Λ.view ρ σ m1).fro j = Λ.fro k := by simp [L.view, hj, (hn.inv k j hk).1]
        have e2 : (Λ.unview ρ σ Λ').fro k = Λ'.fro j := by simp [L.unview, hk]
        obtain ⟨g1, g2⟩ := k1.own b j n hj hb (view_arr hl hk) (by rw [← e2, hf, e1])
        exact ⟨by rw [hL (hvis hk (.inr ⟨_, hl⟩)), g1]; simp only [Lab.ren, (hn.inv k j hk).1], g2⟩
    · cases hk' : σ k with
      | none => simp [L.unview, hk']
      | some j =>
        obtain ⟨e1, e2⟩ := hn.inv k j hk'
        simp only [L.unview, hk']
        by_cases hj : j < m1
        · have := k1.fro j hj
          simpa [L.view, hj, e1] using this
        · have e3 := hn.new j (by omega) e2
          rw [(hfree k (by omega) (by omega)).2.1.fro]; omega
  have hobj : ∀ {b j : Nat}, Λ'.lab b = .obj j → (Λ.unview ρ σ Λ').lab b = .obj (ρ j) := by
    intro b k hb
    cases hh : Λ.hid σ b with
    | true => obtain ⟨fr, g1, _⟩ := hheap hh; rw [g1] at hb; simp at hb
    | false => rw [hL hh, hb]; rfl
  have harr : ∀ {b j n : Nat}, Λ'.lab b = .arr j n → (Λ.unview ρ σ Λ').lab b = .arr (ρ j) n := by
    intro b k n hb
    cases hh : Λ.hid σ b with
    | true => obtain ⟨fr, g1, _⟩ := hheap hh; rw [g1] at hb; simp at hb
    | false => rw [hL hh, hb]; rfl
  have hrep : ∀ {u : Value} {y : T}, RepT Λ'.lab Λ'.w u y → RepT (Λ.unview ρ σ Λ').lab (Λ.unview ρ σ Λ').w u y := by
    intro u y hy
    refine hy.keep fun b o _ _ hrd => ⟨?_, rfl⟩
    cases hh : Λ.hid σ b with
    | true =>
      obtain ⟨fr, g1, _, g3⟩ := hheap hh
      unfold Rd at hrd ⊢
      rw [g1] at hrd
      rw [hH hh]
      rcases g3 with ⟨k, e, _, rfl⟩ | ⟨k, e, _⟩
      · simp at hrd
      · rw [e]; exact hrd
    | false => exact rdren (hL hh) hrd
  have hfro : ∀ {j : Nat}, j < m1 + out.n → (Λ.unview ρ σ Λ').fro (ρ j) = Λ'.fro j := by
    intro j hj; simp [L.unview, hn.at_ j hj]
  have hρ : ∀ {j : Nat}, j < m1 + out.n → ρ j < Λ.nxt := by
    intro j hj
    by_cases h1 : j < m1
    · have := hn.low j h1; omega
    · have := hn.new j (by omega) hj; omega
  have hval : ∀ {u : Value} {y : V}, RelV Λ' u y → RelV (Λ.unview ρ σ Λ') u (y.ren ρ) := by
    intro u y hy
    induction hy with
    | t h => exact .t (hrep h)
    | nils => exact .nils
    | @own v k sz xs h hsz hl hn' ho =>
      rw [k2] at hl
      refine .own (hrep h) hsz (hρ hl) (by rw [hfro hl]; exact hn') fun he => ?_
      rcases ho (by rw [← hfro hl]; exact he) with ho | ⟨b, cap, arr, e, hv, hb', hh, hc, hn'⟩
      · exact .inl ho
      · exact .inr ⟨b, cap, arr, e, hv, harr hb', hh, hc, hn'⟩
    | slc hl hc h => exact .slc (hρ (by omega)) hc (hobj h)
    | agg hs _ ih =>
      refine .agg (by rw [V.rens_eq]; simpa using hs) fun j v c h1 h2 => ?_
      rw [V.rens_eq, List.getElem?_map, Option.map_eq_some_iff] at h2
      obtain ⟨c', h3, rfl⟩ := h2
      exact ih j v c' h1 h3
    | tup hs _ ih =>
      refine .tup (by rw [V.rens_eq]; simpa using hs) fun j v c h1 h2 => ?_
      rw [V.rens_eq, List.getElem?_map, Option.map_eq_some_iff] at h2
      obtain ⟨c', h3, rfl⟩ := h2
      exact ih j v c' h1 h3
    | ptr hl h => exact .ptr (hρ (by omega)) (hobj h)
    | mp hl h => exact .mp (hρ (by omega)) (hobj h)
    | fn hs h =>
      refine .fn (by simpa using hs) fun j v c h1 h2 => ?_
      rw [List.getElem?_map, Option.map_eq_some_iff] at h2
      obtain ⟨c', h3, rfl⟩ := h2
      obtain ⟨b, e1, e2, e3⟩ := h j v c' h1 h3
      exact ⟨b, e1, hobj e2, hρ (by omega)⟩
    | gd _ h' ih => exact .gd ih h'
    | top => exact .top
    | ub h h' => exact .ub h h'
  have hname : ∀ {b k : Nat}, Λ.hid σ b = true → ((Λ.unview ρ σ Λ').lab b = .obj k ∨ ∃ n, (Λ.unview ρ σ Λ').lab b = .arr k n) → σ k = none ∧ (Λ.lab b = .obj k ∨ ∃ n, Λ.lab b = .arr k n) := by
    intro b k hh hb
    rw [hH hh] at hb
    refine ⟨?_, hb⟩
    unfold L.hid at hh; rcases hb with hb | ⟨n, hb⟩ <;> rw [hb] at hh <;> simpa using hh
  have hseen : ∀ {b k : Nat}, Λ.hid σ b = false → ((Λ.unview ρ σ Λ').lab b = .obj k ∨ ∃ n, (Λ.unview ρ σ Λ').lab b = .arr k n) → ∃ j, ρ j = k ∧ j < m1 + out.n ∧ (Λ'.lab b = .obj j ∨ ∃ n, Λ'.lab b = .arr j n) := by
    intro b k hh hb
    rw [hL hh] at hb
    cases hl : Λ'.lab b with
    | fix fr => rw [hl] at hb; simp [Lab.ren] at hb
    | obj j => rw [hl] at hb; simp [Lab.ren] at hb; have := k3.bnd b j (.inl hl); exact ⟨j, hb, by omega, .inl rfl⟩
    | arr j n => rw [hl] at hb; simp [Lab.ren] at hb; have := k3.bnd b j (.inr ⟨n, hl⟩); exact ⟨j, hb, by omega, .inr ⟨n, rfl⟩⟩
  obtain ⟨ag1, ag2⟩ := aget_asets_ren hn out.ob sto s1 (fun j hj => by
    by_cases h1 : j < m1
    · exact hsub j h1
    · have e3 := hn.new j (by omega) hj
      rw [(hfree (ρ j) (by omega) (by omega)).2.2]
      cases ha : aget s1 j with
      | none => rfl
      | some o => have := (stoBd_at hs j o ha).1; omega) (fun j o hj => (hob j o hj).1)
  refine ⟨v, Λ.unview ρ σ Λ', rfl, rfl, hkp, rfl, ?_, hval k4, fun k hk _ hcase => ?_⟩
  · refine ⟨fun k o ho => ?_, fun b b' k h1 h2 => ?_, fun b hb => ?_, fun b k hb => ?_, fun k hk => ?_⟩
    · cases hk : σ k with
      | none =>
        have ho' : aget sto k = some o := by rw [← ag2 k hk]; exact ho
        obtain ⟨g1, g2⟩ := hr.sto k o ho'
        refine ⟨g1, g2.mono hkp g1 (fun b hb => ?_) (by simp [L.unview, hk])⟩
        obtain ⟨fr, q1, q2, _⟩ := hheap (b := b) (by unfold L.hid; rw [hb]; simp [hk])
        exact q2
      | some j =>
        obtain ⟨e1, e2⟩ := hn.inv k j hk
        subst e1
        have ho' : aget (asets sto (out.ob.map fun e => (ρ e.1, e.2.ren ρ))) (ρ j) = some o := ho
        rw [ag1 j e2, Option.map_eq_some_iff] at ho'
        obtain ⟨o1, a1, rfl⟩ := ho'
        obtain ⟨g1, g2⟩ := k3.sto j o1 a1
        refine ⟨hρ e2, ?_⟩
        cases o1 with
        | cells cs =>
          obtain ⟨b, arr, e, e1, e2, e3, e4⟩ := g2
          refine ⟨b, arr, e, hobj e1, e2, by rw [V.rens_eq]; simpa using e3, fun i v c a1 a2 => ?_⟩
          rw [V.rens_eq, List.getElem?_map, Option.map_eq_some_iff] at a2
          obtain ⟨c', a3, rfl⟩ := a2
          exact hval (e4 i v c' a1 a3)
        | map kag es sx =>
          obtain ⟨b, ents, clock, e1, e2, e3⟩ := g2
          refine ⟨b, ents, clock, hobj e1, e2, ⟨by simpa using e3.size, fun i e kv a1 a2 => ?_, e3.born, e3.apart, e3.known⟩⟩
          rw [List.getElem?_map, Option.map_eq_some_iff] at a2
          obtain ⟨kv', a3, rfl⟩ := a2
          obtain ⟨q1, q2⟩ := e3.at_ i e kv' a1 a3
          exact ⟨q1.keep fun _ _ h => hrep h, hval q2⟩
        | arr n' =>
          unfold RelO at *
          simp only [AObj.ren]
          rw [hfro e2]; exact g2
        | iter q s seen c =>
          obtain ⟨b, bm, a1, a2, a3, a4⟩ := g2
          exact ⟨b, bm, hobj a1, a2, hobj a3, hρ (by omega)⟩
    · cases hh : Λ.hid σ b with
      | true =>
        obtain ⟨q1, q2⟩ := hname hh (.inl h1)
        cases hh' : Λ.hid σ b' with
        | true =>
          rw [hH hh] at h1; rw [hH hh'] at h2
          exact hr.inj b b' k h1 h2
        | false =>
          obtain ⟨j, e1, e2, _⟩ := hseen hh' (.inl h2)
          rw [← e1, hn.at_ j e2] at q1; cases q1
      | false =>
        obtain ⟨j, e1, e2, _⟩ := hseen hh (.inl h1)
        cases hh' : Λ.hid σ b' with
        | true =>
          obtain ⟨q1, _⟩ := hname hh' (.inl h2)
          rw [← e1, hn.at_ j e2] at q1; cases q1
        | false =>
          rw [hL hh] at h1; rw [hL hh'] at h2
          cases hl : Λ'.lab b <;> rw [hl] at h1 <;> simp [Lab.ren] at h1
          cases hl' : Λ'.lab b' <;> rw [hl'] at h2 <;> simp [Lab.ren] at h2
          rename_i j1 j2
          have b1 := k3.bnd b j1 (.inl hl)
          have b2 := k3.bnd b' j2 (.inl hl')
          have c1 := hn.at_ j1 (by omega)
          have c2 := hn.at_ j2 (by omega)
          rw [h1] at c1; rw [h2, c1] at c2
          simp at c2; subst c2
          exact k3.inj b b' j1 hl hl'
    · have hge : Λ.w.heap.size ≤ b := Nat.le_trans k1.fr.size hb
      rw [hL (hfix (hr.new b hge)), k3.new b hb]; rfl
    · show k < Λ.nxt
      cases hh : Λ.hid σ b with
      | true => exact hr.bnd b k (hname hh hb).2
      | false => obtain ⟨j, rfl, e2, _⟩ := hseen hh hb; exact hρ e2
    · have hk' : Λ.nxt ≤ k := hk
      cases hs : σ k with
      | none => simp only [L.unview, hs]; exact hr.frz k hk'
      | some j => obtain ⟨rfl, e2⟩ := hn.inv k j hs; have := hρ e2; omega
  · have hge : m + out.n ≤ k := by
      rcases hcase with h | ⟨_, h⟩
      · exact h
      · cases h
    have hs0 : σ k = none := by
      cases hs : σ k with
      | none => rfl
      | some j =>
        obtain ⟨rfl, e2⟩ := hn.inv k j hs
        by_cases h1 : j < m1
        · have := hn.low j h1; omega
        · have := hn.new j (by omega) e2; omega
    refine ⟨fun b hb => ?_, fun b n hb => ?_, by simp only [L.unview, hs0]; exact hk.fro⟩
    · cases hh : Λ.hid σ b with
      | true => rw [hH hh] at hb; exact hk.obj b hb
      | false => obtain ⟨j, e1, e2, _⟩ := hseen hh (.inl hb); rw [← e1, hn.at_ j e2] at hs0; cases hs0
    · cases hh : Λ.hid σ b with
      | true => rw [hH hh] at hb; exact hk.arr b n hb
      | false => obtain ⟨j, e1, e2, _⟩ := hseen hh (.inr ⟨n, hb⟩); rw [← e1, hn.at_ j e2] at hs0; cases hs0

end
end Go.GB


/-
  GbZ: a driver for walks: code as a stack of items, operations one by one, each computed by unfolding.
-/
namespace Go.GB
set_option linter.unusedVariables false

def forceN {ρ : Type} (n : Nat) (K : Nat → ρ) : ρ :=
  match n with
  | 0 => K 0 | 1 => K 1 | 2 => K 2 | 3 => K 3 | 4 => K 4 | 5 => K 5 | 6 => K 6 | 7 => K 7 | 8 => K 8 | 9 => K 9 | 10 => K 10 | 11 => K 11 | 12 => K 12 | 13 => K 13 | 14 => K 14 | 15 => K 15
  | 16 => K 16 | 17 => K 17 | 18 => K 18 | 19 => K 19 | 20 => K 20 | 21 => K 21 | 22 => K 22 | 23 => K 23 | 24 => K 24 | 25 => K 25 | 26 => K 26 | 27 => K 27 | 28 => K 28 | 29 => K 29 | 30 => K 30 | n => K n
theorem forceN_eq {ρ : Type} (n : Nat) (K : Nat → ρ) : forceN n K = K n := by
  unfold forceN; split <;> rfl

inductive It where
  | c (a : ACode)
  | blk (id : Nat)
  | lp (a : ACode)

section
variable {P : Program} {n m : Nat} {R : St → Prop}

def contQ (P : Program) (n m : Nat) (R : St → Prop) : List It → AExit → St → Prop
  | [], .exit _, _ => False
  | [], _, st => R st
  | .c a :: k, .normal, st => Sat P n m a st (contQ P n m R k)
  | .c _ :: k, e, st => contQ P n m R k e st
  | .blk id :: k, .exit id', st => if id' = id then contQ P n m R k .normal st else contQ P n m R k (.exit id') st
  | .blk _ :: k, e, st => contQ P n m R k e st
  | .lp a :: k, .normal, st => SatL P n m a st (contQ P n m R k)
  | .lp _ :: k, e, st => contQ P n m R k e st

/-- the items from here on, ending in R -/
def Run (P : Program) (n m : Nat) (R : St → Prop) (k : List It) (st : St) : Prop := contQ P n m R k .normal st

theorem contQ_ret : ∀ (k : List It) (st : St), contQ P n m R k .ret st = R st
  | [], st => rfl
  | .c a :: k, st => by simp only [contQ]; exact contQ_ret k st
  | .blk a :: k, st => by simp only [contQ]; exact contQ_ret k st
  | .lp a :: k, st => by simp only [contQ]; exact contQ_ret k st

/-- behind an exit -/
def popTo (id : Nat) : List It → Option (List It)
  | [] => none
  | .blk i :: k => bif Nat.beq id i then some k else popTo id k
  | .c _ :: k => popTo id k
  | .lp _ :: k => popTo id k

theorem popTo_ok {id : Nat} {st : St} : ∀ {k k' : List It}, popTo id k = some k' → Run P n m R k' st → contQ P n m R k (.exit id) st
  | .c _ :: k, k', h, hr => by simp only [contQ]; exact popTo_ok (by simpa [popTo] using h) hr
  | .lp _ :: k, k', h, hr => by simp only [contQ]; exact popTo_ok (by simpa [popTo] using h) hr
  | .blk i :: k, k', h, hr => by
    simp only [popTo] at h
    simp only [contQ]
    by_cases e : id = i
    · subst e
      simp at h; subst h
      simp only [if_true]; exact hr
    · have hb : Nat.beq id i = false := by
        cases hb : Nat.beq id i with
        | false => rfl
        | true => exact absurd (Nat.eq_of_beq_eq_true hb) e
      rw [hb] at h
      simp only [e, if_false]
      exact popTo_ok h hr

/-- control that needs no data -/
def advK : Nat → List It → List It
  | 0, k => k
  | f + 1, .c (.seq a b) :: k => advK f (.c a :: .c b :: k)
  | f + 1, .c (.block id a) :: k => advK f (.c a :: .blk id :: k)
  | f + 1, .c .skip :: k => advK f k
  | f + 1, .blk _ :: k => advK f k
  | _ + 1, .c .ret :: _ => []
  | f + 1, .c (.exit id) :: k => match popTo id k with | some k' => advK f k' | none => .c (.exit id) :: k
  | _ + 1, k => k

theorem Run.adv : ∀ (f : Nat) {k k' : List It} {st : St}, advK f k = k' → Run P n m R k' st → Run P n m R k st
  | 0, k, k', st, h, hr => by simp only [Go.GB.advK] at h; subst h; exact hr
  | f + 1, [], k', st, h, hr => by simp only [Go.GB.advK] at h; subst h; exact hr
  | f + 1, .lp a :: k, k', st, h, hr => by simp only [Go.GB.advK] at h; subst h; exact hr
  | f + 1, .blk id :: k, k', st, h, hr => by
    simp only [Go.GB.advK] at h
    have := Run.adv f h hr
    simpa only [Run, contQ] using this
  | f + 1, .c a :: k, k', st, h, hr => by
    cases a with
    | seq a b =>
      simp only [Go.GB.advK] at h
      have := Run.adv f h hr
      simp only [Run, contQ] at this ⊢
      refine Sat.seq (this.mono fun e st' he => ?_)
      cases e with
      | normal => simpa only [contQ, thenA] using he
      | exit id => simpa only [contQ, thenA] using he
      | ret => simpa only [contQ, thenA] using he
    | block id a =>
      simp only [Go.GB.advK] at h
      have := Run.adv f h hr
      simp only [Run, contQ] at this ⊢
      refine Sat.block (this.mono fun e st' he => ?_)
      cases e with
      | normal => simpa only [contQ, inBlk] using he
      | exit id => simpa only [contQ, inBlk] using he
      | ret => simpa only [contQ, inBlk] using he
    | skip =>
      simp only [Go.GB.advK] at h
      have := Run.adv f h hr
      exact Sat.skip this
    | ret =>
      simp only [Go.GB.advK] at h; subst h
      refine Sat.ret ?_
      rw [contQ_ret]; exact hr
    | exit id =>
      simp only [Go.GB.advK] at h
      cases hp : popTo id k with
      | none => rw [hp] at h; subst h; exact hr
      | some k2 =>
        rw [hp] at h
        exact Sat.exit (popTo_ok hp (Run.adv f h hr))
    | region d o a l => simp only [Go.GB.advK] at h; subst h; exact hr
    | cond z a b => simp only [Go.GB.advK] at h; subst h; exact hr
    | loop c => simp only [Go.GB.advK] at h; subst h; exact hr

/-- a region's rest: the operations that are left, the flags of those that are done (the last first) -/
def Mid (P : Program) (n m : Nat) (R : St → Prop) (draw : Bool) (all : List AO) (after : List (List Nat)) (live : List Nat) (k : List It) (b : Nat) (fl : List (Bool × Bool)) (ops : List AO) (st : St) : Prop :=
  evR P b st ops fl.reverse fun b st' fl => regOk draw all after fl st'.env ∧ Run P n m R k (regSt live b st')

theorem Run.region {b : Nat} {k k' : List It} {draw : Bool} {ops : List AO} {after : List (List Nat)} {live : List Nat} {st : St} (hk : advK 200 k = .c (.region draw ops after live) :: k') (hb : forceN st.s.nxt some = some b) (h : Mid P n m R draw ops after live k' b [] ops st) : Run P n m R k st :=
  Run.adv 200 hk (Sat.region (by rw [forceN_eq] at hb; simp at hb; subst hb; exact h))

theorem Run.cond {k k' : List It} {z : Ar} {a b : ACode} {st : St} {t : Bool} (hk : advK 200 k = .c (.cond z a b) :: k') (hz : z.v st = .t (.bool t)) (h1 : t = true → Run P n m R (.c a :: k') st) (h2 : t = false → Run P n m R (.c b :: k') st) : Run P n m R k st :=
  Run.adv 200 hk (Sat.ite hz h1 h2)
theorem Run.condT {k k' : List It} {z : Ar} {a b : ACode} {st : St} {t : Bool} (hk : advK 200 k = .c (.cond z a b) :: k') (hz : z.v st = .t (.bool t)) (ht : t = true) (h1 : Run P n m R (.c a :: k') st) : Run P n m R k st :=
  Run.adv 200 hk (Sat.ite hz (fun _ => h1) (fun h => by rw [ht] at h; cases h))
theorem Run.condF {k k' : List It} {z : Ar} {a b : ACode} {st : St} {t : Bool} (hk : advK 200 k = .c (.cond z a b) :: k') (hz : z.v st = .t (.bool t)) (ht : t = false) (h1 : Run P n m R (.c b :: k') st) : Run P n m R k st :=
  Run.adv 200 hk (Sat.ite hz (fun h => by rw [ht] at h; cases h) (fun _ => h1))
theorem Run.fin {k : List It} {st : St} (hk : advK 200 k = []) (h : R st) : Run P n m R k st := Run.adv 200 hk h

theorem Run.loop {k k' : List It} {c : ACode} {st : St} (hk : advK 200 k = .c (.loop c) :: k') (h : Run P n m R (.lp c :: k') st) : Run P n m R k st :=
  Run.adv 200 hk (Sat.loop h)
theorem Run.unroll {k : List It} {c : ACode} {st : St} (h : Run P n m R (.c c :: .lp c :: k) st) : Run P n m R (.lp c :: k) st := by
  simp only [Run, contQ] at h ⊢
  refine SatL.unroll (Sat.mono h fun e st' he => ?_)
  cases e with
  | normal => simpa only [contQ, thenA] using he
  | exit id => simpa only [contQ, thenA] using he
  | ret => simpa only [contQ, thenA] using he

/-- Knowing less at a loop's head; j names are kept. -/
theorem Run.weak {k k' : List It} {c : ACode} {st st' : St} (j : Nat) (hk : advK 200 k = .lp c :: k') (h : Run P n m R (.lp c :: k') st') (h1 : Nat.ble m j = true) (h2 : Nat.ble j st.s.nxt = true) (h3 : Nat.ble j st'.s.nxt = true) (he : LeE j st'.s.nxt st.env st'.env) (hs : LeS j st'.s.nxt st.s.sto st'.s.sto) : Run P n m R k st :=
  Run.adv 200 hk (SatL.weak j h (Nat.le_of_ble_eq_true h1) (Nat.le_of_ble_eq_true h2) (Nat.le_of_ble_eq_true h3) he hs)
/-- Knowing less ahead of code; j names are kept. -/
theorem Run.weakC {k k' : List It} {c : ACode} {st st' : St} (j : Nat) (hk : advK 200 k = .c c :: k') (h : Run P n m R (.c c :: k') st') (h1 : Nat.ble m j = true) (h2 : Nat.ble j st.s.nxt = true) (h3 : Nat.ble j st'.s.nxt = true) (he : LeE j st'.s.nxt st.env st'.env) (hs : LeS j st'.s.nxt st.s.sto st'.s.sto) : Run P n m R k st :=
  Run.adv 200 hk (Sat.weak j h (Nat.le_of_ble_eq_true h1) (Nat.le_of_ble_eq_true h2) (Nat.le_of_ble_eq_true h3) he hs)

def V.headK {ρ : Type} (v : V) (K : V → ρ) : ρ :=
  match v with
  | .agg cs => K (.agg cs)
  | .tup cs => K (.tup cs)
  | .t x => K (.t x)
  | .nils => K .nils
  | .own k sz xs => K (.own k sz xs)
  | .slc k o l s => K (.slc k o l s)
  | .ptr k o => K (.ptr k o)
  | .mp k => K (.mp k)
  | .fn f cs => K (.fn f cs)
  | .gd c x => K (.gd c x)
  | .ub c x => K (.ub c x)
  | .top => K .top
theorem V.headK_eq {ρ : Type} (v : V) (K : V → ρ) : v.headK K = K v := by
  cases v <;> rfl
def forceL {ρ : Type} : List V → (List V → ρ) → ρ
  | [], K => K []
  | x :: r, K => x.headK fun x' => forceL r fun r' => K (x' :: r')
theorem forceL_eq {ρ : Type} : ∀ (l : List V) (K : List V → ρ), forceL l K = K l
  | [], K => rfl
  | x :: r, K => by simp only [forceL, V.headK_eq]; exact forceL_eq r _

def V.force {ρ : Type} (v : V) (K : V → ρ) : ρ :=
  match v with
  | .agg cs => forceL cs fun cs' => K (.agg cs')
  | .tup cs => forceL cs fun cs' => K (.tup cs')
  | .t x => K (.t x)
  | .nils => K .nils
  | .own k sz xs => K (.own k sz xs)
  | .slc k o l s => K (.slc k o l s)
  | .ptr k o => K (.ptr k o)
  | .mp k => K (.mp k)
  | .fn f cs => K (.fn f cs)
  | .gd c x => K (.gd c x)
  | .ub c x => K (.ub c x)
  | .top => K .top
theorem V.force_eq {ρ : Type} (v : V) (K : V → ρ) : v.force K = K v := by
  cases v <;> simp only [V.force, forceL_eq]

def entryF {ρ : Type} : Nat → List V → (List (Nat × V) → ρ) → ρ
  | _, [], K => K []
  | i, x :: r, K => x.force fun x' => forceN (i + 1) fun j => entryF j r fun e => K ((i, x') :: e)
theorem entryF_eq {ρ : Type} : ∀ (vs : List V) (i : Nat) (K : List (Nat × V) → ρ), entryF i vs K = K (entryE i vs)
  | [], i, K => rfl
  | x :: r, i, K => by simp only [entryF, V.force_eq, forceN_eq, entryF_eq r, entryE]
/-- A function by a walk. -/
theorem FnOk.run {f : FuncId} {n : Nat} {ac : ACode} {rs : List ARes} {vs : List V} {s : S} {out : Out} (hi : fnInfo P f = some (n, ac.bare, rs)) (hm : P.follows .mixedOrders = true) (hn : Nat.ble vs.length n = true)
    {e : List (Nat × V)} (he : entryF 0 vs some = some e) (h : Run P n s.nxt (EndOk s out rs .ret) [.c ac] { env := e, s := s }) : FnOk P f vs s out := by
  rw [entryF_eq] at he
  simp at he; subst he
  refine FnOk.of_sat hi hm (Nat.le_of_ble_eq_true hn) (Sat.mono h fun e st he => ?_)
  cases e with
  | normal => exact he
  | exit id => exact he.elim
  | ret => exact he

/- ---------- operations ---------- -/

def asetK {α ρ : Type} : List (Nat × α) → Nat → α → (List (Nat × α) → ρ) → ρ
  | [], d, v, K => K [(d, v)]
  | (k, x) :: r, d, v, K => bif Nat.beq k d then K ((k, v) :: r) else asetK r d v fun r' => K ((k, x) :: r')

theorem asetK_eq {α ρ : Type} : ∀ (e : List (Nat × α)) (d : Nat) (v : α) (K : List (Nat × α) → ρ), asetK e d v K = K (aset e d v)
  | [], d, v, K => rfl
  | (k, x) :: r, d, v, K => by
    simp only [asetK, aset]
    by_cases e : k = d
    · subst e; simp
    · have hb : Nat.beq k d = false := by
        cases hb : Nat.beq k d with
        | false => rfl
        | true => exact absurd (Nat.eq_of_beq_eq_true hb) e
      simp only [hb, cond_false, e, if_false]
      exact asetK_eq r d v _

def keepK {ρ : Type} (live : List Nat) : List (Nat × V) → (List (Nat × V) → ρ) → ρ
  | [], K => K []
  | (t, x) :: r, K => bif live.any (Nat.beq t) then keepK live r fun r' => K ((t, x) :: r') else keepK live r K

theorem any_beq (live : List Nat) (t : Nat) : live.any (Nat.beq t) = live.contains t := by
  induction live with
  | nil => rfl
  | cons a r ih =>
    simp only [List.any_cons, List.contains_cons, ih]
    congr 1
    by_cases e : t = a
    · subst e; simp
    · have hb : Nat.beq t a = false := by
        cases hb : Nat.beq t a with
        | false => rfl
        | true => exact absurd (Nat.eq_of_beq_eq_true hb) e
      simp [hb, e]

theorem keepK_eq {ρ : Type} (live : List Nat) : ∀ (e : List (Nat × V)) (K : List (Nat × V) → ρ), keepK live e K = K (keepE live e)
  | [], K => rfl
  | (t, x) :: r, K => by
    simp only [keepK, keepE, any_beq]
    cases h : live.contains t <;> simp [keepK_eq live r]

def setEnv {ρ : Type} (st : St) (d : Option Nat) (v : V) (K : List (Nat × V) → ρ) : ρ :=
  match d with
  | some d => asetK st.env d v K
  | none => K st.env
theorem setEnv_eq {ρ : Type} (st : St) (d : Option Nat) (v : V) (K : List (Nat × V) → ρ) : setEnv st d v K = K (match d with | some d => aset st.env d v | none => st.env) := by
  cases d <;> simp only [setEnv, asetK_eq]

def forceB {ρ : Type} (b : Bool) (K : Bool → ρ) : ρ := match b with | true => K true | false => K false
theorem forceB_eq {ρ : Type} (b : Bool) (K : Bool → ρ) : forceB b K = K b := by cases b <;> rfl

/-- a state of that store -/
def St.forceS {ρ : Type} (st : St) (e : List (Nat × V)) (K : St → ρ) : ρ := match st with | ⟨_, ⟨sto, nx⟩⟩ => K ⟨e, ⟨sto, nx⟩⟩
theorem St.forceS_eq {ρ : Type} (st : St) (e : List (Nat × V)) (K : St → ρ) : st.forceS e K = K ⟨e, st.s⟩ := rfl

/-- 'a && b', 'a || b' by their names -/
def evalP (gc : Bool) (st : St) (op : AOp) : Option (V × List Bool) :=
  match op with
  | .pick c (.c (.t (.bool true))) b =>
    match rd gc st c with
    | (.t (.bool cb), p1) =>
      match rd (gc && !cb) st b with
      | (.t (.bool xb), p3) => some (.t (.bool (cb || xb)), p1 ++ ([] ++ p3))
      | _ => evalE gc st op
    | _ => evalE gc st op
  | .pick c a (.c (.t (.bool false))) =>
    match rd gc st c with
    | (.t (.bool cb), p1) =>
      match rd (gc && cb) st a with
      | (.t (.bool xa), p2) => some (.t (.bool (cb && xa)), p1 ++ (p2 ++ []))
      | _ => evalE gc st op
    | _ => evalE gc st op
  | .eqb true x y =>
    match rd gc st x with
    | (.t (.bool a), p1) =>
      match rd gc st y with
      | (.t (.bool b), p2) => some (.t (.bool (!(a == b))), p1 ++ p2)
      | _ => evalE gc st op
    | _ => evalE gc st op
  | .eqb false x y =>
    match rd gc st x with
    | (.t (.bool a), p1) =>
      match rd gc st y with
      | (.t (.bool b), p2) => some (.t (.bool (a == b)), p1 ++ p2)
      | _ => evalE gc st op
    | _ => evalE gc st op
  | op => evalE gc st op

theorem evalP_eq (gc : Bool) (st : St) (op : AOp) : evalP gc st op = evalE gc st op := by
  unfold evalP
  split
  · rename_i c b
    split
    · rename_i cb p1 hc
      split
      · rename_i xb p3 hb
        simp only [evalE, hc, hb]
        simp only [rd, Ar.v, V.un]
        cases cb <;> rfl
      · rfl
    · rfl
  · rename_i c a _
    split
    · rename_i cb p1 hc
      split
      · rename_i xa p2 ha
        simp only [evalE, hc, ha]
        simp only [rd, Ar.v, V.un]
        cases cb <;> rfl
      · rfl
    · rfl
  · split
    · rename_i h1
      split
      · rename_i h2
        simp [evalE, h1, h2]
      · rfl
    · rfl
  · split
    · rename_i h1
      split
      · rename_i h2
        simp [evalE, h1, h2]
      · rfl
    · rfl
  · rfl

theorem grd1 (a : Bool) : (!a || (!a || a)) = true := by cases a <;> rfl
theorem grd2 (a : Bool) : (!a || true) = true := by cases a <;> rfl
theorem grd3 (a b : Bool) : (!a || (!(a && b) || b)) = true := by cases a <;> cases b <;> rfl
theorem grd4 (a b : Bool) : (!a || (!(a && b) || (a && b))) = true := by cases a <;> cases b <;> rfl

def stepP (st : St) (d : Option Nat) (op : AOp) : Option (List Bool × St × Bool) :=
  match evalP true st op with
  | some (v, ps) => v.force fun v' => setEnv st d v' fun e => forceB (looksE st op) fun l => st.forceS e fun st' => some (ps, st', l)
  | none => none

theorem stepP_eq {st st' : St} {d : Option Nat} {op : AOp} {ps : List Bool} {l : Bool} (h : stepP st d op = some (ps, st', l)) :
    ∃ v, evalE true st op = some (v, ps) ∧ st' = st.app d { v := v, rd := l } ∧ looksE st op = l := by
  unfold stepP at h
  rw [evalP_eq] at h
  split at h
  · rename_i v ps' hv
    simp only [V.force_eq, setEnv_eq, forceB_eq, St.forceS_eq, Option.some.injEq, Prod.mk.injEq] at h
    obtain ⟨rfl, h2, h3⟩ := h
    refine ⟨v, hv, ?_, h3⟩
    rw [← h2]; cases d <;> rfl
  · cases h

variable {draw : Bool} {all : List AO} {after : List (List Nat)} {live : List Nat} {k : List It} {b : Nat} {fl : List (Bool × Bool)} {ops : List AO} {st st' : St} {d : Option Nat}

theorem Mid.pure {op : AOp} {ps : List Bool} {l : Bool} (h : stepP st d op = some (ps, st', l)) (hp : pall ps) (h' : Mid P n m R draw all after live k b ((l, false) :: fl) ops st') : Mid P n m R draw all after live k b fl (⟨d, none, op⟩ :: ops) st := by
  obtain ⟨v, h1, rfl, h3⟩ := stepP_eq h
  unfold Mid at h' ⊢
  simp only [evR, evO, evU, h1, h3]
  refine ⟨hp, ?_⟩
  simpa using h'

theorem Mid.pure0 {op : AOp} {l : Bool} (h : stepP st d op = some ([], st', l)) (h' : Mid P n m R draw all after live k b ((l, false) :: fl) ops st') : Mid P n m R draw all after live k b fl (⟨d, none, op⟩ :: ops) st :=
  Mid.pure h trivial h'

def gcondF (want : Bool) : V → Option Bool
  | .t (.bool b) => match want with | true => some b | false => some (!b)
  | .gd c (.t (.bool b)) => match want with | true => some (c && b) | false => some (c && !b)
  | .gd false .top => some false
  | _ => none
theorem gcondF_eq (want : Bool) (v : V) : gcondF want v = gcond want v := by
  unfold gcondF gcond
  cases want <;> split <;> simp_all

def stepG (st : St) (d : Option Nat) (s : Nat) (want : Bool) (op : AOp) : Option (List Bool × St × Bool) :=
  match gcondF want (look st.env s) with
  | none => none
  | some gc =>
    match evalP gc st op with
    | some (v, ps) => v.force fun v' => setEnv st d (.gd gc v') fun e => forceB (looksE st op) fun l => st.forceS e fun st' => some (ps.map (fun p => !gc || p), st', l)
    | none => none

theorem Mid.grd {op : AOp} {s : Nat} {want : Bool} {ps : List Bool} {l : Bool} (h : stepG st d s want op = some (ps, st', l)) (hp : pall ps) (h' : Mid P n m R draw all after live k b ((l, false) :: fl) ops st') : Mid P n m R draw all after live k b fl (⟨d, some (s, want), op⟩ :: ops) st := by
  unfold stepG at h
  rw [gcondF_eq] at h
  split at h
  · cases h
  · rename_i gc hgc
    rw [evalP_eq] at h
    split at h
    · rename_i v ps' hv
      simp only [V.force_eq, setEnv_eq, forceB_eq, St.forceS_eq, Option.some.injEq, Prod.mk.injEq] at h
      obtain ⟨rfl, h2, h3⟩ := h
      unfold Mid at h' ⊢
      simp only [evR, evO, hgc, hv, h3]
      refine ⟨hp, ?_⟩
      have : st' = st.app d { v := .gd gc v, rd := l } := by rw [← h2]; cases d <;> rfl
      rw [this] at h'
      simpa using h'
    · cases h

/-- an operation that does more, by its rule -/
theorem Mid.opX {op : AOp} (hn : evalE true st op = none) (h : evX P b st (fun o => Mid P n m R draw all after live k (b + o.n) ((o.rd, !o.ob.isEmpty || decide (0 < o.n)) :: fl) ops (st.app d o)) op) : Mid P n m R draw all after live k b fl (⟨d, none, op⟩ :: ops) st := by
  unfold Mid at h ⊢
  simp only [evR, evO, evU, hn]
  simpa using h

/-- a slice of one's own, handed on as what it reads -/
def V.pure1 : V → V
  | .own _ _ xs => .t (.lst xs)
  | .nils => .t (.lst [])
  | v => v
def pureL {ρ : Type} : List V → (List V → ρ) → ρ
  | [], K => K []
  | x :: r, K => x.pure1.headK fun x' => pureL r fun r' => K (x' :: r')
theorem pureL_eq {ρ : Type} : ∀ (l : List V) (K : List V → ρ), pureL l K = K (l.map V.pure1)
  | [], K => rfl
  | x :: r, K => by simp only [pureL, V.headK_eq, pureL_eq r, List.map_cons]
def V.pureV : V → V
  | .agg cs => .agg (cs.map V.pure1)
  | v => v.pure1
def V.pureK {ρ : Type} (v : V) (K : V → ρ) : ρ :=
  match v with
  | .agg cs => pureL cs fun cs' => K (.agg cs')
  | .own _ _ xs => K (.t (.lst xs))
  | .nils => K (.t (.lst []))
  | .tup cs => forceL cs fun cs' => K (.tup cs')
  | .t x => K (.t x)
  | .slc k o l s => K (.slc k o l s)
  | .ptr k o => K (.ptr k o)
  | .mp k => K (.mp k)
  | .fn f cs => K (.fn f cs)
  | .gd c x => K (.gd c x)
  | .ub c x => K (.ub c x)
  | .top => K .top
theorem V.pureK_eq {ρ : Type} (v : V) (K : V → ρ) : v.pureK K = K v.pureV := by
  cases v <;> simp only [V.pureK, V.pureV, V.pure1, pureL_eq, forceL_eq]

theorem RelV.pure1 {Λ : L} {u : Value} {x : V} (h : RelV Λ u x) : RelV Λ u x.pure1 := by
  cases h with
  | own h _ _ _ _ => exact .t h
  | nils => exact .t .nil
  | t h => exact .t h
  | slc a b c => exact .slc a b c
  | agg a b => exact .agg a b
  | tup a b => exact .tup a b
  | ptr a b => exact .ptr a b
  | mp a b => exact .mp a b
  | fn a b => exact .fn a b
  | gd a b => exact .gd a b
  | ub a b => exact .ub a b
  | top => exact .top
theorem RelV.pureV {Λ : L} {u : Value} {x : V} (h : RelV Λ u x) : RelV Λ u x.pureV := by
  cases x with
  | agg cs =>
    cases h with
    | agg hs hv =>
      refine .agg (by simpa using hs) fun j v c h1 h2 => ?_
      rw [List.getElem?_map, Option.map_eq_some_iff] at h2
      obtain ⟨c', h3, rfl⟩ := h2
      exact (hv j v c' h1 h3).pure1
  | _ => exact h.pure1

/-- what is known of operands, one by one -/
def VsLe (vs vs' : List V) : Prop := vs.length = vs'.length ∧ ∀ (Λ : L) (j : Nat) (u : Value) (x y : V), vs[j]? = some x → vs'[j]? = some y → RelV Λ u x → RelV Λ u y
theorem VsLe.pure (vs : List V) : VsLe vs (vs.map V.pureV) := by
  refine ⟨by simp, fun Λ j u x y h1 h2 h => ?_⟩
  rw [List.getElem?_map, h1] at h2
  simp at h2; subst h2
  exact h.pureV
theorem VsLe.rfl {vs : List V} : VsLe vs vs := ⟨Eq.refl _, fun Λ j u x y h1 h2 h => by rw [h1] at h2; simp at h2; subst h2; exact h⟩
theorem VsLe.app {a b c d : List V} (h : VsLe a b) (k : VsLe c d) : VsLe (a ++ c) (b ++ d) := by
  refine ⟨by simp [h.1, k.1], fun Λ j u x y h1 h2 hr => ?_⟩
  by_cases hj : j < a.length
  · rw [List.getElem?_append_left hj] at h1
    rw [List.getElem?_append_left (by rw [← h.1]; exact hj)] at h2
    exact h.2 Λ j u x y h1 h2 hr
  · rw [List.getElem?_append_right (by omega)] at h1
    rw [List.getElem?_append_right (by rw [← h.1]; omega), ← h.1] at h2
    exact k.2 Λ _ u x y h1 h2 hr
theorem FnAt.le {f : FuncId} {vs vs' : List V} {base : Nat} {sto : List (Nat × AObj)} {out : Out} (hl : VsLe vs vs') (h : FnAt P f vs' base sto out) : FnAt P f vs base sto out :=
  ⟨h.1, h.2.1, fun Λ args h1 h2 h3 h4 h5 => h.2.2 Λ args h1 h2 h3 (h4.trans hl.1) fun j v x hj hx => by
    have hlt : j < vs.length := by rw [hl.1]; exact (List.getElem?_eq_some_iff.1 hx).1
    have hv := List.getElem?_eq_getElem hlt
    exact hl.2 Λ j v _ x hv hx (h5 j v _ hj hv)⟩
theorem FnEv.le {f : FuncId} {vs vs' : List V} {base : Nat} {sto : List (Nat × AObj)} {K : Out → Prop} (hl : VsLe vs vs') (h : FnEv P f vs' base sto K) : FnEv P f vs base sto K := by
  obtain ⟨out, h1, h2⟩ := h
  refine ⟨out, ?_, h2⟩
  split
  · rename_i e; rw [e] at h1; exact FnAt.le hl h1
  · rename_i e
    have h1' : ∀ s, FnAt P f vs' base s out := by simpa [e] using h1
    exact fun s => FnAt.le hl (h1' s)

def argsF {α : Type} (st : St) : List Ar → (List V → α) → α
  | [], K => K []
  | x :: r, K => V.pureK (x.u st) fun v => argsF st r fun vs => K (v :: vs)

theorem argsF_eq {α : Type} (st : St) : ∀ (l : List Ar) (K : List V → α), argsF st l K = K ((argsV st l).map V.pureV)
  | [], K => rfl
  | x :: r, K => by simp only [argsF, V.pureK_eq, argsF_eq st r, argsV, List.map_cons]

/-- what an operation leaves -/
def stepV {α : Type} (st : St) (d : Option Nat) (v : V) (K : St → α) : α := v.force fun v' => setEnv st d v' fun e => st.forceS e K

theorem Mid.call {f : FuncId} {args : List Ar} {vs : List V} {x : V} (h : FnOk P f vs ⟨[], 0⟩ { v := x }) (hv : argsF st args some = some vs) (hb : V.bds 0 vs = true) (hx : x.bd 0 = true) (hs : stepV st d x some = some st')
    (h' : Mid P n m R draw all after live k b ((false, false) :: fl) ops st') : Mid P n m R draw all after live k b fl (⟨d, none, .call f args⟩ :: ops) st := by
  rw [argsF_eq] at hv
  simp at hv
  refine Mid.opX rfl ?_
  simp only [evX]
  refine FnEv.le (VsLe.pure _) ?_
  rw [hv]
  refine callPure h hb hx ?_
  simp only [stepV, V.force_eq, setEnv_eq, St.forceS_eq, Option.some.injEq] at hs
  have : st' = st.app d { v := x } := by rw [← hs]; cases d <;> rfl
  rw [this] at h'
  exact h'

/-- a call of a function that reads the caller's objects -/
theorem Mid.callS {f : FuncId} {args : List Ar} {vs : List V} {x : V} (h : FnOk P f vs ⟨st.s.sto, b⟩ { v := x, rd := true }) (hv : argsF st args some = some vs) (hb : V.bds b vs = true) (hsb : stoBd b st.s.sto = true) (hs : stepV st d x some = some st')
    (h' : Mid P n m R draw all after live k b ((true, false) :: fl) ops st') : Mid P n m R draw all after live k b fl (⟨d, none, .call f args⟩ :: ops) st := by
  rw [argsF_eq] at hv
  simp at hv
  refine Mid.opX rfl ?_
  simp only [evX]
  refine FnEv.le (VsLe.pure _) ?_
  rw [hv]
  refine callSame h hb hsb ?_
  simp only [stepV, V.force_eq, setEnv_eq, St.forceS_eq, Option.some.injEq] at hs
  have : st' = st.app d { v := x, rd := true } := by rw [← hs]; cases d <;> rfl
  rw [this] at h'
  exact h'

/-- a call of a closure that reads the caller's objects -/
theorem Mid.callvS {f : FuncId} {caps : List (Nat × Nat)} {y : Ar} {args : List Ar} {vs : List V} {x : V} (hf : y.u st = .fn f caps) (h : FnOk P f (vs ++ capsV caps) ⟨st.s.sto, b⟩ { v := x, rd := true }) (hv : argsF st args some = some vs) (hb : V.bds b (vs ++ capsV caps) = true) (hsb : stoBd b st.s.sto = true) (hs : stepV st d x some = some st')
    (h' : Mid P n m R draw all after live k b ((true, false) :: fl) ops st') : Mid P n m R draw all after live k b fl (⟨d, none, .callv y args⟩ :: ops) st := by
  rw [argsF_eq] at hv
  simp at hv
  refine Mid.opX rfl ?_
  simp only [evX, hf]
  refine FnEv.le ((VsLe.pure _).app .rfl) ?_
  rw [hv]
  refine callSame h hb hsb ?_
  simp only [stepV, V.force_eq, setEnv_eq, St.forceS_eq, Option.some.injEq] at hs
  have : st' = st.app d { v := x, rd := true } := by rw [← hs]; cases d <;> rfl
  rw [this] at h'
  exact h'

/-- operands under a guard -/
def unK {α : Type} (gc : Bool) (v : V) (K : V → List Bool → α) : α :=
  match v with
  | .gd c x => x.pureK fun x' => K x' [!gc || c]
  | .agg cs => pureL cs fun cs' => K (.agg cs') []
  | .tup cs => forceL cs fun cs' => K (.tup cs') []
  | .t x => K (.t x) []
  | .nils => K (.t (.lst [])) []
  | .own _ _ xs => K (.t (.lst xs)) []
  | .slc k o l s => K (.slc k o l s) []
  | .ptr k o => K (.ptr k o) []
  | .mp k => K (.mp k) []
  | .fn f cs => K (.fn f cs) []
  | .ub c d => K (.ub c d) []
  | .top => K .top []
theorem unK_eq {α : Type} (gc : Bool) (v : V) (K : V → List Bool → α) : unK gc v K = K (v.un gc).1.pureV (v.un gc).2 := by
  cases v <;> simp only [unK, pureL_eq, forceL_eq, V.pureK_eq, V.un, V.pureV, V.pure1]
def argsG {α : Type} (gc : Bool) (st : St) : List Ar → (List V → List Bool → α) → α
  | [], K => K [] []
  | x :: r, K => unK gc (x.v st) fun v p => argsG gc st r fun vs ps => K (v :: vs) (p ++ ps)
theorem pall_app {a b : List Bool} : pall (a ++ b) ↔ pall a ∧ pall b := by
  induction a with
  | nil => simp [pall]
  | cons x r ih => simp [pall, ih, and_assoc]
set_option linter.unusedSimpArgs false in
theorem argsG_ok {st : St} : ∀ {l : List Ar} {vs : List V} {ps : List Bool}, argsG true st l (fun vs ps => some (vs, ps)) = some (vs, ps) → pall ps → (argsV st l).map V.pureV = vs := by
  have key : ∀ (l : List Ar) {ρ : Type} (K : List V → List Bool → ρ), ∃ vs ps, argsG true st l K = K vs ps ∧ (pall ps → (argsV st l).map V.pureV = vs) := by
    intro l
    induction l with
    | nil => intro ρ K; exact ⟨[], [], rfl, fun _ => rfl⟩
    | cons x r ih =>
      intro ρ K
      simp only [argsG, unK_eq]
      obtain ⟨vs, ps, h1, h2⟩ := ih fun vs ps => K (((x.v st).un true).1.pureV :: vs) (((x.v st).un true).2 ++ ps)
      refine ⟨_, _, h1, fun hp => ?_⟩
      rw [pall_app] at hp
      simp only [argsV, List.map_cons, h2 hp.2, Ar.u]
      congr 1
      congr 1
      cases hv : x.v st <;> simp only [V.un, V.ug] at *
      rename_i c y
      have := hp.1
      rw [hv] at this
      simp [V.un, pall] at this
      simp [this]
  intro l vs ps h hp
  obtain ⟨vs', ps', h1, h2⟩ := key l fun vs ps => some (vs, ps)
  rw [h1] at h
  simp at h
  obtain ⟨rfl, rfl⟩ := h
  exact h2 hp

/-- a call under a guard, of a function that is handed no objects -/
theorem Mid.callG {f : FuncId} {s : Nat} {want gc : Bool} {args : List Ar} {vs : List V} {ps : List Bool} {x : V} (hg : gcondF want (look st.env s) = some gc) (hv : argsG gc st args (fun vs ps => some (vs, ps)) = some (vs, ps)) (hp : pall (ps.map fun p => !gc || p)) (h : gc = true → ∃ vs', vs = vs' ∧ FnOk P f vs' ⟨[], 0⟩ { v := x } ∧ V.bds 0 vs' = true) (hx : x.bd 0 = true) (hs : stepV st d (.gd gc x) some = some st')
    (h' : Mid P n m R draw all after live k b ((false, false) :: fl) ops st') : Mid P n m R draw all after live k b fl (⟨d, some (s, want), .call f args⟩ :: ops) st := by
  rw [gcondF_eq] at hg
  simp only [stepV, V.force_eq, setEnv_eq, St.forceS_eq, Option.some.injEq] at hs
  have : st' = st.app d { v := .gd gc x } := by rw [← hs]; cases d <;> rfl
  rw [this] at h'
  unfold Mid at h' ⊢
  simp only [evR, evO, hg, evalE]
  refine .inl ⟨{ v := x }, ?_, ⟨rfl, rfl⟩, ?_⟩
  · intro hgc
    simp only [Bool.false_eq_true, if_false]
    intro s
    obtain ⟨vs', e1, e2, e3⟩ := h hgc
    subst hgc
    have hpp : pall ps := by
      have : ∀ l : List Bool, pall (l.map fun p => !true || p) → pall l := by
        intro l
        induction l with
        | nil => exact fun h => h
        | cons a r ih => intro h; exact ⟨by simpa using h.1, ih h.2⟩
      exact this ps hp
    refine FnAt.le (VsLe.pure _) ?_
    rw [argsG_ok hv hpp, e1]; exact e2.pure e3 hx
  · simpa using h'

def regF {α : Type} (live : List Nat) (b : Nat) (st : St) (K : St → α) : α := match st with | ⟨env, ⟨sto, _⟩⟩ => keepK live env fun e => K ⟨e, ⟨sto, b⟩⟩

/-- the end of a region -/
theorem Mid.done (h : regF live b st some = some st') (hr : regOk draw all after fl.reverse st.env) (h' : Run P n m R k st') : Mid P n m R draw all after live k b fl [] st := by
  obtain ⟨env, ⟨sto, nx⟩⟩ := st
  simp only [regF, keepK_eq, Option.some.injEq] at h
  subst h
  exact ⟨hr, h'⟩
theorem Mid.done0 (h : regF live b st some = some st') (h' : Run P n m R k st') : Mid P n m R false all after live k b fl [] st :=
  Mid.done h (fun h => by cases h) h'

/- ---------- operations that make or change objects ---------- -/

def AObj.force {ρ : Type} (o : AObj) (K : AObj → ρ) : ρ :=
  match o with
  | .cells cs => forceL cs fun cs' => K (.cells cs')
  | .map kag es s => K (.map kag es s)
  | .arr n => K (.arr n)
  | .iter q s u c => K (.iter q s u c)
theorem AObj.force_eq {ρ : Type} (o : AObj) (K : AObj → ρ) : o.force K = K o := by
  cases o <;> simp only [AObj.force, forceL_eq]

def asetsK {ρ : Type} : List (Nat × AObj) → List (Nat × AObj) → (List (Nat × AObj) → ρ) → ρ
  | s, [], K => K s
  | s, (k, o) :: r, K => o.force fun o' => asetK s k o' fun s' => asetsK s' r K
theorem asetsK_eq {ρ : Type} : ∀ (r s : List (Nat × AObj)) (K : List (Nat × AObj) → ρ), asetsK s r K = K (asets s r)
  | [], s, K => rfl
  | (k, o) :: r, s, K => by simp only [asetsK, AObj.force_eq, asetK_eq, asetsK_eq r, asets]

def forceG {α ρ : Type} : List α → (List α → ρ) → ρ
  | [], K => K []
  | x :: r, K => forceG r fun r' => K (x :: r')
theorem forceG_eq {α ρ : Type} : ∀ (l : List α) (K : List α → ρ), forceG l K = K l
  | [], K => rfl
  | x :: r, K => forceG_eq r _
def forceGG {α ρ : Type} : List (List α) → (List (List α) → ρ) → ρ
  | [], K => K []
  | x :: r, K => forceG x fun x' => forceGG r fun r' => K (x' :: r')
theorem forceGG_eq {α ρ : Type} : ∀ (l : List (List α)) (K : List (List α) → ρ), forceGG l K = K l
  | [], K => rfl
  | x :: r, K => by simp only [forceGG, forceG_eq]; exact forceGG_eq r _

/-- the state behind an operation -/
def stepS {ρ : Type} (b : Nat) (st : St) (d : Option Nat) (o : Out) (K : Nat → St → ρ) : ρ :=
  forceN (b + o.n) fun b' => o.v.force fun v' => setEnv st d v' fun e => asetsK st.s.sto o.ob fun sto => match st with | ⟨_, ⟨_, nx⟩⟩ => K b' ⟨e, ⟨sto, nx⟩⟩
theorem stepS_eq {ρ : Type} (b : Nat) (st : St) (d : Option Nat) (o : Out) (K : Nat → St → ρ) : stepS b st d o K = K (b + o.n) (st.app d o) := by
  obtain ⟨env, ⟨sto, nx⟩⟩ := st
  simp only [stepS, forceN_eq, V.force_eq, setEnv_eq, asetsK_eq]
  cases d <;> rfl

/-- an operation whose obligations are closed -/
def stepX (b : Nat) (st : St) : AOp → Option Out
  | .st n x v =>
    match x.u st with
    | .ptr k o =>
      match aget st.s.sto k with
      | some (.cells cs) =>
        match (v.u st).parts with
        | some vs => bif Nat.beq vs.length n && Nat.ble (o + n) cs.length && vs.all V.cellOk then some { v := .top, ob := [(k, .cells (setAt cs o vs))], rd := true } else none
        | none => none
      | _ => none
    | _ => none
  | .box n x =>
    match (x.u st).parts with
    | some vs => bif Nat.beq vs.length n && vs.all V.cellOk then some { v := .ptr b 0, ob := [(b, .cells vs)], n := 1 } else none
    | none => none
  | .alloc zs => some { v := .ptr b 0, ob := [(b, .cells zs)], n := 1 }
  | .bsl ow sz zs ps =>
    match pureParts st sz zs ps with
    | some xs => forceGG xs fun xs => bif allLen sz xs then (match ow with | true => (match xs with | [] => some { v := .nils } | y :: ys => some { v := .own b sz (y :: ys), ob := [(b, .arr (y :: ys).length)], n := 1 }) | false => some { v := .t (.lst xs) }) else none
    | none => none
  | _ => none

theorem stepX_ok {P : Program} {b : Nat} {st : St} {op : AOp} {o : Out} {K : Out → Prop} (h : stepX b st op = some o) (hk : K o) : evX P b st K op := by
  unfold stepX at h
  split at h
  · rename_i nn x v
    simp only [evX]
    split at h
    · rename_i k oo hx
      rw [hx]
      simp only
      split at h
      · rename_i cs hc
        rw [hc]
        simp only
        split at h
        · rename_i vs hv
          rw [hv]
          simp only
          cases hh : (Nat.beq vs.length nn && Nat.ble (oo + nn) cs.length && vs.all V.cellOk) with
          | false => rw [hh] at h; simp at h
          | true =>
            rw [hh] at h
            simp at h; subst h
            simp only [Bool.and_eq_true] at hh
            refine ⟨⟨?_, hh.2⟩, hk⟩
            have h1 := Nat.eq_of_beq_eq_true hh.1.1
            have h2 := Nat.le_of_ble_eq_true hh.1.2
            simp [h1, h2]
        · cases h
      · cases h
    · cases h
  · rename_i nn x
    simp only [evX]
    split at h
    · rename_i vs hv
      rw [hv]
      simp only
      cases hh : (Nat.beq vs.length nn && vs.all V.cellOk) with
      | false => rw [hh] at h; simp at h
      | true =>
        rw [hh] at h
        simp at h; subst h
        simp only [Bool.and_eq_true] at hh
        refine ⟨⟨?_, hh.2⟩, hk⟩
        have h1 := Nat.eq_of_beq_eq_true hh.1
        simp [h1]
    · cases h
  · simp at h; subst h; exact hk
  · rename_i ow sz zs ps
    simp only [evX]
    split at h
    · rename_i xs hv
      rw [hv]
      simp only [forceGG_eq] at h ⊢
      cases hh : allLen sz xs with
      | false => rw [hh] at h; simp at h
      | true =>
        rw [hh] at h
        refine ⟨rfl, ?_⟩
        cases ow with
        | false => simp at h; subst h; exact hk
        | true =>
          left
          cases xs with
          | nil => simp at h; subst h; exact hk
          | cons y ys => simp at h; subst h; exact hk
    · cases h
  · cases h

def stepE (b : Nat) (st : St) (d : Option Nat) (op : AOp) : Option (Nat × St × Bool × Bool) :=
  match stepX b st op with
  | some o => forceB o.rd fun r => forceB (!o.ob.isEmpty || decide (0 < o.n)) fun c => stepS b st d o fun b' st' => some (b', st', r, c)
  | none => none

theorem evalE_none {st : St} {op : AOp} {b : Nat} {o : Out} (h : stepX b st op = some o) : evalE true st op = none := by
  cases op <;> first | rfl | (simp [stepX] at h)

variable {b' : Nat}
theorem Mid.eff {op : AOp} {r c : Bool} (h : stepE b st d op = some (b', st', r, c)) (h' : Mid P n m R draw all after live k b' ((r, c) :: fl) ops st') : Mid P n m R draw all after live k b fl (⟨d, none, op⟩ :: ops) st := by
  unfold stepE at h
  split at h
  · rename_i o ho
    simp only [forceB_eq, stepS_eq, Option.some.injEq, Prod.mk.injEq] at h
    obtain ⟨rfl, rfl, rfl, rfl⟩ := h
    exact Mid.opX (evalE_none ho) (stepX_ok ho h')
  · cases h

/-- a new slice that is only looked at from here on -/
theorem Mid.bslP {sz : Nat} {zs xs : List (List T)} {ps : List (Nat × Ar)} {ow : Bool} (hx : pureParts st sz zs ps = some xs) (ha : allLen sz xs = true) (hs : stepV st d (.t (.lst xs)) some = some st')
    (h' : Mid P n m R draw all after live k b ((false, false) :: fl) ops st') : Mid P n m R draw all after live k b fl (⟨d, none, .bsl ow sz zs ps⟩ :: ops) st := by
  simp only [stepV, V.force_eq, setEnv_eq, St.forceS_eq, Option.some.injEq] at hs
  have e : st' = st.app d { v := .t (.lst xs) } := by rw [← hs]; cases d <;> rfl
  refine Mid.opX rfl ?_
  simp only [evX, hx]
  refine ⟨ha, ?_⟩
  have hk : Mid P n m R draw all after live k (b + 0) ((false, !([] : List (Nat × AObj)).isEmpty || decide (0 < 0)) :: fl) ops (st.app d { v := .t (.lst xs) }) := by
    rw [e] at h'; simpa using h'
  cases ow with
  | true => exact .inr hk
  | false => exact hk

/-- append to a slice of one's own -/
theorem Mid.appOwn {sz by_ j s nn : Nat} {x y : Ar} {xs ys : List (List T)} (hx : x.u st = .own j s xs) (hy : (y.u st).cell1 = some (.lst ys)) (hn : aget st.s.sto j = some (.arr nn)) (he : nn = xs.length) (hs : Nat.beq s sz = true) (hl : allLen sz ys = true)
    (h1 : (xs.length + ys.length) * by_ ≤ 140737488355328) (h2 : xs.length + ys.length ≤ 9223372036854775807)
    (hst : stepS b st d { v := .own j sz (xs ++ ys), ob := [(j, .arr (xs.length + ys.length))], rd := true } (fun b' st' => some (b', st')) = some (b', st'))
    (h' : Mid P n m R draw all after live k b' ((true, true) :: fl) ops st') : Mid P n m R draw all after live k b fl (⟨d, none, .app sz by_ x y⟩ :: ops) st := by
  refine Mid.opX rfl ?_
  have hs' := Nat.eq_of_beq_eq_true hs
  simp only [stepS_eq, Option.some.injEq, Prod.mk.injEq] at hst
  obtain ⟨rfl, rfl⟩ := hst
  simp only [evX, hx, hy, hn]
  exact ⟨hs', he, hl, h1, h2, h'⟩

/-- append along an encoding -/
theorem Mid.appMap {α : Type} (f : α → List T) (l1 l2 : List α) {sz by_ j s nn : Nat} {x y : Ar} (hx : x.u st = .own j s (l1.map f)) (hy : (y.u st).cell1 = some (.lst (l2.map f))) (hn : aget st.s.sto j = some (.arr nn)) (he : nn = l1.length) (hs : Nat.beq s sz = true) (hl : ∀ x, (f x).length = sz)
    (h1 : (l1.length + l2.length) * by_ ≤ 140737488355328) (h2 : l1.length + l2.length ≤ 9223372036854775807)
    (hst : stepS b st d { v := .own j sz ((l1 ++ l2).map f), ob := [(j, .arr (l1 ++ l2).length)], rd := true } (fun b' st' => some (b', st')) = some (b', st'))
    (h' : Mid P n m R draw all after live k b' ((true, true) :: fl) ops st') : Mid P n m R draw all after live k b fl (⟨d, none, .app sz by_ x y⟩ :: ops) st :=
  Mid.appOwn hx hy hn (by simpa using he) hs (by simp [allLen, hl]) (by simpa using h1) (by simpa using h2) (by rw [← hst]; simp) h'
/-- make -/
theorem Mid.mksl {sz by_ : Nat} {z : List V} {x : Ar} {kd : IntKind} {i : Int} (hx : x.u st = .t (.int kd i)) (h0 : 0 ≤ i) (h1 : i * by_ ≤ 281474976710656) (h2 : i ≤ 9223372036854775807) (hz : Nat.beq z.length sz = true)
    (hst : stepS b st d { v := .slc b 0 i.toNat sz, ob := [(b, .cells (List.replicate i.toNat z).flatten)], n := 1 } (fun b' st' => some (b', st')) = some (b', st'))
    (h' : Mid P n m R draw all after live k b' ((false, true) :: fl) ops st') : Mid P n m R draw all after live k b fl (⟨d, none, .mksl sz by_ z x⟩ :: ops) st := by
  refine Mid.opX rfl ?_
  simp only [stepS_eq, Option.some.injEq, Prod.mk.injEq] at hst
  obtain ⟨rfl, rfl⟩ := hst
  simp only [evX, hx]
  exact ⟨⟨h0, h1, h2, Nat.eq_of_beq_eq_true hz⟩, h'⟩

/-- reading a list's element's address -/
theorem Mid.elem {sz : Nat} {x i : Ar} {v : V} {p1 p2 : List Bool} {kd : IntKind} {z : Int} {xs : List (List T)} {c : List T} (hx : rd true st x = (v, p1)) (hv : v.cell1 = some (.lst xs)) (hi : rd true st i = (.t (.int kd z), p2)) (hc : xs[z.toNat]? = some c) (hl : (Nat.beq c.length sz && !(Nat.beq sz 0)) = true) (h0 : 0 ≤ z) (hp : pall (p1 ++ p2))
    (hs : stepV st d (.t (.ptr c)) some = some st') (h' : Mid P n m R draw all after live k b ((false, false) :: fl) ops st') : Mid P n m R draw all after live k b fl (⟨d, none, .ia sz x i⟩ :: ops) st := by
  have hl1 : c.length = sz ∧ sz ≠ 0 := by
    simp only [Bool.and_eq_true] at hl
    refine ⟨Nat.eq_of_beq_eq_true hl.1, ?_⟩
    rintro rfl
    simp at hl
  have hev : evalE true st (.ia sz x i) = some (.t (.ptr c), p1 ++ (p2 ++ [decide (0 ≤ z)])) := by
    simp only [evalE, hx, hi]
    cases v <;> simp_all [V.cell1]
  simp only [stepV, V.force_eq, setEnv_eq, St.forceS_eq, Option.some.injEq] at hs
  have e : st' = st.app d { v := .t (.ptr c) } := by rw [← hs]; cases d <;> rfl
  rw [e] at h'
  unfold Mid at h' ⊢
  simp only [evR, evO, evU, hev, looksE]
  refine ⟨?_, by simpa using h'⟩
  have hpa : ∀ (a b : List Bool), pall (a ++ b) ↔ pall a ∧ pall b := by
    intro a b
    induction a with
    | nil => simp [pall]
    | cons x r ih => simp [pall, ih, and_assoc]
  rw [hpa] at hp
  simp [hpa, hp.1, hp.2, pall, h0]

/-- a value put in place of an operation's -/
theorem Mid.val {op : AOp} {v : V} {ps : List Bool} (hev : evalE true st op = some (v, ps)) (hl : looksE st op = false) (hp : pall ps) (hs : stepV st d v some = some st')
    (h' : Mid P n m R draw all after live k b ((false, false) :: fl) ops st') : Mid P n m R draw all after live k b fl (⟨d, none, op⟩ :: ops) st := by
  simp only [stepV, V.force_eq, setEnv_eq, St.forceS_eq, Option.some.injEq] at hs
  have e : st' = st.app d { v := v } := by rw [← hs]; cases d <;> rfl
  rw [e] at h'
  unfold Mid at h' ⊢
  simp only [evR, evO, evU, hev, hl]
  exact ⟨hp, by simpa using h'⟩

/-- a sum with a small number -/
theorem Mid.addL {x y : Ar} {i jn : Nat} {j : Int} (hx : rd true st x = (.t (.int .i64 i), [])) (hy : rd true st y = (.t (.int .i64 j), [])) (hj : forceN j.toNat some = some jn) (hjn : j = (jn : Int)) (h2 : i + jn ≤ 9223372036854775807) (hs : stepV st d (.t (.int .i64 ((i + jn : Nat) : Int))) some = some st')
    (h' : Mid P n m R draw all after live k b ((false, false) :: fl) ops st') : Mid P n m R draw all after live k b fl (⟨d, none, .bin .add x y⟩ :: ops) st :=
  Mid.val (v := .t (.int .i64 ((i + jn : Nat) : Int))) (ps := []) (by subst hjn; simp only [evalE, hx, hy, binT]; simp; exact wrap64 (by omega) (by omega)) rfl trivial hs h'
theorem Mid.lenMap {α : Type} {f : α → List T} {l : List α} {x : Ar} {v : V} (hx : rd true st x = (v, [])) (hv : v.cell1 = some (.lst (l.map f))) (hs : stepV st d (.t (.int .i64 l.length)) some = some st')
    (h' : Mid P n m R draw all after live k b ((false, false) :: fl) ops st') : Mid P n m R draw all after live k b fl (⟨d, none, .len x⟩ :: ops) st := by
  refine Mid.val (v := .t (.int .i64 l.length)) (ps := []) ?_ rfl trivial hs h'
  simp only [evalE, hx]
  cases v <;> simp_all [V.cell1]

theorem Mid.elemMap {α : Type} {f : α → List T} {l : List α} {e : α} {sz j : Nat} {x i : Ar} {v : V} {kd : IntKind} (hx : rd true st x = (v, [])) (hv : v.cell1 = some (.lst (l.map f))) (hi : rd true st i = (.t (.int kd j), [])) (hc : l[j]? = some e) (hl : (Nat.beq (f e).length sz && !(Nat.beq sz 0)) = true)
    (hs : stepV st d (.t (.ptr (f e))) some = some st') (h' : Mid P n m R draw all after live k b ((false, false) :: fl) ops st') : Mid P n m R draw all after live k b fl (⟨d, none, .ia sz x i⟩ :: ops) st :=
  Mid.elem hx hv hi (by simp [hc]) hl (by simp) trivial hs h'

/-- the same under a guard -/
theorem Mid.valG {op : AOp} {s : Nat} {want gc : Bool} {v : V} {ps : List Bool} (hg : gcondF want (look st.env s) = some gc) (hev : evalE gc st op = some (v, ps)) (hl : looksE st op = false) (hp : pall (ps.map fun p => !gc || p)) (hs : stepV st d (.gd gc v) some = some st')
    (h' : Mid P n m R draw all after live k b ((false, false) :: fl) ops st') : Mid P n m R draw all after live k b fl (⟨d, some (s, want), op⟩ :: ops) st := by
  rw [gcondF_eq] at hg
  simp only [stepV, V.force_eq, setEnv_eq, St.forceS_eq, Option.some.injEq] at hs
  have e : st' = st.app d { v := .gd gc v } := by rw [← hs]; cases d <;> rfl
  rw [e] at h'
  unfold Mid at h' ⊢
  simp only [evR, evO, hg, hev, hl]
  exact ⟨hp, by simpa using h'⟩

theorem Mid.lenMapG {α : Type} {f : α → List T} {l : List α} {s : Nat} {want gc : Bool} {x : Ar} {v : V} {p1 : List Bool} (hg : gcondF want (look st.env s) = some gc) (hx : rd gc st x = (v, p1)) (hv : v.cell1 = some (.lst (l.map f))) (hp1 : pall (p1.map fun p => !gc || p)) (hs : stepV st d (.gd gc (.t (.int .i64 l.length))) some = some st')
    (h' : Mid P n m R draw all after live k b ((false, false) :: fl) ops st') : Mid P n m R draw all after live k b fl (⟨d, some (s, want), .len x⟩ :: ops) st := by
  refine Mid.valG (v := .t (.int .i64 l.length)) (ps := p1) hg ?_ rfl hp1 hs h'
  simp only [evalE, hx]
  cases v <;> simp_all [V.cell1]

theorem Mid.elemMapG {α : Type} {f : α → List T} {l : List α} {e : α} {sz j : Nat} {s : Nat} {want gc : Bool} {x i : Ar} {v : V} {kd : IntKind} {p1 p2 : List Bool} (hg : gcondF want (look st.env s) = some gc) (hx : rd gc st x = (v, p1)) (hv : v.cell1 = some (.lst (l.map f))) (hi : rd gc st i = (.t (.int kd j), p2)) (hc : l[j]? = some e) (hl : (Nat.beq (f e).length sz && !(Nat.beq sz 0)) = true)
    (hp1 : pall (p1.map fun p => !gc || p)) (hp2 : pall (p2.map fun p => !gc || p)) (hs : stepV st d (.gd gc (.t (.ptr (f e)))) some = some st') (h' : Mid P n m R draw all after live k b ((false, false) :: fl) ops st') : Mid P n m R draw all after live k b fl (⟨d, some (s, want), .ia sz x i⟩ :: ops) st := by
  have hl1 : (f e).length = sz ∧ sz ≠ 0 := by
    simp only [Bool.and_eq_true] at hl
    refine ⟨Nat.eq_of_beq_eq_true hl.1, ?_⟩
    rintro rfl
    simp at hl
  refine Mid.valG (v := .t (.ptr (f e))) (ps := p1 ++ (p2 ++ [true])) hg ?_ rfl (by simp only [List.map_append, pall_app]; exact ⟨hp1, hp2, by simp [pall]⟩) hs h'
  simp only [evalE, hx, hi]
  cases v <;> simp_all [V.cell1]

theorem aget_append {α : Type} {k : Nat} {o : α} : ∀ {a b : List (Nat × α)}, aget a k = some o → aget (a ++ b) k = some o
  | [], b, h => by simp [aget] at h
  | (j, x) :: r, b, h => by
    simp only [List.cons_append, aget] at h ⊢
    split
    · rename_i e; simpa [e] using h
    · rename_i e; simp only [e, if_false] at h; exact aget_append h

/-- the end of a function that has changed nothing that it was handed: all that it made is forgotten -/
theorem EndOk.sameX {s : S} {st : St} {rs : List ARes} {x r : V} {rd : Bool} {ex : List (Nat × AObj)} (hr : ressV st rs = some r) (he : st.s.sto = s.sto ++ ex) (hn : Nat.ble s.nxt st.s.nxt = true) (hs : stoBd s.nxt s.sto = true) (h : LeR s.nxt st.s r x) : EndOk s { v := x, rd := rd } rs .ret st := by
  refine ⟨r, hr, Nat.le_of_ble_eq_true hn, h, .same fun k o hk => ⟨?_, stoBd_at hs k o hk⟩⟩
  rw [he]; exact aget_append hk

/-- A loop along a list. -/
theorem Run.list {α β : Type} {k k' : List It} {c : ACode} {st : St} (l : List α) (stf : Nat → β → St) (Inv : List α → Nat → β → Prop) (j : Nat) (b0 : β) (hk : advK 200 k = .c (.loop c) :: k') (h0 : Inv l 0 b0)
    (h1 : Nat.ble m j = true) (h2 : Nat.ble j st.s.nxt = true) (h3 : Nat.ble j (stf 0 b0).s.nxt = true) (he : LeE j (stf 0 b0).s.nxt st.env (stf 0 b0).env) (hs : LeS j (stf 0 b0).s.nxt st.s.sto (stf 0 b0).s.sto)
    (hend : ∀ b, Inv [] l.length b → Run P n m R (.c c :: .lp c :: k') (stf l.length b))
    (hstep : ∀ (i : Nat) (x : α) (r : List α) (b : β), l[i]? = some x → i < l.length → l.drop (i + 1) = r → Inv (x :: r) i b → (∀ b', Inv r (i + 1) b' → Run P n m R (.lp c :: k') (stf (i + 1) b')) → Run P n m R (.c c :: .lp c :: k') (stf i b)) :
    Run P n m R k st := by
  refine Run.loop hk (Run.weak j rfl ?_ h1 h2 h3 he hs)
  have key : ∀ (r : List α) (i : Nat) (b : β), l.drop i = r → i ≤ l.length → Inv r i b → Run P n m R (.lp c :: k') (stf i b) := by
    intro r
    induction r with
    | nil =>
      intro i b hd hi hb
      have := drop_end hd
      have e : i = l.length := by omega
      subst e
      exact Run.unroll (hend b hb)
    | cons x r ih =>
      intro i b hd hi hb
      obtain ⟨e1, e2, e3⟩ := drop_at hd
      exact Run.unroll (hstep i x r b e1 e3 e2 hb fun b' hb' => ih (i + 1) b' e2 (by omega) hb')
  exact key l 0 b0 rfl (Nat.zero_le _) h0

/-- A loop with a measure. -/
theorem Run.loopM {β : Type} {k k' : List It} {c : ACode} {st : St} (stf : β → St) (Inv : β → Prop) (μ : β → Nat) (j : Nat) (b0 : β) (hk : advK 200 k = .c (.loop c) :: k') (h0 : Inv b0)
    (h1 : Nat.ble m j = true) (h2 : Nat.ble j st.s.nxt = true) (h3 : Nat.ble j (stf b0).s.nxt = true) (he : LeE j (stf b0).s.nxt st.env (stf b0).env) (hs : LeS j (stf b0).s.nxt st.s.sto (stf b0).s.sto)
    (hstep : ∀ (b : β), Inv b → (∀ b', μ b' < μ b → Inv b' → Run P n m R (.lp c :: k') (stf b')) → Run P n m R (.c c :: .lp c :: k') (stf b)) : Run P n m R k st := by
  refine Run.loop hk (Run.weak j rfl ?_ h1 h2 h3 he hs)
  have key : ∀ (f : Nat) (b : β), μ b < f → Inv b → Run P n m R (.lp c :: k') (stf b) := by
    intro f
    induction f with
    | zero => intro b h; omega
    | succ f ih => intro b h hb; exact Run.unroll (hstep b hb fun b' hlt hb' => ih b' (by omega) hb')
  exact key (μ b0 + 1) b0 (by omega) h0

/- ---------- many steps at once ---------- -/

inductive Cfg where
  | run (k : List It) (st : St)
  | mid (draw : Bool) (all : List AO) (after : List (List Nat)) (live : List Nat) (k : List It) (b : Nat) (fl : List (Bool × Bool)) (ops : List AO) (st : St)

def Go (P : Program) (n m : Nat) (R : St → Prop) : Cfg → Prop
  | .run k st => Run P n m R k st
  | .mid draw all after live k b fl ops st => Mid P n m R draw all after live k b fl ops st

/-- operations that may need a fact -/
def AOp.slow : AOp → Bool
  | .ia _ _ _ => true
  | .iarr _ _ _ _ => true
  | .ixs _ _ => true
  | .ixa _ _ _ _ _ => true
  | .len _ => true
  | .bin .add _ _ => true
  | .bin .sub _ _ => true
  | .bin .mul _ _ => true
  | .bin .quo _ _ => true
  | .bin .rem _ _ => true
  | .sls _ _ _ => true
  | .sll _ _ _ _ => true
  | .lenm _ => true
  | .app _ _ _ _ => true
  | .mksl _ _ _ _ => true
  | .nw _ => true
  | .call _ _ => true
  | .callv _ _ => true
  | _ => false

/-- runs as long as no fact is needed; what must hold is gathered -/
def fastK {ρ : Type} : Nat → Cfg → List (List Bool) → (Cfg → List (List Bool) → ρ) → ρ
  | 0, c, ps, K => K c ps
  | f + 1, .run k st, ps, K =>
    match advK 200 k with
    | .c (.region draw ops after live) :: k' => forceN st.s.nxt fun b => fastK f (.mid draw ops after live k' b [] ops st) ps K
    | k' => K (.run k' st) ps
  | f + 1, .mid draw all after live k b fl [] st, ps, K =>
    match draw with
    | false => regF live b st fun st' => fastK f (.run k st') ps K
    | true => regF live b st fun st' => fastK f (.run k st') ([indep all after fl.reverse st.env] :: ps) K
  | f + 1, .mid draw all after live k b fl (⟨d, g, op⟩ :: ops) st, ps, K =>
    match op.slow with
    | true => K (.mid draw all after live k b fl (⟨d, g, op⟩ :: ops) st) ps
    | false =>
      match g with
      | none =>
        match stepE b st d op with
        | some (b', st', r, c) => fastK f (.mid draw all after live k b' ((r, c) :: fl) ops st') ps K
        | none =>
          match stepP st d op with
          | some ([], st', l) => fastK f (.mid draw all after live k b ((l, false) :: fl) ops st') ps K
          | some (p :: q, st', l) => fastK f (.mid draw all after live k b ((l, false) :: fl) ops st') ((p :: q) :: ps) K
          | none => K (.mid draw all after live k b fl (⟨d, none, op⟩ :: ops) st) ps
      | some (s, want) =>
        match stepG st d s want op with
        | some ([], st', l) => fastK f (.mid draw all after live k b ((l, false) :: fl) ops st') ps K
        | some (p :: q, st', l) => fastK f (.mid draw all after live k b ((l, false) :: fl) ops st') ((p :: q) :: ps) K
        | none => K (.mid draw all after live k b fl (⟨d, some (s, want), op⟩ :: ops) st) ps

def palls : List (List Bool) → Prop
  | [] => True
  | p :: r => pall p ∧ palls r

theorem fastK_ok {ρ : Type} : ∀ (f : Nat) (c : Cfg) (ps : List (List Bool)) (K : Cfg → List (List Bool) → ρ), ∃ c' ps', fastK f c ps K = K c' ps' ∧ (palls ps' → palls ps ∧ (Go P n m R c' → Go P n m R c))
  | 0, c, ps, K => ⟨c, ps, rfl, fun h => ⟨h, fun h => h⟩⟩
  | f + 1, .run k st, ps, K => by
    simp only [fastK]
    split
    · rename_i draw ops after live k' hk
      simp only [forceN_eq]
      obtain ⟨c', ps', h1, h2⟩ := fastK_ok f (.mid draw ops after live k' st.s.nxt [] ops st) ps K
      refine ⟨c', ps', h1, fun h => ⟨(h2 h).1, fun hg => Run.region hk (forceN_eq _ _) ((h2 h).2 hg)⟩⟩
    · exact ⟨_, _, rfl, fun h => ⟨h, fun hg => Run.adv 200 rfl hg⟩⟩
  | f + 1, .mid draw all after live k b fl [] st, ps, K => by
    cases draw with
    | false =>
      simp only [fastK]
      obtain ⟨env, ⟨sto, nx⟩⟩ := st
      simp only [regF, keepK_eq]
      obtain ⟨c', ps', h1, h2⟩ := fastK_ok f (.run k ⟨keepE live env, ⟨sto, b⟩⟩) ps K
      exact ⟨c', ps', h1, fun h => ⟨(h2 h).1, fun hg => Mid.done0 (st' := ⟨keepE live env, ⟨sto, b⟩⟩) (by simp only [regF, keepK_eq]) ((h2 h).2 hg)⟩⟩
    | true =>
      simp only [fastK]
      obtain ⟨env, ⟨sto, nx⟩⟩ := st
      simp only [regF, keepK_eq]
      obtain ⟨c', ps', h1, h2⟩ := fastK_ok f (.run k ⟨keepE live env, ⟨sto, b⟩⟩) ([indep all after fl.reverse env] :: ps) K
      refine ⟨c', ps', h1, fun h => ?_⟩
      obtain ⟨⟨g1, g2⟩, g3⟩ := h2 h
      exact ⟨g2, fun hg => Mid.done (st' := ⟨keepE live env, ⟨sto, b⟩⟩) (by simp only [regF, keepK_eq]) (fun _ => g1.1) (g3 hg)⟩
  | f + 1, .mid draw all after live k b fl (⟨d, g, op⟩ :: ops) st, ps, K => by
    simp only [fastK]
    split
    · exact ⟨_, _, rfl, fun h => ⟨h, fun h => h⟩⟩
    · split
      · split
        · rename_i b' st' r c he
          obtain ⟨c', ps', h1, h2⟩ := fastK_ok f (.mid draw all after live k b' ((r, c) :: fl) ops st') ps K
          exact ⟨c', ps', h1, fun h => ⟨(h2 h).1, fun hg => Mid.eff he ((h2 h).2 hg)⟩⟩
        · split
          · rename_i st' l hs
            obtain ⟨c', ps', h1, h2⟩ := fastK_ok f (.mid draw all after live k b ((l, false) :: fl) ops st') ps K
            exact ⟨c', ps', h1, fun h => ⟨(h2 h).1, fun hg => Mid.pure0 hs ((h2 h).2 hg)⟩⟩
          · rename_i p q st' l hs
            obtain ⟨c', ps', h1, h2⟩ := fastK_ok f (.mid draw all after live k b ((l, false) :: fl) ops st') ((p :: q) :: ps) K
            exact ⟨c', ps', h1, fun h => ⟨(h2 h).1.2, fun hg => Mid.pure hs (h2 h).1.1 ((h2 h).2 hg)⟩⟩
          · exact ⟨_, _, rfl, fun h => ⟨h, fun h => h⟩⟩
      · split
        · rename_i st' l hs
          obtain ⟨c', ps', h1, h2⟩ := fastK_ok f (.mid draw all after live k b ((l, false) :: fl) ops st') ps K
          exact ⟨c', ps', h1, fun h => ⟨(h2 h).1, fun hg => Mid.grd hs trivial ((h2 h).2 hg)⟩⟩
        · rename_i p q st' l hs
          obtain ⟨c', ps', h1, h2⟩ := fastK_ok f (.mid draw all after live k b ((l, false) :: fl) ops st') ((p :: q) :: ps) K
          exact ⟨c', ps', h1, fun h => ⟨(h2 h).1.2, fun hg => Mid.grd hs (h2 h).1.1 ((h2 h).2 hg)⟩⟩
        · exact ⟨_, _, rfl, fun h => ⟨h, fun h => h⟩⟩

/-- is there a step to take? -/
def Cfg.canGo : Cfg → Bool
  | .run k _ => match advK 200 k with | .c (.region _ _ _ _) :: _ => true | _ => false
  | .mid _ _ _ _ _ _ _ [] _ => true
  | .mid _ _ _ _ _ b _ (⟨d, g, op⟩ :: _) st =>
    match op.slow with
    | true => false
    | false =>
      match g with
      | none => match stepE b st d op with | some _ => true | none => match stepP st d op with | some _ => true | none => false
      | some (s, want) => match stepG st d s want op with | some _ => true | none => false

def fast (f : Nat) (c : Cfg) : Option (Cfg × List (List Bool)) :=
  match c.canGo with
  | true => fastK f c [] fun c' ps => some (c', ps)
  | false => none

theorem Go.fast {f : Nat} {c c' : Cfg} {ps : List (List Bool)} (h : fast f c = some (c', ps)) (hp : palls ps) (h' : Go P n m R c') : Go P n m R c := by
  unfold Go.GB.fast at h
  split at h
  · obtain ⟨c2, ps2, h1, h2⟩ := fastK_ok (P := P) (n := n) (m := m) (R := R) f c [] fun c' ps => some (c', ps)
    rw [h1] at h
    simp at h
    obtain ⟨rfl, rfl⟩ := h
    exact (h2 hp).2 h'
  · cases h

theorem Run.fast {f : Nat} {k : List It} {st : St} {c' : Cfg} {ps : List (List Bool)} (h : fast f (.run k st) = some (c', ps)) (hp : palls ps) (h' : Go P n m R c') : Run P n m R k st := Go.fast (c := .run k st) h hp h'
theorem Mid.fast {f : Nat} {c' : Cfg} {ps : List (List Bool)} (h : fast f (.mid draw all after live k b fl ops st) = some (c', ps)) (hp : palls ps) (h' : Go P n m R c') : Mid P n m R draw all after live k b fl ops st := Go.fast (c := .mid draw all after live k b fl ops st) h hp h'

attribute [irreducible] Run Mid

end
end Go.GB


/-
  GbZB: the driver's rules with what they ask for found by themselves.
-/
namespace Go.GB
set_option linter.unusedVariables false
section
variable {P : Program} {n m : Nat} {R : St → Prop}
variable {draw : Bool} {all : List AO} {after : List (List Nat)} {live : List Nat} {k : List It} {b : Nat} {fl : List (Bool × Bool)} {ops : List AO} {st st' : St} {d : Option Nat} {b' : Nat}

theorem fR {k : List It} {st : St} {c' : Cfg} {ps : List (List Bool)} (h : fast 200 (.run k st) = some (c', ps)) (h' : Go P n m R c') (hp : palls ps := by (repeat' (first | exact trivial | exact Bool.not_or_self _ | exact grd1 _ | exact grd2 _ | exact grd3 _ _ | exact grd4 _ _ | refine And.intro ?_ ?_ | exact rfl | (simp; done) | (simp <;> omega))); done) : Run P n m R k st :=
  Run.fast h hp h'
theorem fM {c' : Cfg} {ps : List (List Bool)} (h : fast 200 (.mid draw all after live k b fl ops st) = some (c', ps)) (h' : Go P n m R c') (hp : palls ps := by (repeat' (first | exact trivial | exact Bool.not_or_self _ | exact grd1 _ | exact grd2 _ | exact grd3 _ _ | exact grd4 _ _ | refine And.intro ?_ ?_ | exact rfl | (simp; done) | (simp <;> omega))); done) : Mid P n m R draw all after live k b fl ops st :=
  Mid.fast h hp h'
theorem aL {x y : Ar} {i jn : Nat} {j : Int} (hx : rd true st x = (.t (.int .i64 i), [])) (hy : rd true st y = (.t (.int .i64 j), [])) (hj : forceN j.toNat some = some jn) (hjn : j = (jn : Int)) (hs : stepV st d (.t (.int .i64 ((i + jn : Nat) : Int))) some = some st') (h' : Mid P n m R draw all after live k b ((false, false) :: fl) ops st') (h2 : i + jn ≤ 9223372036854775807 := by omega) : Mid P n m R draw all after live k b fl (⟨d, none, .bin .add x y⟩ :: ops) st :=
  Mid.addL hx hy hj hjn h2 hs h'
theorem lM {α : Type} {f : α → List T} {l : List α} {x : Ar} {v : V} (hx : rd true st x = (v, [])) (hv : v.cell1 = some (.lst (l.map f))) (hs : stepV st d (.t (.int .i64 l.length)) some = some st') (h' : Mid P n m R draw all after live k b ((false, false) :: fl) ops st') : Mid P n m R draw all after live k b fl (⟨d, none, .len x⟩ :: ops) st :=
  Mid.lenMap hx hv hs h'
theorem lMG {α : Type} {f : α → List T} {l : List α} {s : Nat} {want gc : Bool} {x : Ar} {v : V} {p1 : List Bool} (hg : gcondF want (look st.env s) = some gc) (hx : rd gc st x = (v, p1)) (hv : v.cell1 = some (.lst (l.map f))) (hs : stepV st d (.gd gc (.t (.int .i64 l.length))) some = some st') (h' : Mid P n m R draw all after live k b ((false, false) :: fl) ops st') (hp1 : pall (p1.map fun p => !gc || p) := by (repeat' (first | exact trivial | exact Bool.not_or_self _ | exact grd1 _ | exact grd2 _ | exact grd3 _ _ | exact grd4 _ _ | refine And.intro ?_ ?_ | exact rfl | (simp; done) | (simp <;> omega))); done) : Mid P n m R draw all after live k b fl (⟨d, some (s, want), .len x⟩ :: ops) st :=
  Mid.lenMapG hg hx hv hp1 hs h'
theorem p0 {op : AOp} {l : Bool} (h : stepP st d op = some ([], st', l)) (h' : Mid P n m R draw all after live k b ((l, false) :: fl) ops st') : Mid P n m R draw all after live k b fl (⟨d, none, op⟩ :: ops) st :=
  Mid.pure0 h h'
theorem gr {op : AOp} {s : Nat} {want : Bool} {ps : List Bool} {l : Bool} (h : stepG st d s want op = some (ps, st', l)) (h' : Mid P n m R draw all after live k b ((l, false) :: fl) ops st') (hp : pall ps := by (repeat' (first | exact trivial | exact Bool.not_or_self _ | exact grd1 _ | exact grd2 _ | exact grd3 _ _ | exact grd4 _ _ | refine And.intro ?_ ?_ | exact rfl | (simp; done) | (simp <;> omega))); done) : Mid P n m R draw all after live k b fl (⟨d, some (s, want), op⟩ :: ops) st :=
  Mid.grd h hp h'
theorem pu {op : AOp} {ps : List Bool} {l : Bool} (h : stepP st d op = some (ps, st', l)) (h' : Mid P n m R draw all after live k b ((l, false) :: fl) ops st') (hp : pall ps := by (repeat' (first | exact trivial | exact Bool.not_or_self _ | exact grd1 _ | exact grd2 _ | exact grd3 _ _ | exact grd4 _ _ | refine And.intro ?_ ?_ | exact rfl | (simp; done) | (simp <;> omega))); done) : Mid P n m R draw all after live k b fl (⟨d, none, op⟩ :: ops) st :=
  Mid.pure h hp h'
theorem elG {α : Type} {f : α → List T} {l : List α} {e : α} {sz j : Nat} {s : Nat} {want gc : Bool} {x i : Ar} {v : V} {kd : IntKind} {p1 p2 : List Bool} (hg : gcondF want (look st.env s) = some gc) (hx : rd gc st x = (v, p1)) (hv : v.cell1 = some (.lst (l.map f))) (hi : rd gc st i = (.t (.int kd j), p2)) (hc : l[j]? = some e) (hl : (Nat.beq (f e).length sz && !(Nat.beq sz 0)) = true) (hs : stepV st d (.gd gc (.t (.ptr (f e)))) some = some st') (h' : Mid P n m R draw all after live k b ((false, false) :: fl) ops st') (hp1 : pall (p1.map fun p => !gc || p) := by (repeat' (first | exact trivial | exact Bool.not_or_self _ | exact grd1 _ | exact grd2 _ | exact grd3 _ _ | exact grd4 _ _ | refine And.intro ?_ ?_ | exact rfl | (simp; done) | (simp <;> omega))); done) (hp2 : pall (p2.map fun p => !gc || p) := by (repeat' (first | exact trivial | exact Bool.not_or_self _ | exact grd1 _ | exact grd2 _ | exact grd3 _ _ | exact grd4 _ _ | refine And.intro ?_ ?_ | exact rfl | (simp; done) | (simp <;> omega))); done) : Mid P n m R draw all after live k b fl (⟨d, some (s, want), .ia sz x i⟩ :: ops) st :=
  Mid.elemMapG hg hx hv hi hc hl hp1 hp2 hs h'
theorem caG {f : FuncId} {s : Nat} {want gc : Bool} {args : List Ar} {vs : List V} {ps : List Bool} {x : V} (hg : gcondF want (look st.env s) = some gc) (hv : argsG gc st args (fun vs ps => some (vs, ps)) = some (vs, ps)) (h : gc = true → ∃ vs', vs = vs' ∧ FnOk P f vs' ⟨[], 0⟩ { v := x } ∧ V.bds 0 vs' = true) (hx : x.bd 0 = true) (hs : stepV st d (.gd gc x) some = some st') (h' : Mid P n m R draw all after live k b ((false, false) :: fl) ops st') (hp : pall (ps.map fun p => !gc || p) := by (repeat' (first | exact trivial | exact Bool.not_or_self _ | exact grd1 _ | exact grd2 _ | exact grd3 _ _ | exact grd4 _ _ | refine And.intro ?_ ?_ | exact rfl | (simp; done) | (simp <;> omega))); done) : Mid P n m R draw all after live k b fl (⟨d, some (s, want), .call f args⟩ :: ops) st :=
  Mid.callG hg hv hp h hx hs h'
theorem apM {α : Type} (f : α → List T) (l1 : List α) (l2 : List α) {sz by_ j s nn : Nat} {x y : Ar} (hx : x.u st = .own j s (l1.map f)) (hy : (y.u st).cell1 = some (.lst (l2.map f))) (hn : aget st.s.sto j = some (.arr nn)) (hs : Nat.beq s sz = true) (hst : stepS b st d { v := .own j sz ((l1 ++ l2).map f), ob := [(j, .arr (l1 ++ l2).length)], rd := true } (fun b' st' => some (b', st')) = some (b', st')) (h' : Mid P n m R draw all after live k b' ((true, true) :: fl) ops st') (he : nn = l1.length := by first | rfl | simp) (hl : ∀ x, (f x).length = sz := by intros; rfl) (h1 : (l1.length + l2.length) * by_ ≤ 140737488355328 := by simp; omega) (h2 : l1.length + l2.length ≤ 9223372036854775807 := by simp; omega) : Mid P n m R draw all after live k b fl (⟨d, none, .app sz by_ x y⟩ :: ops) st :=
  Mid.appMap f l1 l2 hx hy hn he hs hl h1 h2 hst h'
theorem rWeak {k k' : List It} {c : ACode} {st st' : St} (j : Nat) (hk : advK 200 k = .lp c :: k') (h : Run P n m R (.lp c :: k') st') (h1 : Nat.ble m j = true) (h2 : Nat.ble j st.s.nxt = true) (h3 : Nat.ble j st'.s.nxt = true) (he : LeE j st'.s.nxt st.env st'.env := by repeat' (first | exact trivial | exact LeX.t | exact LeX.top | exact LeX.nilOwn (Nat.le_of_ble_eq_true rfl) (Nat.le_of_ble_eq_true rfl) | exact LeX.ownT | exact LeX.nilT | exact LeX.same rfl | exact LeX.tEq (by simp) | exact LeX.ownEq (by simp) (Nat.le_of_ble_eq_true rfl) | exact LeX.tEq (by congr 1 <;> omega) | exact Or.inr ⟨Nat.le_of_ble_eq_true rfl, Nat.le_of_ble_eq_true rfl, rfl⟩ | refine Or.inl ⟨Nat.le_of_ble_eq_true rfl, _, rfl, ?_⟩ | refine LeO.cells ?_ | exact LeO.arr rfl | exact LeO.arr (by simp) | exact LeO.mE (by first | rfl | simp) (by first | exact Or.inl rfl | exact Or.inr rfl) | exact LeO.cE (by first | rfl | simp) | exact LeXs.cE (by first | rfl | simp) | refine LeO.map (by first | rfl | simp) ?_ (by first | exact Or.inl rfl | exact Or.inr rfl) | exact LeO.iter (by first | rfl | simp) (Nat.le_of_ble_eq_true rfl) | refine LeXs.cons ?_ ?_ | exact LeXs.nil | refine And.intro ?_ ?_)) (hs : LeS j st'.s.nxt st.s.sto st'.s.sto := by repeat' (first | exact trivial | exact LeX.t | exact LeX.top | exact LeX.nilOwn (Nat.le_of_ble_eq_true rfl) (Nat.le_of_ble_eq_true rfl) | exact LeX.ownT | exact LeX.nilT | exact LeX.same rfl | exact LeX.tEq (by simp) | exact LeX.ownEq (by simp) (Nat.le_of_ble_eq_true rfl) | exact LeX.tEq (by congr 1 <;> omega) | exact Or.inr ⟨Nat.le_of_ble_eq_true rfl, Nat.le_of_ble_eq_true rfl, rfl⟩ | refine Or.inl ⟨Nat.le_of_ble_eq_true rfl, _, rfl, ?_⟩ | refine LeO.cells ?_ | exact LeO.arr rfl | exact LeO.arr (by simp) | exact LeO.mE (by first | rfl | simp) (by first | exact Or.inl rfl | exact Or.inr rfl) | exact LeO.cE (by first | rfl | simp) | exact LeXs.cE (by first | rfl | simp) | refine LeO.map (by first | rfl | simp) ?_ (by first | exact Or.inl rfl | exact Or.inr rfl) | exact LeO.iter (by first | rfl | simp) (Nat.le_of_ble_eq_true rfl) | refine LeXs.cons ?_ ?_ | exact LeXs.nil | refine And.intro ?_ ?_)) : Run P n m R k st :=
  Run.weak j hk h h1 h2 h3 he hs
theorem rWeakC {k k' : List It} {c : ACode} {st st' : St} (j : Nat) (hk : advK 200 k = .c c :: k') (h : Run P n m R (.c c :: k') st') (h1 : Nat.ble m j = true) (h2 : Nat.ble j st.s.nxt = true) (h3 : Nat.ble j st'.s.nxt = true) (he : LeE j st'.s.nxt st.env st'.env := by repeat' (first | exact trivial | exact LeX.t | exact LeX.top | exact LeX.nilOwn (Nat.le_of_ble_eq_true rfl) (Nat.le_of_ble_eq_true rfl) | exact LeX.ownT | exact LeX.nilT | exact LeX.same rfl | exact LeX.tEq (by simp) | exact LeX.ownEq (by simp) (Nat.le_of_ble_eq_true rfl) | exact LeX.tEq (by congr 1 <;> omega) | exact Or.inr ⟨Nat.le_of_ble_eq_true rfl, Nat.le_of_ble_eq_true rfl, rfl⟩ | refine Or.inl ⟨Nat.le_of_ble_eq_true rfl, _, rfl, ?_⟩ | refine LeO.cells ?_ | exact LeO.arr rfl | exact LeO.arr (by simp) | exact LeO.mE (by first | rfl | simp) (by first | exact Or.inl rfl | exact Or.inr rfl) | exact LeO.cE (by first | rfl | simp) | exact LeXs.cE (by first | rfl | simp) | refine LeO.map (by first | rfl | simp) ?_ (by first | exact Or.inl rfl | exact Or.inr rfl) | exact LeO.iter (by first | rfl | simp) (Nat.le_of_ble_eq_true rfl) | refine LeXs.cons ?_ ?_ | exact LeXs.nil | refine And.intro ?_ ?_)) (hs : LeS j st'.s.nxt st.s.sto st'.s.sto := by repeat' (first | exact trivial | exact LeX.t | exact LeX.top | exact LeX.nilOwn (Nat.le_of_ble_eq_true rfl) (Nat.le_of_ble_eq_true rfl) | exact LeX.ownT | exact LeX.nilT | exact LeX.same rfl | exact LeX.tEq (by simp) | exact LeX.ownEq (by simp) (Nat.le_of_ble_eq_true rfl) | exact LeX.tEq (by congr 1 <;> omega) | exact Or.inr ⟨Nat.le_of_ble_eq_true rfl, Nat.le_of_ble_eq_true rfl, rfl⟩ | refine Or.inl ⟨Nat.le_of_ble_eq_true rfl, _, rfl, ?_⟩ | refine LeO.cells ?_ | exact LeO.arr rfl | exact LeO.arr (by simp) | exact LeO.mE (by first | rfl | simp) (by first | exact Or.inl rfl | exact Or.inr rfl) | exact LeO.cE (by first | rfl | simp) | exact LeXs.cE (by first | rfl | simp) | refine LeO.map (by first | rfl | simp) ?_ (by first | exact Or.inl rfl | exact Or.inr rfl) | exact LeO.iter (by first | rfl | simp) (Nat.le_of_ble_eq_true rfl) | refine LeXs.cons ?_ ?_ | exact LeXs.nil | refine And.intro ?_ ?_)) : Run P n m R k st :=
  Run.weakC j hk h h1 h2 h3 he hs
theorem rList {α β : Type} {k k' : List It} {c : ACode} {st : St} (l : List α) (stf : Nat → β → St) (Inv : List α → Nat → β → Prop) (j : Nat) (b0 : β) (hk : advK 200 k = .c (.loop c) :: k') (h0 : Inv l 0 b0) (h1 : Nat.ble m j = true) (h2 : Nat.ble j st.s.nxt = true) (h3 : Nat.ble j (stf 0 b0).s.nxt = true) (hend : ∀ b, Inv [] l.length b → Run P n m R (.c c :: .lp c :: k') (stf l.length b)) (hstep : ∀ (i : Nat) (x : α) (r : List α) (b : β), l[i]? = some x → i < l.length → l.drop (i + 1) = r → Inv (x :: r) i b → (∀ b', Inv r (i + 1) b' → Run P n m R (.lp c :: k') (stf (i + 1) b')) → Run P n m R (.c c :: .lp c :: k') (stf i b)) (he : LeE j (stf 0 b0).s.nxt st.env (stf 0 b0).env := by repeat' (first | exact trivial | exact LeX.t | exact LeX.top | exact LeX.nilOwn (Nat.le_of_ble_eq_true rfl) (Nat.le_of_ble_eq_true rfl) | exact LeX.ownT | exact LeX.nilT | exact LeX.same rfl | exact LeX.tEq (by simp) | exact LeX.ownEq (by simp) (Nat.le_of_ble_eq_true rfl) | exact LeX.tEq (by congr 1 <;> omega) | exact Or.inr ⟨Nat.le_of_ble_eq_true rfl, Nat.le_of_ble_eq_true rfl, rfl⟩ | refine Or.inl ⟨Nat.le_of_ble_eq_true rfl, _, rfl, ?_⟩ | refine LeO.cells ?_ | exact LeO.arr rfl | exact LeO.arr (by simp) | exact LeO.mE (by first | rfl | simp) (by first | exact Or.inl rfl | exact Or.inr rfl) | exact LeO.cE (by first | rfl | simp) | exact LeXs.cE (by first | rfl | simp) | refine LeO.map (by first | rfl | simp) ?_ (by first | exact Or.inl rfl | exact Or.inr rfl) | exact LeO.iter (by first | rfl | simp) (Nat.le_of_ble_eq_true rfl) | refine LeXs.cons ?_ ?_ | exact LeXs.nil | refine And.intro ?_ ?_)) (hs : LeS j (stf 0 b0).s.nxt st.s.sto (stf 0 b0).s.sto := by repeat' (first | exact trivial | exact LeX.t | exact LeX.top | exact LeX.nilOwn (Nat.le_of_ble_eq_true rfl) (Nat.le_of_ble_eq_true rfl) | exact LeX.ownT | exact LeX.nilT | exact LeX.same rfl | exact LeX.tEq (by simp) | exact LeX.ownEq (by simp) (Nat.le_of_ble_eq_true rfl) | exact LeX.tEq (by congr 1 <;> omega) | exact Or.inr ⟨Nat.le_of_ble_eq_true rfl, Nat.le_of_ble_eq_true rfl, rfl⟩ | refine Or.inl ⟨Nat.le_of_ble_eq_true rfl, _, rfl, ?_⟩ | refine LeO.cells ?_ | exact LeO.arr rfl | exact LeO.arr (by simp) | exact LeO.mE (by first | rfl | simp) (by first | exact Or.inl rfl | exact Or.inr rfl) | exact LeO.cE (by first | rfl | simp) | exact LeXs.cE (by first | rfl | simp) | refine LeO.map (by first | rfl | simp) ?_ (by first | exact Or.inl rfl | exact Or.inr rfl) | exact LeO.iter (by first | rfl | simp) (Nat.le_of_ble_eq_true rfl) | refine LeXs.cons ?_ ?_ | exact LeXs.nil | refine And.intro ?_ ?_)) : Run P n m R k st :=
  Run.list l stf Inv j b0 hk h0 h1 h2 h3 he hs hend hstep
theorem rLoopM {β : Type} {k k' : List It} {c : ACode} {st : St} (stf : β → St) (Inv : β → Prop) (μ : β → Nat) (j : Nat) (b0 : β) (hk : advK 200 k = .c (.loop c) :: k') (h0 : Inv b0) (h1 : Nat.ble m j = true) (h2 : Nat.ble j st.s.nxt = true) (h3 : Nat.ble j (stf b0).s.nxt = true) (hstep : ∀ (b : β), Inv b → (∀ b', μ b' < μ b → Inv b' → Run P n m R (.lp c :: k') (stf b')) → Run P n m R (.c c :: .lp c :: k') (stf b)) (he : LeE j (stf b0).s.nxt st.env (stf b0).env := by repeat' (first | exact trivial | exact LeX.t | exact LeX.top | exact LeX.nilOwn (Nat.le_of_ble_eq_true rfl) (Nat.le_of_ble_eq_true rfl) | exact LeX.ownT | exact LeX.nilT | exact LeX.same rfl | exact LeX.tEq (by simp) | exact LeX.ownEq (by simp) (Nat.le_of_ble_eq_true rfl) | exact LeX.tEq (by congr 1 <;> omega) | exact Or.inr ⟨Nat.le_of_ble_eq_true rfl, Nat.le_of_ble_eq_true rfl, rfl⟩ | refine Or.inl ⟨Nat.le_of_ble_eq_true rfl, _, rfl, ?_⟩ | refine LeO.cells ?_ | exact LeO.arr rfl | exact LeO.arr (by simp) | exact LeO.mE (by first | rfl | simp) (by first | exact Or.inl rfl | exact Or.inr rfl) | exact LeO.cE (by first | rfl | simp) | exact LeXs.cE (by first | rfl | simp) | refine LeO.map (by first | rfl | simp) ?_ (by first | exact Or.inl rfl | exact Or.inr rfl) | exact LeO.iter (by first | rfl | simp) (Nat.le_of_ble_eq_true rfl) | refine LeXs.cons ?_ ?_ | exact LeXs.nil | refine And.intro ?_ ?_)) (hs : LeS j (stf b0).s.nxt st.s.sto (stf b0).s.sto := by repeat' (first | exact trivial | exact LeX.t | exact LeX.top | exact LeX.nilOwn (Nat.le_of_ble_eq_true rfl) (Nat.le_of_ble_eq_true rfl) | exact LeX.ownT | exact LeX.nilT | exact LeX.same rfl | exact LeX.tEq (by simp) | exact LeX.ownEq (by simp) (Nat.le_of_ble_eq_true rfl) | exact LeX.tEq (by congr 1 <;> omega) | exact Or.inr ⟨Nat.le_of_ble_eq_true rfl, Nat.le_of_ble_eq_true rfl, rfl⟩ | refine Or.inl ⟨Nat.le_of_ble_eq_true rfl, _, rfl, ?_⟩ | refine LeO.cells ?_ | exact LeO.arr rfl | exact LeO.arr (by simp) | exact LeO.mE (by first | rfl | simp) (by first | exact Or.inl rfl | exact Or.inr rfl) | exact LeO.cE (by first | rfl | simp) | exact LeXs.cE (by first | rfl | simp) | refine LeO.map (by first | rfl | simp) ?_ (by first | exact Or.inl rfl | exact Or.inr rfl) | exact LeO.iter (by first | rfl | simp) (Nat.le_of_ble_eq_true rfl) | refine LeXs.cons ?_ ?_ | exact LeXs.nil | refine And.intro ?_ ?_)) : Run P n m R k st :=
  Run.loopM stf Inv μ j b0 hk h0 h1 h2 h3 he hs hstep
end
end Go.GB

