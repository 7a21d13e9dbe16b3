/-
  YtkhekeacdnhkpaaP4: lemmas of this proof (part 4). No conditions.
-/
import Derived.Test.YtkhekeacdnhkpaaP3
import Derived.Test.YtkhekeacdnhkpaaP2

/-
  C13Code: the code of some functions as abstract code (printed by program).
-/
namespace Go.GB.C11
open Go.GB
/- 8 supergraph supergraphlaw13.FragmentReaches -/
/- 9 supergraph supergraphlaw13.FragmentChecks -/
/- 10 supergraph supergraphlaw13.FragmentClean -/
/- 11 supergraph supergraphlaw13.FragmentAdds -/
def c11_0 : ACode :=
  (.seq (.region false [⟨some 123, none, .mv (.s 16)⟩,
    ⟨some 124, none, .mv (.s 17)⟩,
    ⟨some 125, none, .mv (.s 16)⟩,
    ⟨some 126, none, .len (.s 125)⟩,
    ⟨some 127, none, .sll 2 (.s 124) none (some (.s 126))⟩,
    ⟨some 128, none, .call 40 [(.s 123), (.s 127)]⟩,
    ⟨some 129, none, .mv (.s 128)⟩,
    ⟨some 130, some (129, true), .call 33 []⟩,
    ⟨some 131, none, .pick (.s 129) (.s 130) (.c (.t (.bool false)))⟩,
    ⟨some 6, none, .mv (.s 131)⟩] [] [6]) .ret)
def c11_1 : ACode :=
  (.seq (.region false [⟨some 6, none, .cst (.t (.bool false))⟩] [] [6]) .ret)
def c11_2 : ACode :=
  (.cond (.s 122) c11_1 .skip)
def c11_3 : ACode :=
  (.seq (.seq (.region false [⟨some 108, none, .mv (.s 17)⟩,
    ⟨some 109, none, .len (.s 108)⟩,
    ⟨some 110, none, .mv (.s 16)⟩,
    ⟨some 111, none, .len (.s 110)⟩,
    ⟨some 112, none, .bin .add (.s 111) (.c (.t (.int .i64 1)))⟩,
    ⟨some 113, none, .bin .neq (.s 109) (.s 112)⟩,
    ⟨some 114, none, .mv (.s 113)⟩,
    ⟨some 115, some (114, false), .mv (.s 17)⟩,
    ⟨some 116, some (114, false), .mv (.s 16)⟩,
    ⟨some 117, some (114, false), .len (.s 116)⟩,
    ⟨some 118, some (114, false), .ia 2 (.s 115) (.s 117)⟩,
    ⟨some 119, some (114, false), .ld true 2 (.s 118)⟩,
    ⟨some 120, some (114, false), .build [.t (.int .i64 0), .t (.str [])] [(0, 1, (.c (.t (.int .i64 26)))), (1, 1, (.c (.t (.str [122, 122]))))]⟩,
    ⟨some 121, some (114, false), .nw (.eqst true [.int .i64, .str] (.s 119) (.s 120))⟩,
    ⟨some 122, none, .pick (.s 114) (.c (.t (.bool true))) (.s 121)⟩] [] [16, 17, 122]) c11_2) c11_0)
def c11_4 : ACode :=
  (.seq (.region true [⟨some 102, none, .ld true 1 (.s 3)⟩,
    ⟨some 103, none, .ld true 2 (.s 4)⟩,
    ⟨some 104, none, .call 41 [(.s 102), (.s 103)]⟩,
    ⟨some 105, none, .ld true 1 (.s 3)⟩,
    ⟨some 106, none, .ld true 2 (.s 15)⟩,
    ⟨some 107, none, .call 41 [(.s 105), (.s 106)]⟩,
    ⟨some 16, none, .mv (.s 104)⟩,
    ⟨some 17, none, .mv (.s 107)⟩] [[], [], [0, 1], [], [], [3, 4, 2], [2, 5, 0, 1, 2], [5, 6, 0, 1, 2, 3, 4, 5, 6]] [16, 17]) c11_3)
def c11_5 : ACode :=
  (.seq (.region false [⟨some 93, none, .fa 1 (.s 15)⟩,
    ⟨some 94, none, .ld false 1 (.s 93)⟩,
    ⟨some 95, none, .mv (.s 2)⟩,
    ⟨some 96, none, .build [.t (.int .i64 0), .t (.str []), .t (.str []), .t (.str []), .nils, .nils, .nils] [(0, 1, (.c (.t (.int .i64 1)))), (2, 1, (.c (.t (.str [120]))))]⟩,
    ⟨some 97, none, .bsl true 7 [[.int .i64 0, .str [], .str [], .str [], .lst [], .lst [], .lst []]] [(0, (.s 96))]⟩,
    ⟨some 98, none, .build [.t (.str []), .t (.str []), .nils] [(0, 1, (.c (.t (.str [122, 122])))), (1, 1, (.s 95)), (2, 1, (.s 97))]⟩,
    ⟨some 99, none, .bsl false 3 [[.str [], .str [], .lst []]] [(0, (.s 98))]⟩,
    ⟨some 100, none, .app 3 56 (.s 94) (.s 99)⟩,
    ⟨some 101, none, .fa 1 (.s 15)⟩,
    ⟨none, none, .st 1 (.s 101) (.s 100)⟩] [] [3, 4, 15]) c11_4)
def c11_6 : ACode :=
  (.seq (.region false [⟨some 87, none, .fa 1 (.s 15)⟩,
    ⟨some 88, none, .ld false 1 (.s 87)⟩,
    ⟨some 89, none, .fa 1 (.s 4)⟩,
    ⟨some 90, none, .ld false 1 (.s 89)⟩,
    ⟨some 91, none, .app 3 56 (.s 88) (.s 90)⟩,
    ⟨some 92, none, .fa 1 (.s 15)⟩,
    ⟨none, none, .st 1 (.s 92) (.s 91)⟩] [] [2, 3, 4, 15]) c11_5)
def c11_7 : ACode :=
  (.seq (.region false [⟨some 84, none, .fa 0 (.s 4)⟩,
    ⟨some 85, none, .ld false 1 (.s 84)⟩,
    ⟨some 86, none, .build [.nils, .nils] [(0, 1, (.s 85))]⟩,
    ⟨some 15, none, .alloc [.nils, .nils]⟩,
    ⟨none, none, .st 2 (.s 15) (.s 86)⟩] [] [2, 3, 4, 15]) c11_6)
def c11_8 : ACode :=
  (.region false [⟨some 68, none, .mv (.s 12)⟩,
    ⟨some 69, none, .bin .add (.s 68) (.c (.t (.int .i64 1)))⟩,
    ⟨some 12, none, .mv (.s 69)⟩] [] [2, 3, 4, 12])
def c11_9 : ACode :=
  (.seq (.region false [⟨some 83, none, .call 33 []⟩,
    ⟨some 6, none, .mv (.s 83)⟩] [] [6]) .ret)
def c11_10 : ACode :=
  (.cond (.s 82) c11_9 .skip)
def c11_11 : ACode :=
  (.seq (.region false [⟨some 81, none, .mv (.s 14)⟩,
    ⟨some 82, none, .un .not (.s 81)⟩] [] [2, 3, 4, 12, 82]) c11_10)
def c11_12 : ACode :=
  (.seq (.region true [⟨some 71, none, .ld true 2 (.s 4)⟩,
    ⟨some 72, none, .fa 1 (.s 4)⟩,
    ⟨some 73, none, .ld false 1 (.s 72)⟩,
    ⟨some 74, none, .mv (.s 12)⟩,
    ⟨some 75, none, .ia 3 (.s 73) (.s 74)⟩,
    ⟨some 76, none, .fa 2 (.s 75)⟩,
    ⟨some 77, none, .ld false 1 (.s 76)⟩,
    ⟨some 78, none, .call 35 [(.s 71), (.s 77)]⟩,
    ⟨some 70, none, .mv (.s 78)⟩,
    ⟨some 79, none, .ext (.s 70) 0⟩,
    ⟨some 80, none, .ext (.s 70) 1⟩,
    ⟨some 13, none, .mv (.s 79)⟩,
    ⟨some 14, none, .mv (.s 80)⟩] [[], [], [1], [], [2, 3], [4], [5], [0, 6], [7], [8], [8], [9, 7, 0, 1, 2, 3, 4, 5, 6, 7, 8, 9], [10, 11, 0, 1, 2, 3, 4, 5, 6, 7, 8, 9, 10, 11]] [2, 3, 4, 12, 14]) c11_11)
def c11_13 : ACode :=
  (.seq (.block 3 c11_12) c11_8)
def c11_14 : ACode :=
  (.cond (.s 67) .skip (.exit 2))
def c11_15 : ACode :=
  (.seq (.seq (.region false [⟨some 63, none, .mv (.s 12)⟩,
    ⟨some 64, none, .fa 1 (.s 4)⟩,
    ⟨some 65, none, .ld false 1 (.s 64)⟩,
    ⟨some 66, none, .len (.s 65)⟩,
    ⟨some 67, none, .bin .lss (.s 63) (.s 66)⟩] [] [2, 3, 4, 12, 67]) c11_14) c11_13)
def c11_16 : ACode :=
  (.loop c11_15)
def c11_17 : ACode :=
  (.block 2 c11_16)
def c11_18 : ACode :=
  (.seq (.seq (.region false [⟨some 12, none, .cst (.t (.int .i64 0))⟩] [] [2, 3, 4, 12]) c11_17) c11_7)
def c11_19 : ACode :=
  (.region false [⟨some 47, none, .mv (.s 9)⟩,
    ⟨some 48, none, .bin .add (.s 47) (.c (.t (.int .i64 1)))⟩,
    ⟨some 9, none, .mv (.s 48)⟩] [] [2, 3, 4, 9])
def c11_20 : ACode :=
  (.seq (.region false [⟨some 62, none, .call 33 []⟩,
    ⟨some 6, none, .mv (.s 62)⟩] [] [6]) .ret)
def c11_21 : ACode :=
  (.cond (.s 61) c11_20 .skip)
def c11_22 : ACode :=
  (.seq (.region false [⟨some 60, none, .mv (.s 11)⟩,
    ⟨some 61, none, .un .not (.s 60)⟩] [] [2, 3, 4, 9, 61]) c11_21)
def c11_23 : ACode :=
  (.seq (.region true [⟨some 50, none, .ld true 2 (.s 4)⟩,
    ⟨some 51, none, .fa 0 (.s 4)⟩,
    ⟨some 52, none, .ld false 1 (.s 51)⟩,
    ⟨some 53, none, .mv (.s 9)⟩,
    ⟨some 54, none, .ia 4 (.s 52) (.s 53)⟩,
    ⟨some 55, none, .fa 3 (.s 54)⟩,
    ⟨some 56, none, .ld false 1 (.s 55)⟩,
    ⟨some 57, none, .call 35 [(.s 50), (.s 56)]⟩,
    ⟨some 49, none, .mv (.s 57)⟩,
    ⟨some 58, none, .ext (.s 49) 0⟩,
    ⟨some 59, none, .ext (.s 49) 1⟩,
    ⟨some 10, none, .mv (.s 58)⟩,
    ⟨some 11, none, .mv (.s 59)⟩] [[], [], [1], [], [2, 3], [4], [5], [0, 6], [7], [8], [8], [9, 7, 0, 1, 2, 3, 4, 5, 6, 7, 8, 9], [10, 11, 0, 1, 2, 3, 4, 5, 6, 7, 8, 9, 10, 11]] [2, 3, 4, 9, 11]) c11_22)
def c11_24 : ACode :=
  (.seq (.block 1 c11_23) c11_19)
def c11_25 : ACode :=
  (.cond (.s 46) .skip (.exit 0))
def c11_26 : ACode :=
  (.seq (.seq (.region false [⟨some 42, none, .mv (.s 9)⟩,
    ⟨some 43, none, .fa 0 (.s 4)⟩,
    ⟨some 44, none, .ld false 1 (.s 43)⟩,
    ⟨some 45, none, .len (.s 44)⟩,
    ⟨some 46, none, .bin .lss (.s 42) (.s 45)⟩] [] [2, 3, 4, 9, 46]) c11_25) c11_24)
def c11_27 : ACode :=
  (.loop c11_26)
def c11_28 : ACode :=
  (.block 0 c11_27)
def c11_29 : ACode :=
  (.seq (.seq (.region false [⟨some 9, none, .cst (.t (.int .i64 0))⟩] [] [2, 3, 4, 9]) c11_28) c11_18)
def c11_30 : ACode :=
  (.seq (.region false [⟨some 41, none, .call 33 []⟩,
    ⟨some 6, none, .mv (.s 41)⟩] [] [6]) .ret)
def c11_31 : ACode :=
  (.cond (.s 40) c11_30 .skip)
def c11_32 : ACode :=
  (.seq (.seq (.region false [⟨some 40, none, .mv (.s 8)⟩] [] [2, 3, 4, 40]) c11_31) c11_29)
def c11_33 : ACode :=
  (.seq (.region false [⟨some 36, none, .ld true 2 (.s 4)⟩,
    ⟨some 37, none, .call 38 [(.s 36), (.c (.t (.str [122, 122])))]⟩,
    ⟨some 35, none, .mv (.s 37)⟩,
    ⟨some 38, none, .ext (.s 35) 0⟩,
    ⟨some 39, none, .ext (.s 35) 1⟩,
    ⟨some 7, none, .alloc [.t (.str []), .t (.str []), .nils]⟩,
    ⟨none, none, .st 3 (.s 7) (.s 38)⟩,
    ⟨some 8, none, .mv (.s 39)⟩] [] [2, 3, 4, 8]) c11_32)
def c11_34 : ACode :=
  (.seq (.region false [⟨some 34, none, .call 33 []⟩,
    ⟨some 6, none, .mv (.s 34)⟩] [] [6]) .ret)
def c11_35 : ACode :=
  (.cond (.s 33) c11_34 .skip)
def c11_36 : ACode :=
  (.seq (.seq (.region false [⟨some 18, none, .ld true 1 (.s 3)⟩,
    ⟨some 19, none, .ld true 2 (.s 4)⟩,
    ⟨some 20, none, .call 39 [(.s 18), (.s 19)]⟩,
    ⟨some 21, none, .un .not (.s 20)⟩,
    ⟨some 22, none, .mv (.s 21)⟩,
    ⟨some 23, some (22, false), .ld true 1 (.s 3)⟩,
    ⟨some 24, some (22, false), .mv (.s 2)⟩,
    ⟨some 25, some (22, false), .call 43 [(.s 23), (.s 24)]⟩,
    ⟨some 26, some (22, false), .un .not (.s 25)⟩,
    ⟨some 27, none, .pick (.s 22) (.c (.t (.bool true))) (.s 26)⟩,
    ⟨some 28, none, .mv (.s 27)⟩,
    ⟨some 29, some (28, false), .fa 1 (.s 4)⟩,
    ⟨some 30, some (28, false), .ld false 1 (.s 29)⟩,
    ⟨some 31, some (28, false), .len (.s 30)⟩,
    ⟨some 32, some (28, false), .bin .gtr (.s 31) (.c (.t (.int .i64 10)))⟩,
    ⟨some 33, none, .pick (.s 28) (.c (.t (.bool true))) (.s 32)⟩] [] [2, 3, 4, 33]) c11_35) c11_33)
def c11 : ACode :=
  (.seq (.region false [⟨some 3, none, .box 1 (.s 0)⟩,
    ⟨some 4, none, .box 2 (.s 1)⟩,
    ⟨some 6, none, .cst (.t (.bool false))⟩] [] [2, 3, 4]) c11_36)
def r11 : List ARes := [.tmp 6]
def n11 : Nat := 132
/- 32 supergraph supergraphref13.Large -/
def c32_0 : ACode :=
  (.seq (.region false [⟨some 72, none, .mv (.s 3)⟩,
    ⟨some 73, none, .bin .gtr (.s 72) (.c (.t (.int .i64 300)))⟩,
    ⟨some 2, none, .mv (.s 73)⟩] [] [2]) .ret)
def c32_1 : ACode :=
  (.region false [⟨some 54, none, .mv (.s 5)⟩,
    ⟨some 55, none, .bin .add (.s 54) (.c (.t (.int .i64 1)))⟩,
    ⟨some 5, none, .mv (.s 55)⟩] [] [1, 3, 5])
def c32_2 : ACode :=
  (.region false [⟨some 63, none, .mv (.s 3)⟩,
    ⟨some 64, none, .fa 1 (.s 1)⟩,
    ⟨some 65, none, .ld false 1 (.s 64)⟩,
    ⟨some 66, none, .mv (.s 5)⟩,
    ⟨some 67, none, .ia 3 (.s 65) (.s 66)⟩,
    ⟨some 68, none, .fa 2 (.s 67)⟩,
    ⟨some 69, none, .ld false 1 (.s 68)⟩,
    ⟨some 70, none, .call 70 [(.s 69), (.c (.t (.int .i64 300)))]⟩,
    ⟨some 71, none, .bin .add (.s 63) (.s 70)⟩,
    ⟨some 3, none, .mv (.s 71)⟩] [] [1, 3, 5])
def c32_3 : ACode :=
  (.seq (.region false [⟨some 2, none, .cst (.t (.bool true))⟩] [] [2]) .ret)
def c32_4 : ACode :=
  (.cond (.s 62) c32_3 .skip)
def c32_5 : ACode :=
  (.seq (.seq (.region false [⟨some 56, none, .fa 1 (.s 1)⟩,
    ⟨some 57, none, .ld false 1 (.s 56)⟩,
    ⟨some 58, none, .mv (.s 5)⟩,
    ⟨some 59, none, .ia 3 (.s 57) (.s 58)⟩,
    ⟨some 60, none, .fa 2 (.s 59)⟩,
    ⟨some 61, none, .ld false 1 (.s 60)⟩,
    ⟨some 62, none, .call 69 [(.s 61), (.c (.t (.int .i64 26)))]⟩] [] [1, 3, 5, 62]) c32_4) c32_2)
def c32_6 : ACode :=
  (.seq (.block 3 c32_5) c32_1)
def c32_7 : ACode :=
  (.cond (.s 53) .skip (.exit 2))
def c32_8 : ACode :=
  (.seq (.seq (.region false [⟨some 49, none, .mv (.s 5)⟩,
    ⟨some 50, none, .fa 1 (.s 1)⟩,
    ⟨some 51, none, .ld false 1 (.s 50)⟩,
    ⟨some 52, none, .len (.s 51)⟩,
    ⟨some 53, none, .bin .lss (.s 49) (.s 52)⟩] [] [1, 3, 5, 53]) c32_7) c32_6)
def c32_9 : ACode :=
  (.loop c32_8)
def c32_10 : ACode :=
  (.block 2 c32_9)
def c32_11 : ACode :=
  (.seq (.seq (.region false [⟨some 5, none, .cst (.t (.int .i64 0))⟩] [] [1, 3, 5]) c32_10) c32_0)
def c32_12 : ACode :=
  (.region false [⟨some 21, none, .mv (.s 4)⟩,
    ⟨some 22, none, .bin .add (.s 21) (.c (.t (.int .i64 1)))⟩,
    ⟨some 4, none, .mv (.s 22)⟩] [] [1, 3, 4])
def c32_13 : ACode :=
  (.region false [⟨some 40, none, .mv (.s 3)⟩,
    ⟨some 41, none, .fa 0 (.s 1)⟩,
    ⟨some 42, none, .ld false 1 (.s 41)⟩,
    ⟨some 43, none, .mv (.s 4)⟩,
    ⟨some 44, none, .ia 4 (.s 42) (.s 43)⟩,
    ⟨some 45, none, .fa 3 (.s 44)⟩,
    ⟨some 46, none, .ld false 1 (.s 45)⟩,
    ⟨some 47, none, .call 70 [(.s 46), (.c (.t (.int .i64 300)))]⟩,
    ⟨some 48, none, .bin .add (.s 40) (.s 47)⟩,
    ⟨some 3, none, .mv (.s 48)⟩] [] [1, 3, 4])
def c32_14 : ACode :=
  (.seq (.region false [⟨some 2, none, .cst (.t (.bool true))⟩] [] [2]) .ret)
def c32_15 : ACode :=
  (.cond (.s 39) c32_14 .skip)
def c32_16 : ACode :=
  (.seq (.seq (.region false [⟨some 23, none, .fa 0 (.s 1)⟩,
    ⟨some 24, none, .ld false 1 (.s 23)⟩,
    ⟨some 25, none, .mv (.s 4)⟩,
    ⟨some 26, none, .ia 4 (.s 24) (.s 25)⟩,
    ⟨some 27, none, .fa 3 (.s 26)⟩,
    ⟨some 28, none, .ld false 1 (.s 27)⟩,
    ⟨some 29, none, .call 69 [(.s 28), (.c (.t (.int .i64 26)))]⟩,
    ⟨some 30, none, .mv (.s 29)⟩,
    ⟨some 31, some (30, false), .fa 0 (.s 1)⟩,
    ⟨some 32, some (30, false), .ld false 1 (.s 31)⟩,
    ⟨some 33, some (30, false), .mv (.s 4)⟩,
    ⟨some 34, some (30, false), .ia 4 (.s 32) (.s 33)⟩,
    ⟨some 35, some (30, false), .fa 2 (.s 34)⟩,
    ⟨some 36, some (30, false), .ld false 1 (.s 35)⟩,
    ⟨some 37, some (30, false), .len (.s 36)⟩,
    ⟨some 38, some (30, false), .bin .gtr (.s 37) (.c (.t (.int .i64 30)))⟩,
    ⟨some 39, none, .pick (.s 30) (.c (.t (.bool true))) (.s 38)⟩] [] [1, 3, 4, 39]) c32_15) c32_13)
def c32_17 : ACode :=
  (.seq (.block 1 c32_16) c32_12)
def c32_18 : ACode :=
  (.cond (.s 20) .skip (.exit 0))
def c32_19 : ACode :=
  (.seq (.seq (.region false [⟨some 16, none, .mv (.s 4)⟩,
    ⟨some 17, none, .fa 0 (.s 1)⟩,
    ⟨some 18, none, .ld false 1 (.s 17)⟩,
    ⟨some 19, none, .len (.s 18)⟩,
    ⟨some 20, none, .bin .lss (.s 16) (.s 19)⟩] [] [1, 3, 4, 20]) c32_18) c32_17)
def c32_20 : ACode :=
  (.loop c32_19)
def c32_21 : ACode :=
  (.block 0 c32_20)
def c32_22 : ACode :=
  (.seq (.seq (.region false [⟨some 4, none, .cst (.t (.int .i64 0))⟩] [] [1, 3, 4]) c32_21) c32_11)
def c32_23 : ACode :=
  (.seq (.region false [⟨some 3, none, .cst (.t (.int .i64 0))⟩] [] [1, 3]) c32_22)
def c32_24 : ACode :=
  (.seq (.region false [⟨some 2, none, .cst (.t (.bool true))⟩] [] [2]) .ret)
def c32_25 : ACode :=
  (.cond (.s 15) c32_24 .skip)
def c32_26 : ACode :=
  (.seq (.seq (.region false [⟨some 6, none, .fa 0 (.s 1)⟩,
    ⟨some 7, none, .ld false 1 (.s 6)⟩,
    ⟨some 8, none, .len (.s 7)⟩,
    ⟨some 9, none, .bin .gtr (.s 8) (.c (.t (.int .i64 8)))⟩,
    ⟨some 10, none, .mv (.s 9)⟩,
    ⟨some 11, some (10, false), .fa 1 (.s 1)⟩,
    ⟨some 12, some (10, false), .ld false 1 (.s 11)⟩,
    ⟨some 13, some (10, false), .len (.s 12)⟩,
    ⟨some 14, some (10, false), .bin .gtr (.s 13) (.c (.t (.int .i64 12)))⟩,
    ⟨some 15, none, .pick (.s 10) (.c (.t (.bool true))) (.s 14)⟩] [] [1, 15]) c32_25) c32_23)
def c32 : ACode :=
  (.seq (.region false [⟨some 1, none, .box 2 (.s 0)⟩,
    ⟨some 2, none, .cst (.t (.bool false))⟩] [] [1]) c32_26)
def r32 : List ARes := [.tmp 2]
def n32 : Nat := 74
/- 33 supergraph supergraphlaw13.exampleHolds -/
def c33_0 : ACode :=
  (.seq (.region false [⟨some 40, none, .mv (.s 4)⟩,
    ⟨some 41, none, .len (.s 40)⟩,
    ⟨some 42, none, .bin .eql (.s 41) (.c (.t (.int .i64 1)))⟩,
    ⟨some 43, none, .mv (.s 42)⟩,
    ⟨some 44, some (43, true), .mv (.s 4)⟩,
    ⟨some 45, some (43, true), .ia 1 (.s 44) (.c (.t (.int .i64 0)))⟩,
    ⟨some 46, some (43, true), .ld false 1 (.s 45)⟩,
    ⟨some 47, some (43, true), .bin .eql (.s 46) (.c (.t (.str [102])))⟩,
    ⟨some 48, none, .pick (.s 43) (.s 47) (.c (.t (.bool false)))⟩,
    ⟨some 49, none, .mv (.s 48)⟩,
    ⟨some 50, some (49, true), .mv (.s 5)⟩,
    ⟨some 51, some (49, true), .un .not (.s 50)⟩,
    ⟨some 52, none, .pick (.s 49) (.s 51) (.c (.t (.bool false)))⟩,
    ⟨some 53, none, .mv (.s 52)⟩,
    ⟨some 54, some (53, true), .mv (.s 7)⟩,
    ⟨some 55, none, .pick (.s 53) (.s 54) (.c (.t (.bool false)))⟩,
    ⟨some 56, none, .mv (.s 55)⟩,
    ⟨some 57, some (56, true), .fa 1 (.s 6)⟩,
    ⟨some 58, some (56, true), .ld false 1 (.s 57)⟩,
    ⟨some 59, some (56, true), .bin .eql (.s 58) (.c (.t (.str [81, 117, 101, 114, 121])))⟩,
    ⟨some 60, none, .pick (.s 56) (.s 59) (.c (.t (.bool false)))⟩,
    ⟨some 61, none, .mv (.s 60)⟩,
    ⟨some 62, some (61, true), .ld true 1 (.s 3)⟩,
    ⟨some 63, some (61, true), .ld true 2 (.s 2)⟩,
    ⟨some 64, some (61, true), .call 41 [(.s 62), (.s 63)]⟩,
    ⟨some 65, some (61, true), .build [.t (.int .i64 0), .t (.str [])] [(0, 1, (.c (.t (.int .i64 24)))), (1, 1, (.c (.t (.str []))))]⟩,
    ⟨some 66, some (61, true), .bsl true 2 [[.int .i64 0, .str []]] [(0, (.s 65))]⟩,
    ⟨some 67, some (61, true), .call 40 [(.s 64), (.s 66)]⟩,
    ⟨some 68, none, .pick (.s 61) (.s 67) (.c (.t (.bool false)))⟩,
    ⟨some 0, none, .mv (.s 68)⟩] [] [0]) .ret)
def c33_1 : ACode :=
  (.seq (.region false [⟨some 36, none, .ld true 2 (.s 2)⟩,
    ⟨some 37, none, .call 37 [(.s 36), (.c (.t (.str [102])))]⟩,
    ⟨some 35, none, .mv (.s 37)⟩,
    ⟨some 38, none, .ext (.s 35) 0⟩,
    ⟨some 39, none, .ext (.s 35) 1⟩,
    ⟨some 6, none, .alloc [.t (.str []), .t (.str []), .nils]⟩,
    ⟨none, none, .st 3 (.s 6) (.s 38)⟩,
    ⟨some 7, none, .mv (.s 39)⟩] [] [2, 3, 4, 5, 6, 7]) c33_0)
def c33_2 : ACode :=
  (.seq (.region true [⟨some 26, none, .ld true 2 (.s 2)⟩,
    ⟨some 27, none, .fa 0 (.s 2)⟩,
    ⟨some 28, none, .ld false 1 (.s 27)⟩,
    ⟨some 29, none, .ia 4 (.s 28) (.c (.t (.int .i64 0)))⟩,
    ⟨some 30, none, .fa 3 (.s 29)⟩,
    ⟨some 31, none, .ld false 1 (.s 30)⟩,
    ⟨some 32, none, .call 34 [(.s 26), (.s 31)]⟩,
    ⟨some 25, none, .mv (.s 32)⟩,
    ⟨some 33, none, .ext (.s 25) 0⟩,
    ⟨some 34, none, .ext (.s 25) 1⟩,
    ⟨some 4, none, .mv (.s 33)⟩,
    ⟨some 5, none, .mv (.s 34)⟩] [[], [], [1], [2], [3], [4], [0, 5], [6], [7], [7], [8, 6, 0, 1, 2, 3, 4, 5, 6, 7, 8], [9, 10, 0, 1, 2, 3, 4, 5, 6, 7, 8, 9, 10]] [2, 3, 4, 5]) c33_1)
def c33_3 : ACode :=
  (.seq (.region false [⟨some 19, none, .build [.t (.str []), .nils] [(0, 1, (.c (.t (.str [73, 110, 116]))))]⟩,
    ⟨some 20, none, .build [.t (.str []), .nils, .t (.str []), .nils, .nils] [(0, 1, (.c (.t (.str [97])))), (2, 2, (.s 19))]⟩,
    ⟨some 21, none, .bsl true 5 [[.str [], .lst [], .str [], .lst [], .lst []]] [(0, (.s 20))]⟩,
    ⟨some 22, none, .build [.t (.int .i64 0), .t (.str []), .nils, .nils, .nils, .nils, .nils] [(0, 1, (.c (.t (.int .i64 1)))), (1, 1, (.c (.t (.str [81, 117, 101, 114, 121])))), (4, 1, (.s 21))]⟩,
    ⟨some 23, none, .bsl true 7 [[.int .i64 0, .str [], .lst [], .lst [], .lst [], .lst [], .lst []]] [(0, (.s 22))]⟩,
    ⟨some 24, none, .build [.nils] [(0, 1, (.s 23))]⟩,
    ⟨some 3, none, .alloc [.nils]⟩,
    ⟨none, none, .st 1 (.s 3) (.s 24)⟩] [] [2, 3]) c33_2)
def c33_4 : ACode :=
  (.seq (.region false [⟨some 11, none, .build [.t (.int .i64 0), .t (.str []), .t (.str []), .t (.str []), .nils, .nils, .nils] [(0, 1, (.c (.t (.int .i64 2)))), (2, 1, (.c (.t (.str [102]))))]⟩,
    ⟨some 12, none, .build [.t (.int .i64 0), .t (.str []), .t (.str []), .t (.str []), .nils, .nils, .nils] [(0, 1, (.c (.t (.int .i64 2)))), (2, 1, (.c (.t (.str [103]))))]⟩,
    ⟨some 13, none, .bsl true 7 [[.int .i64 0, .str [], .str [], .str [], .lst [], .lst [], .lst []], [.int .i64 0, .str [], .str [], .str [], .lst [], .lst [], .lst []]] [(0, (.s 11)), (1, (.s 12))]⟩,
    ⟨some 14, none, .build [.t (.int .i64 0), .t (.str []), .nils, .nils] [(0, 1, (.c (.t (.int .i64 1)))), (3, 1, (.s 13))]⟩,
    ⟨some 15, none, .bsl true 4 [[.int .i64 0, .str [], .lst [], .lst []]] [(0, (.s 14))]⟩,
    ⟨some 16, none, .ld true 3 (.s 1)⟩,
    ⟨some 17, none, .bsl true 3 [[.str [], .str [], .lst []]] [(0, (.s 16))]⟩,
    ⟨some 18, none, .build [.nils, .nils] [(0, 1, (.s 15)), (1, 1, (.s 17))]⟩,
    ⟨some 2, none, .alloc [.nils, .nils]⟩,
    ⟨none, none, .st 2 (.s 2) (.s 18)⟩] [] [2]) c33_3)
def c33_5 : ACode :=
  (.seq (.region false [⟨some 8, none, .build [.t (.int .i64 0), .t (.str []), .t (.str []), .t (.str []), .nils, .nils, .nils] [(0, 1, (.c (.t (.int .i64 1)))), (2, 1, (.c (.t (.str [97]))))]⟩,
    ⟨some 9, none, .bsl true 7 [[.int .i64 0, .str [], .str [], .str [], .lst [], .lst [], .lst []]] [(0, (.s 8))]⟩,
    ⟨some 10, none, .build [.t (.str []), .t (.str []), .nils] [(0, 1, (.c (.t (.str [102])))), (1, 1, (.c (.t (.str [81, 117, 101, 114, 121])))), (2, 1, (.s 9))]⟩,
    ⟨some 1, none, .alloc [.t (.str []), .t (.str []), .nils]⟩,
    ⟨none, none, .st 3 (.s 1) (.s 10)⟩] [] [1]) c33_4)
def c33 : ACode :=
  (.seq (.region false [⟨some 0, none, .cst (.t (.bool false))⟩] [] []) c33_5)
def r33 : List ARes := [.tmp 0]
def n33 : Nat := 69
/- 34 supergraph fragment.Reach -/
def c34_0 : ACode :=
  (.seq (.region false [⟨some 38, none, .mv (.s 6)⟩,
    ⟨some 39, none, .mv (.s 7)⟩,
    ⟨some 4, none, .mv (.s 38)⟩,
    ⟨some 5, none, .mv (.s 39)⟩] [] [4, 5]) .ret)
def c34_1 : ACode :=
  (.region false [⟨some 37, none, .bin .add (.s 20) (.c (.t (.int .i64 1)))⟩,
    ⟨some 20, none, .mv (.s 37)⟩] [] [2, 6, 7, 18, 19, 20])
def c34_2 : ACode :=
  (.region false [⟨some 30, none, .mv (.s 7)⟩,
    ⟨some 31, none, .mv (.s 30)⟩,
    ⟨some 32, some (31, true), .ld true 2 (.s 2)⟩,
    ⟨some 33, some (31, true), .ld true 3 (.s 10)⟩,
    ⟨some 34, some (31, true), .call 72 [(.s 32), (.s 33)]⟩,
    ⟨some 35, some (31, true), .un .not (.s 34)⟩,
    ⟨some 36, none, .pick (.s 31) (.s 35) (.c (.t (.bool false)))⟩,
    ⟨some 7, none, .mv (.s 36)⟩] [] [2, 6, 7, 18, 19, 20])
def c34_3 : ACode :=
  (.seq (.region false [⟨some 25, none, .ld true 2 (.s 2)⟩,
    ⟨some 26, none, .mv (.s 9)⟩,
    ⟨some 27, none, .call 37 [(.s 25), (.s 26)]⟩,
    ⟨some 24, none, .mv (.s 27)⟩,
    ⟨some 28, none, .ext (.s 24) 0⟩,
    ⟨some 29, none, .ext (.s 24) 1⟩,
    ⟨some 10, none, .alloc [.t (.str []), .t (.str []), .nils]⟩,
    ⟨none, none, .st 3 (.s 10) (.s 28)⟩,
    ⟨some 11, none, .mv (.s 29)⟩] [] [2, 6, 7, 10, 18, 19, 20]) c34_2)
def c34_4 : ACode :=
  (.seq (.region false [⟨some 22, none, .ia 1 (.s 18) (.s 20)⟩,
    ⟨some 23, none, .ld false 1 (.s 22)⟩,
    ⟨some 9, none, .mv (.s 23)⟩] [] [2, 6, 7, 9, 18, 19, 20]) c34_3)
def c34_5 : ACode :=
  (.seq (.block 1 c34_4) c34_1)
def c34_6 : ACode :=
  (.seq (.cond (.s 21) .skip (.exit 0)) c34_5)
def c34_7 : ACode :=
  (.seq (.region false [⟨some 21, none, .bin .lss (.s 20) (.s 19)⟩] [] [2, 6, 7, 18, 19, 20, 21]) c34_6)
def c34_8 : ACode :=
  (.loop c34_7)
def c34_9 : ACode :=
  (.block 0 c34_8)
def c34_10 : ACode :=
  (.seq (.seq (.region false [⟨some 18, none, .mv (.s 6)⟩,
    ⟨some 19, none, .len (.s 18)⟩,
    ⟨some 20, none, .cst (.t (.int .i64 0))⟩] [] [2, 6, 7, 18, 19, 20]) c34_9) c34_0)
def c34_11 : ACode :=
  (.seq (.region false [⟨some 13, none, .ld true 2 (.s 2)⟩,
    ⟨some 14, none, .mv (.s 1)⟩,
    ⟨some 15, none, .call 71 [(.s 13), (.s 14), (.c (.nils))]⟩,
    ⟨some 12, none, .mv (.s 15)⟩,
    ⟨some 16, none, .ext (.s 12) 0⟩,
    ⟨some 17, none, .ext (.s 12) 1⟩,
    ⟨some 6, none, .mv (.s 16)⟩,
    ⟨some 7, none, .mv (.s 17)⟩] [] [2, 6, 7]) c34_10)
def c34 : ACode :=
  (.seq (.region false [⟨some 2, none, .box 2 (.s 0)⟩,
    ⟨some 4, none, .cst (.nils)⟩,
    ⟨some 5, none, .cst (.t (.bool false))⟩] [] [1, 2]) c34_11)
def r34 : List ARes := [.tmp 4, .tmp 5]
def n34 : Nat := 40
/- 35 supergraph supergraphref13.Reach -/
def c35_0 : ACode :=
  (.seq (.region false [⟨some 35, none, .mv (.s 6)⟩,
    ⟨some 36, none, .mv (.s 7)⟩,
    ⟨some 4, none, .mv (.s 35)⟩,
    ⟨some 5, none, .mv (.s 36)⟩] [] [4, 5]) .ret)
def c35_1 : ACode :=
  (.region false [⟨some 21, none, .mv (.s 8)⟩,
    ⟨some 22, none, .bin .add (.s 21) (.c (.t (.int .i64 1)))⟩,
    ⟨some 8, none, .mv (.s 22)⟩] [] [2, 6, 7, 8])
def c35_2 : ACode :=
  (.region false [⟨some 7, none, .cst (.t (.bool false))⟩] [] [2, 6, 7, 8])
def c35_3 : ACode :=
  (.cond (.s 34) c35_2 .skip)
def c35_4 : ACode :=
  (.seq (.region false [⟨some 32, none, .ld true 2 (.s 2)⟩,
    ⟨some 33, none, .ld true 3 (.s 9)⟩,
    ⟨some 34, none, .call 74 [(.s 32), (.s 33)]⟩] [] [2, 6, 7, 8, 34]) c35_3)
def c35_5 : ACode :=
  (.seq (.region true [⟨some 24, none, .ld true 2 (.s 2)⟩,
    ⟨some 25, none, .mv (.s 6)⟩,
    ⟨some 26, none, .mv (.s 8)⟩,
    ⟨some 27, none, .ia 1 (.s 25) (.s 26)⟩,
    ⟨some 28, none, .ld false 1 (.s 27)⟩,
    ⟨some 29, none, .call 38 [(.s 24), (.s 28)]⟩,
    ⟨some 23, none, .mv (.s 29)⟩,
    ⟨some 30, none, .ext (.s 23) 0⟩,
    ⟨some 31, none, .ext (.s 23) 1⟩,
    ⟨some 9, none, .alloc [.t (.str []), .t (.str []), .nils]⟩,
    ⟨none, none, .st 3 (.s 9) (.s 30)⟩,
    ⟨some 10, none, .mv (.s 31)⟩] [[], [], [], [1, 2], [3], [0, 4], [5], [6], [6], [], [9, 7, 5, 0, 1, 2, 3, 4, 5, 6, 7, 9], [8, 10, 0, 1, 2, 3, 4, 5, 6, 7, 8, 9, 10]] [2, 6, 7, 8, 9]) c35_4)
def c35_6 : ACode :=
  (.seq (.block 1 c35_5) c35_1)
def c35_7 : ACode :=
  (.cond (.s 20) .skip (.exit 0))
def c35_8 : ACode :=
  (.seq (.seq (.region false [⟨some 17, none, .mv (.s 8)⟩,
    ⟨some 18, none, .mv (.s 6)⟩,
    ⟨some 19, none, .len (.s 18)⟩,
    ⟨some 20, none, .bin .lss (.s 17) (.s 19)⟩] [] [2, 6, 7, 8, 20]) c35_7) c35_6)
def c35_9 : ACode :=
  (.loop c35_8)
def c35_10 : ACode :=
  (.block 0 c35_9)
def c35_11 : ACode :=
  (.seq (.seq (.region false [⟨some 8, none, .cst (.t (.int .i64 0))⟩] [] [2, 6, 7, 8]) c35_10) c35_0)
def c35_12 : ACode :=
  (.seq (.region false [⟨some 12, none, .ld true 2 (.s 2)⟩,
    ⟨some 13, none, .mv (.s 1)⟩,
    ⟨some 14, none, .call 73 [(.s 12), (.s 13), (.c (.nils))]⟩,
    ⟨some 11, none, .mv (.s 14)⟩,
    ⟨some 15, none, .ext (.s 11) 0⟩,
    ⟨some 16, none, .ext (.s 11) 1⟩,
    ⟨some 6, none, .mv (.s 15)⟩,
    ⟨some 7, none, .mv (.s 16)⟩] [] [2, 6, 7]) c35_11)
def c35 : ACode :=
  (.seq (.region false [⟨some 2, none, .box 2 (.s 0)⟩,
    ⟨some 4, none, .cst (.nils)⟩,
    ⟨some 5, none, .cst (.t (.bool false))⟩] [] [1, 2]) c35_12)
def r35 : List ARes := [.tmp 4, .tmp 5]
def n35 : Nat := 37
/- 36 supergraph supergraphlaw13.same -/
/- 37 supergraph fragment.Find -/
def c37_0 : ACode :=
  (.seq (.region false [⟨some 21, none, .build [.t (.str []), .t (.str []), .nils] []⟩,
    ⟨none, none, .st 3 (.s 4) (.s 21)⟩,
    ⟨some 5, none, .cst (.t (.bool false))⟩] [] [4, 5]) .ret)
def c37_1 : ACode :=
  (.region false [⟨some 20, none, .bin .add (.s 11) (.c (.t (.int .i64 1)))⟩,
    ⟨some 11, none, .mv (.s 20)⟩] [] [1, 4, 9, 10, 11])
def c37_2 : ACode :=
  (.seq (.region false [⟨some 19, none, .ld true 3 (.s 7)⟩,
    ⟨none, none, .st 3 (.s 4) (.s 19)⟩,
    ⟨some 5, none, .cst (.t (.bool true))⟩] [] [4, 5]) .ret)
def c37_3 : ACode :=
  (.cond (.s 18) c37_2 .skip)
def c37_4 : ACode :=
  (.seq (.region false [⟨some 15, none, .fa 0 (.s 7)⟩,
    ⟨some 16, none, .ld false 1 (.s 15)⟩,
    ⟨some 17, none, .mv (.s 1)⟩,
    ⟨some 18, none, .bin .eql (.s 16) (.s 17)⟩] [] [1, 4, 7, 9, 10, 11, 18]) c37_3)
def c37_5 : ACode :=
  (.seq (.region false [⟨some 13, none, .ia 3 (.s 9) (.s 11)⟩,
    ⟨some 14, none, .ld true 3 (.s 13)⟩,
    ⟨some 7, none, .alloc [.t (.str []), .t (.str []), .nils]⟩,
    ⟨none, none, .st 3 (.s 7) (.s 14)⟩] [] [1, 4, 7, 9, 10, 11]) c37_4)
def c37_6 : ACode :=
  (.seq (.block 1 c37_5) c37_1)
def c37_7 : ACode :=
  (.seq (.cond (.s 12) .skip (.exit 0)) c37_6)
def c37_8 : ACode :=
  (.seq (.region false [⟨some 12, none, .bin .lss (.s 11) (.s 10)⟩] [] [1, 4, 9, 10, 11, 12]) c37_7)
def c37_9 : ACode :=
  (.loop c37_8)
def c37_10 : ACode :=
  (.block 0 c37_9)
def c37_11 : ACode :=
  (.seq (.seq (.region false [⟨some 8, none, .fa 1 (.s 2)⟩,
    ⟨some 9, none, .ld false 1 (.s 8)⟩,
    ⟨some 10, none, .len (.s 9)⟩,
    ⟨some 11, none, .cst (.t (.int .i64 0))⟩] [] [1, 4, 9, 10, 11]) c37_10) c37_0)
def c37 : ACode :=
  (.seq (.region false [⟨some 2, none, .box 2 (.s 0)⟩,
    ⟨some 4, none, .alloc [.t (.str []), .t (.str []), .nils]⟩,
    ⟨some 5, none, .cst (.t (.bool false))⟩] [] [1, 2, 4]) c37_11)
def r37 : List ARes := [.cell 4 true 3, .tmp 5]
def n37 : Nat := 22
/- 38 supergraph supergraphref13.Find -/
def c38_0 : ACode :=
  (.seq (.region false [⟨some 27, none, .build [.t (.str []), .t (.str []), .nils] []⟩,
    ⟨none, none, .st 3 (.s 4) (.s 27)⟩,
    ⟨some 5, none, .cst (.t (.bool false))⟩] [] [4, 5]) .ret)
def c38_1 : ACode :=
  (.region false [⟨some 12, none, .mv (.s 6)⟩,
    ⟨some 13, none, .bin .add (.s 12) (.c (.t (.int .i64 1)))⟩,
    ⟨some 6, none, .mv (.s 13)⟩] [] [1, 2, 4, 6])
def c38_2 : ACode :=
  (.seq (.region false [⟨some 22, none, .fa 1 (.s 2)⟩,
    ⟨some 23, none, .ld false 1 (.s 22)⟩,
    ⟨some 24, none, .mv (.s 6)⟩,
    ⟨some 25, none, .ia 3 (.s 23) (.s 24)⟩,
    ⟨some 26, none, .ld true 3 (.s 25)⟩,
    ⟨none, none, .st 3 (.s 4) (.s 26)⟩,
    ⟨some 5, none, .cst (.t (.bool true))⟩] [] [4, 5]) .ret)
def c38_3 : ACode :=
  (.cond (.s 21) c38_2 .skip)
def c38_4 : ACode :=
  (.seq (.region false [⟨some 14, none, .fa 1 (.s 2)⟩,
    ⟨some 15, none, .ld false 1 (.s 14)⟩,
    ⟨some 16, none, .mv (.s 6)⟩,
    ⟨some 17, none, .ia 3 (.s 15) (.s 16)⟩,
    ⟨some 18, none, .fa 0 (.s 17)⟩,
    ⟨some 19, none, .ld false 1 (.s 18)⟩,
    ⟨some 20, none, .mv (.s 1)⟩,
    ⟨some 21, none, .bin .eql (.s 19) (.s 20)⟩] [] [1, 2, 4, 6, 21]) c38_3)
def c38_5 : ACode :=
  (.seq (.block 1 c38_4) c38_1)
def c38_6 : ACode :=
  (.cond (.s 11) .skip (.exit 0))
def c38_7 : ACode :=
  (.seq (.seq (.region false [⟨some 7, none, .mv (.s 6)⟩,
    ⟨some 8, none, .fa 1 (.s 2)⟩,
    ⟨some 9, none, .ld false 1 (.s 8)⟩,
    ⟨some 10, none, .len (.s 9)⟩,
    ⟨some 11, none, .bin .lss (.s 7) (.s 10)⟩] [] [1, 2, 4, 6, 11]) c38_6) c38_5)
def c38_8 : ACode :=
  (.loop c38_7)
def c38_9 : ACode :=
  (.block 0 c38_8)
def c38_10 : ACode :=
  (.seq (.seq (.region false [⟨some 6, none, .cst (.t (.int .i64 0))⟩] [] [1, 2, 4, 6]) c38_9) c38_0)
def c38 : ACode :=
  (.seq (.region false [⟨some 2, none, .box 2 (.s 0)⟩,
    ⟨some 4, none, .alloc [.t (.str []), .t (.str []), .nils]⟩,
    ⟨some 5, none, .cst (.t (.bool false))⟩] [] [1, 2, 4]) c38_10)
def r38 : List ARes := [.cell 4 true 3, .tmp 5]
def n38 : Nat := 28
/- 39 supergraph supergraphlaw13.fits -/
def c39_0 : ACode :=
  (.seq (.region false [⟨some 5, none, .ld true 1 (.s 2)⟩,
    ⟨some 6, none, .call 29 [(.s 5)]⟩,
    ⟨some 7, none, .un .not (.s 6)⟩,
    ⟨some 8, none, .mv (.s 7)⟩,
    ⟨some 9, some (8, true), .ld true 2 (.s 3)⟩,
    ⟨some 10, some (8, true), .call 32 [(.s 9)]⟩,
    ⟨some 11, some (8, true), .un .not (.s 10)⟩,
    ⟨some 12, none, .pick (.s 8) (.s 11) (.c (.t (.bool false)))⟩,
    ⟨some 13, none, .mv (.s 12)⟩,
    ⟨some 14, some (13, true), .ld true 2 (.s 3)⟩,
    ⟨some 15, some (13, true), .call 75 [(.s 14)]⟩,
    ⟨some 16, none, .pick (.s 13) (.s 15) (.c (.t (.bool false)))⟩,
    ⟨some 17, none, .mv (.s 16)⟩,
    ⟨some 18, some (17, true), .ld true 1 (.s 2)⟩,
    ⟨some 19, some (17, true), .call 55 [(.s 18), (.c (.t (.bool false)))]⟩,
    ⟨some 20, some (17, true), .len (.s 19)⟩,
    ⟨some 21, some (17, true), .bin .eql (.s 20) (.c (.t (.int .i64 0)))⟩,
    ⟨some 22, none, .pick (.s 17) (.s 21) (.c (.t (.bool false)))⟩,
    ⟨some 23, none, .mv (.s 22)⟩,
    ⟨some 24, some (23, true), .ld true 1 (.s 2)⟩,
    ⟨some 25, some (23, true), .call 76 [(.s 24)]⟩,
    ⟨some 26, some (23, true), .len (.s 25)⟩,
    ⟨some 27, some (23, true), .bin .eql (.s 26) (.c (.t (.int .i64 0)))⟩,
    ⟨some 28, none, .pick (.s 23) (.s 27) (.c (.t (.bool false)))⟩,
    ⟨some 4, none, .mv (.s 28)⟩] [] [4]) .ret)
def c39 : ACode :=
  (.seq (.region false [⟨some 2, none, .box 1 (.s 0)⟩,
    ⟨some 3, none, .box 2 (.s 1)⟩,
    ⟨some 4, none, .cst (.t (.bool false))⟩] [] [2, 3]) c39_0)
def r39 : List ARes := [.tmp 4]
def n39 : Nat := 29
/- 41 supergraph fragment.Check -/
def c41_0 : ACode :=
  (.seq (.region false [⟨some 94, none, .mv (.s 5)⟩,
    ⟨some 95, none, .nilck (.s 94)⟩,
    ⟨some 96, none, .fa 3 (.s 95)⟩,
    ⟨some 97, none, .ld false 1 (.s 96)⟩,
    ⟨some 4, none, .mv (.s 97)⟩] [] [4]) .ret)
def c41_1 : ACode :=
  (.region false [⟨some 93, none, .bin .add (.s 56) (.c (.t (.int .i64 1)))⟩,
    ⟨some 56, none, .mv (.s 93)⟩] [] [2, 3, 5, 6, 54, 55, 56])
def c41_2 : ACode :=
  (.region false [⟨some 85, none, .mv (.s 5)⟩,
    ⟨some 86, none, .fa 2 (.s 14)⟩,
    ⟨some 87, none, .ld false 1 (.s 86)⟩,
    ⟨some 88, none, .fa 1 (.s 14)⟩,
    ⟨some 89, none, .ld false 1 (.s 88)⟩,
    ⟨some 90, none, .fa 0 (.s 14)⟩,
    ⟨some 91, none, .ld false 1 (.s 90)⟩,
    ⟨some 92, none, .call 77 [(.s 85), (.s 87), (.s 89), (.s 91)]⟩] [] [2, 3, 5, 6, 54, 55, 56])
def c41_3 : ACode :=
  (.seq (.region false [⟨some 76, none, .mv (.s 5)⟩,
    ⟨some 77, none, .mv (.s 6)⟩,
    ⟨some 78, none, .fa 0 (.s 14)⟩,
    ⟨some 79, none, .ld false 1 (.s 78)⟩,
    ⟨some 80, none, .nw (.lookup [.str] false (.t (.bool false)) false (.s 77) (.s 79))⟩,
    ⟨some 81, none, .un .not (.s 80)⟩,
    ⟨some 82, none, .fa 0 (.s 14)⟩,
    ⟨some 83, none, .ld false 1 (.s 82)⟩,
    ⟨some 84, none, .call 79 [(.s 76), (.s 81), (.c (.t (.int .i64 26))), (.s 83)]⟩] [] [2, 3, 5, 6, 14, 54, 55, 56]) c41_2)
def c41_4 : ACode :=
  (.seq (.region true [⟨some 69, none, .mv (.s 5)⟩,
    ⟨some 70, none, .ld true 2 (.s 3)⟩,
    ⟨some 71, none, .ld true 3 (.s 14)⟩,
    ⟨some 72, none, .call 72 [(.s 70), (.s 71)]⟩,
    ⟨some 73, none, .fa 0 (.s 14)⟩,
    ⟨some 74, none, .ld false 1 (.s 73)⟩,
    ⟨some 75, none, .call 79 [(.s 69), (.s 72), (.c (.t (.int .i64 24))), (.s 74)]⟩] [[], [], [], [1, 2], [], [4], [0, 3, 5, 3]] [2, 3, 5, 6, 14, 54, 55, 56]) c41_3)
def c41_5 : ACode :=
  (.seq (.region true [⟨some 60, none, .mv (.s 5)⟩,
    ⟨some 61, none, .ld true 1 (.s 2)⟩,
    ⟨some 62, none, .fa 1 (.s 14)⟩,
    ⟨some 63, none, .ld false 1 (.s 62)⟩,
    ⟨some 64, none, .call 80 [(.s 61), (.s 63)]⟩,
    ⟨some 65, none, .un .not (.s 64)⟩,
    ⟨some 66, none, .fa 0 (.s 14)⟩,
    ⟨some 67, none, .ld false 1 (.s 66)⟩,
    ⟨some 68, none, .call 79 [(.s 60), (.s 65), (.c (.t (.int .i64 24))), (.s 67)]⟩] [[], [], [], [2], [1, 3], [4], [], [6], [0, 5, 7, 4]] [2, 3, 5, 6, 14, 54, 55, 56]) c41_4)
def c41_6 : ACode :=
  (.seq (.region false [⟨some 58, none, .ia 3 (.s 54) (.s 56)⟩,
    ⟨some 59, none, .ld true 3 (.s 58)⟩,
    ⟨some 14, none, .alloc [.t (.str []), .t (.str []), .nils]⟩,
    ⟨none, none, .st 3 (.s 14) (.s 59)⟩] [] [2, 3, 5, 6, 14, 54, 55, 56]) c41_5)
def c41_7 : ACode :=
  (.seq (.block 5 c41_6) c41_1)
def c41_8 : ACode :=
  (.seq (.cond (.s 57) .skip (.exit 4)) c41_7)
def c41_9 : ACode :=
  (.seq (.region false [⟨some 57, none, .bin .lss (.s 56) (.s 55)⟩] [] [2, 3, 5, 6, 54, 55, 56, 57]) c41_8)
def c41_10 : ACode :=
  (.loop c41_9)
def c41_11 : ACode :=
  (.block 4 c41_10)
def c41_12 : ACode :=
  (.seq (.seq (.region false [⟨some 53, none, .fa 1 (.s 3)⟩,
    ⟨some 54, none, .ld false 1 (.s 53)⟩,
    ⟨some 55, none, .len (.s 54)⟩,
    ⟨some 56, none, .cst (.t (.int .i64 0))⟩] [] [2, 3, 5, 6, 54, 55, 56]) c41_11) c41_0)
def c41_13 : ACode :=
  (.region false [⟨some 52, none, .bin .add (.s 23) (.c (.t (.int .i64 1)))⟩,
    ⟨some 23, none, .mv (.s 52)⟩] [] [2, 3, 5, 6, 21, 22, 23])
def c41_14 : ACode :=
  (.region false [⟨some 51, none, .bin .add (.s 45) (.c (.t (.int .i64 1)))⟩,
    ⟨some 45, none, .mv (.s 51)⟩] [] [2, 3, 5, 6, 21, 22, 23, 43, 44, 45])
def c41_15 : ACode :=
  (.region false [⟨some 49, none, .mv (.s 6)⟩,
    ⟨some 50, none, .mv (.s 12)⟩,
    ⟨none, none, .nw (.mupd [.str] false (.s 49) (.s 50) (.c (.t (.bool true))))⟩] [] [2, 3, 5, 6, 21, 22, 23, 43, 44, 45])
def c41_16 : ACode :=
  (.seq (.region false [⟨some 47, none, .ia 1 (.s 43) (.s 45)⟩,
    ⟨some 48, none, .ld false 1 (.s 47)⟩,
    ⟨some 12, none, .mv (.s 48)⟩] [] [2, 3, 5, 6, 12, 21, 22, 23, 43, 44, 45]) c41_15)
def c41_17 : ACode :=
  (.seq (.block 3 c41_16) c41_14)
def c41_18 : ACode :=
  (.seq (.cond (.s 46) .skip (.exit 2)) c41_17)
def c41_19 : ACode :=
  (.seq (.region false [⟨some 46, none, .bin .lss (.s 45) (.s 44)⟩] [] [2, 3, 5, 6, 21, 22, 23, 43, 44, 45, 46]) c41_18)
def c41_20 : ACode :=
  (.loop c41_19)
def c41_21 : ACode :=
  (.block 2 c41_20)
def c41_22 : ACode :=
  (.seq (.region false [⟨some 43, none, .mv (.s 9)⟩,
    ⟨some 44, none, .len (.s 43)⟩,
    ⟨some 45, none, .cst (.t (.int .i64 0))⟩] [] [2, 3, 5, 6, 21, 22, 23, 43, 44, 45]) c41_21)
def c41_23 : ACode :=
  (.seq (.region false [⟨some 37, none, .ld true 2 (.s 3)⟩,
    ⟨some 38, none, .fa 3 (.s 8)⟩,
    ⟨some 39, none, .ld false 1 (.s 38)⟩,
    ⟨some 40, none, .call 71 [(.s 37), (.s 39), (.c (.nils))]⟩,
    ⟨some 36, none, .mv (.s 40)⟩,
    ⟨some 41, none, .ext (.s 36) 0⟩,
    ⟨some 42, none, .ext (.s 36) 1⟩,
    ⟨some 9, none, .mv (.s 41)⟩,
    ⟨some 10, none, .mv (.s 42)⟩] [] [2, 3, 5, 6, 9, 21, 22, 23]) c41_22)
def c41_24 : ACode :=
  (.seq (.region true [⟨some 27, none, .mv (.s 5)⟩,
    ⟨some 28, none, .fa 3 (.s 8)⟩,
    ⟨some 29, none, .ld false 1 (.s 28)⟩,
    ⟨some 30, none, .fa 0 (.s 8)⟩,
    ⟨some 31, none, .ld false 1 (.s 30)⟩,
    ⟨some 32, none, .call 78 [(.s 31)]⟩,
    ⟨some 33, none, .fa 1 (.s 8)⟩,
    ⟨some 34, none, .ld false 1 (.s 33)⟩,
    ⟨some 35, none, .call 77 [(.s 27), (.s 29), (.s 32), (.s 34)]⟩] [[], [], [1], [], [3], [4], [], [6], [0, 2, 5, 7, 5]] [2, 3, 5, 6, 8, 21, 22, 23]) c41_23)
def c41_25 : ACode :=
  (.seq (.region false [⟨some 25, none, .ia 4 (.s 21) (.s 23)⟩,
    ⟨some 26, none, .ld true 4 (.s 25)⟩,
    ⟨some 8, none, .alloc [.t (.int .i64 0), .t (.str []), .nils, .nils]⟩,
    ⟨none, none, .st 4 (.s 8) (.s 26)⟩] [] [2, 3, 5, 6, 8, 21, 22, 23]) c41_24)
def c41_26 : ACode :=
  (.seq (.block 1 c41_25) c41_13)
def c41_27 : ACode :=
  (.seq (.cond (.s 24) .skip (.exit 0)) c41_26)
def c41_28 : ACode :=
  (.seq (.region false [⟨some 24, none, .bin .lss (.s 23) (.s 22)⟩] [] [2, 3, 5, 6, 21, 22, 23, 24]) c41_27)
def c41_29 : ACode :=
  (.loop c41_28)
def c41_30 : ACode :=
  (.block 0 c41_29)
def c41_31 : ACode :=
  (.seq (.seq (.region false [⟨some 20, none, .fa 0 (.s 3)⟩,
    ⟨some 21, none, .ld false 1 (.s 20)⟩,
    ⟨some 22, none, .len (.s 21)⟩,
    ⟨some 23, none, .cst (.t (.int .i64 0))⟩] [] [2, 3, 5, 6, 21, 22, 23]) c41_30) c41_12)
def c41_32 : ACode :=
  (.seq (.region false [⟨some 19, none, .mkmap false false⟩,
    ⟨some 6, none, .mv (.s 19)⟩] [] [2, 3, 5, 6]) c41_31)
def c41_33 : ACode :=
  (.seq (.region false [⟨some 15, none, .ld true 1 (.s 2)⟩,
    ⟨some 16, none, .ld true 2 (.s 3)⟩,
    ⟨some 17, none, .build [.nils, .nils, .nils, .nils] [(0, 1, (.s 15)), (1, 2, (.s 16))]⟩,
    ⟨some 18, none, .box 4 (.s 17)⟩,
    ⟨some 5, none, .mv (.s 18)⟩] [] [2, 3, 5]) c41_32)
def c41 : ACode :=
  (.seq (.region false [⟨some 2, none, .box 1 (.s 0)⟩,
    ⟨some 3, none, .box 2 (.s 1)⟩,
    ⟨some 4, none, .cst (.nils)⟩] [] [2, 3]) c41_33)
def r41 : List ARes := [.tmp 4]
def n41 : Nat := 98
/- 42 supergraph supergraphref13.Check -/
/- 43 supergraph supergraphref10.Composite -/
def c43_0 : ACode :=
  (.seq (.region false [⟨some 13, none, .mv (.s 1)⟩,
    ⟨some 14, none, .call 85 [(.s 13)]⟩,
    ⟨some 15, none, .un .not (.s 14)⟩,
    ⟨some 16, none, .mv (.s 15)⟩,
    ⟨some 17, some (16, true), .mv (.s 6)⟩,
    ⟨some 18, none, .pick (.s 16) (.s 17) (.c (.t (.bool false)))⟩,
    ⟨some 19, none, .mv (.s 18)⟩,
    ⟨some 20, some (19, true), .fa 0 (.s 5)⟩,
    ⟨some 21, some (19, true), .ld false 1 (.s 20)⟩,
    ⟨some 22, some (19, true), .bin .eql (.s 21) (.c (.t (.int .i64 1)))⟩,
    ⟨some 23, some (19, true), .mv (.s 22)⟩,
    ⟨some 24, some (23, false), .fa 0 (.s 5)⟩,
    ⟨some 25, some (23, false), .ld false 1 (.s 24)⟩,
    ⟨some 26, some (23, false), .bin .eql (.s 25) (.c (.t (.int .i64 2)))⟩,
    ⟨some 27, some (19, true), .pick (.s 23) (.c (.t (.bool true))) (.s 26)⟩,
    ⟨some 28, some (19, true), .mv (.s 27)⟩,
    ⟨some 29, some (28, false), .fa 0 (.s 5)⟩,
    ⟨some 30, some (28, false), .ld false 1 (.s 29)⟩,
    ⟨some 31, some (28, false), .bin .eql (.s 30) (.c (.t (.int .i64 3)))⟩,
    ⟨some 32, some (19, true), .pick (.s 28) (.c (.t (.bool true))) (.s 31)⟩,
    ⟨some 33, none, .pick (.s 19) (.s 32) (.c (.t (.bool false)))⟩,
    ⟨some 4, none, .mv (.s 33)⟩] [] [4]) .ret)
def c43_1 : ACode :=
  (.seq (.region false [⟨some 8, none, .ld true 1 (.s 2)⟩,
    ⟨some 9, none, .mv (.s 1)⟩,
    ⟨some 10, none, .call 57 [(.s 8), (.s 9)]⟩,
    ⟨some 7, none, .mv (.s 10)⟩,
    ⟨some 11, none, .ext (.s 7) 0⟩,
    ⟨some 12, none, .ext (.s 7) 1⟩,
    ⟨some 5, none, .alloc [.t (.int .i64 0), .t (.str []), .nils, .nils, .nils, .nils, .nils]⟩,
    ⟨none, none, .st 7 (.s 5) (.s 11)⟩,
    ⟨some 6, none, .mv (.s 12)⟩] [] [1, 5, 6]) c43_0)
def c43 : ACode :=
  (.seq (.region false [⟨some 2, none, .box 1 (.s 0)⟩,
    ⟨some 4, none, .cst (.t (.bool false))⟩] [] [1, 2]) c43_1)
def r43 : List ARes := [.tmp 4]
def n43 : Nat := 34
/- 69 supergraph supergraphref13.deep -/
def c69_0 : ACode :=
  (.seq (.region false [⟨some 4, none, .cst (.t (.bool false))⟩] [] [4]) .ret)
def c69_1 : ACode :=
  (.region false [⟨some 10, none, .mv (.s 5)⟩,
    ⟨some 11, none, .bin .add (.s 10) (.c (.t (.int .i64 1)))⟩,
    ⟨some 5, none, .mv (.s 11)⟩] [] [0, 1, 5])
def c69_2 : ACode :=
  (.seq (.region false [⟨some 4, none, .cst (.t (.bool true))⟩] [] [4]) .ret)
def c69_3 : ACode :=
  (.cond (.s 23) c69_2 .skip)
def c69_4 : ACode :=
  (.seq (.region false [⟨some 12, none, .mv (.s 1)⟩,
    ⟨some 13, none, .bin .leq (.s 12) (.c (.t (.int .i64 0)))⟩,
    ⟨some 14, none, .mv (.s 13)⟩,
    ⟨some 15, some (14, false), .mv (.s 0)⟩,
    ⟨some 16, some (14, false), .mv (.s 5)⟩,
    ⟨some 17, some (14, false), .ia 7 (.s 15) (.s 16)⟩,
    ⟨some 18, some (14, false), .fa 6 (.s 17)⟩,
    ⟨some 19, some (14, false), .ld false 1 (.s 18)⟩,
    ⟨some 20, some (14, false), .mv (.s 1)⟩,
    ⟨some 21, some (14, false), .bin .sub (.s 20) (.c (.t (.int .i64 1)))⟩,
    ⟨some 22, some (14, false), .call 69 [(.s 19), (.s 21)]⟩,
    ⟨some 23, none, .pick (.s 14) (.c (.t (.bool true))) (.s 22)⟩] [] [0, 1, 5, 23]) c69_3)
def c69_5 : ACode :=
  (.seq (.block 1 c69_4) c69_1)
def c69_6 : ACode :=
  (.cond (.s 9) .skip (.exit 0))
def c69_7 : ACode :=
  (.seq (.seq (.region false [⟨some 6, none, .mv (.s 5)⟩,
    ⟨some 7, none, .mv (.s 0)⟩,
    ⟨some 8, none, .len (.s 7)⟩,
    ⟨some 9, none, .bin .lss (.s 6) (.s 8)⟩] [] [0, 1, 5, 9]) c69_6) c69_5)
def c69_8 : ACode :=
  (.loop c69_7)
def c69_9 : ACode :=
  (.block 0 c69_8)
def c69_10 : ACode :=
  (.seq (.seq (.region false [⟨some 5, none, .cst (.t (.int .i64 0))⟩] [] [0, 1, 5]) c69_9) c69_0)
def c69 : ACode :=
  (.seq (.region false [⟨some 4, none, .cst (.t (.bool false))⟩] [] [0, 1]) c69_10)
def r69 : List ARes := [.tmp 4]
def n69 : Nat := 24
/- 70 supergraph supergraphref13.count -/
def c70_0 : ACode :=
  (.seq (.region false [⟨some 44, none, .mv (.s 5)⟩,
    ⟨some 4, none, .mv (.s 44)⟩] [] [4]) .ret)
def c70_1 : ACode :=
  (.region false [⟨some 16, none, .mv (.s 6)⟩,
    ⟨some 17, none, .bin .add (.s 16) (.c (.t (.int .i64 1)))⟩,
    ⟨some 6, none, .mv (.s 17)⟩] [] [0, 1, 5, 6])
def c70_2 : ACode :=
  (.region true [⟨some 18, none, .mv (.s 5)⟩,
    ⟨some 19, none, .mv (.s 0)⟩,
    ⟨some 20, none, .mv (.s 6)⟩,
    ⟨some 21, none, .ia 7 (.s 19) (.s 20)⟩,
    ⟨some 22, none, .fa 4 (.s 21)⟩,
    ⟨some 23, none, .ld false 1 (.s 22)⟩,
    ⟨some 24, none, .len (.s 23)⟩,
    ⟨some 25, none, .bin .add (.c (.t (.int .i64 1))) (.s 24)⟩,
    ⟨some 26, none, .mv (.s 0)⟩,
    ⟨some 27, none, .mv (.s 6)⟩,
    ⟨some 28, none, .ia 7 (.s 26) (.s 27)⟩,
    ⟨some 29, none, .fa 5 (.s 28)⟩,
    ⟨some 30, none, .ld false 1 (.s 29)⟩,
    ⟨some 31, none, .len (.s 30)⟩,
    ⟨some 32, none, .bin .add (.s 25) (.s 31)⟩,
    ⟨some 33, none, .mv (.s 0)⟩,
    ⟨some 34, none, .mv (.s 6)⟩,
    ⟨some 35, none, .ia 7 (.s 33) (.s 34)⟩,
    ⟨some 36, none, .fa 6 (.s 35)⟩,
    ⟨some 37, none, .ld false 1 (.s 36)⟩,
    ⟨some 38, none, .mv (.s 1)⟩,
    ⟨some 39, none, .mv (.s 5)⟩,
    ⟨some 40, none, .bin .sub (.s 38) (.s 39)⟩,
    ⟨some 41, none, .call 70 [(.s 37), (.s 40)]⟩,
    ⟨some 42, none, .bin .add (.s 32) (.s 41)⟩,
    ⟨some 43, none, .bin .add (.s 18) (.s 42)⟩,
    ⟨some 5, none, .mv (.s 43)⟩] [[], [], [], [1, 2], [3], [4], [5], [6], [], [], [8, 9], [10], [11], [12], [7, 13], [], [], [15, 16], [17], [18], [], [], [20, 21], [19, 22], [14, 23], [0, 24], [25, 23, 0, 1, 2, 3, 4, 5, 6, 7, 8, 9, 10, 11, 12, 13, 14, 15, 16, 17, 18, 19, 20, 21, 22, 23, 24, 25]] [0, 1, 5, 6])
def c70_3 : ACode :=
  (.seq (.block 1 c70_2) c70_1)
def c70_4 : ACode :=
  (.cond (.s 15) .skip (.exit 0))
def c70_5 : ACode :=
  (.seq (.seq (.region false [⟨some 7, none, .mv (.s 6)⟩,
    ⟨some 8, none, .mv (.s 0)⟩,
    ⟨some 9, none, .len (.s 8)⟩,
    ⟨some 10, none, .bin .lss (.s 7) (.s 9)⟩,
    ⟨some 11, none, .mv (.s 10)⟩,
    ⟨some 12, some (11, true), .mv (.s 5)⟩,
    ⟨some 13, some (11, true), .mv (.s 1)⟩,
    ⟨some 14, some (11, true), .bin .lss (.s 12) (.s 13)⟩,
    ⟨some 15, none, .pick (.s 11) (.s 14) (.c (.t (.bool false)))⟩] [] [0, 1, 5, 6, 15]) c70_4) c70_3)
def c70_6 : ACode :=
  (.loop c70_5)
def c70_7 : ACode :=
  (.block 0 c70_6)
def c70_8 : ACode :=
  (.seq (.seq (.region false [⟨some 6, none, .cst (.t (.int .i64 0))⟩] [] [0, 1, 5, 6]) c70_7) c70_0)
def c70_9 : ACode :=
  (.seq (.region false [⟨some 5, none, .cst (.t (.int .i64 0))⟩] [] [0, 1, 5]) c70_8)
def c70 : ACode :=
  (.seq (.region false [⟨some 4, none, .cst (.t (.int .i64 0))⟩] [] [0, 1]) c70_9)
def r70 : List ARes := [.tmp 4]
def n70 : Nat := 45
/- 71 supergraph fragment.walk -/
def c71_0 : ACode :=
  (.seq (.region false [⟨some 64, none, .mv (.s 2)⟩,
    ⟨some 65, none, .mv (.s 8)⟩,
    ⟨some 6, none, .mv (.s 64)⟩,
    ⟨some 7, none, .mv (.s 65)⟩] [] [6, 7]) .ret)
def c71_1 : ACode :=
  (.region false [⟨some 63, none, .bin .add (.s 17) (.c (.t (.int .i64 1)))⟩,
    ⟨some 17, none, .mv (.s 63)⟩] [] [2, 3, 8, 15, 16, 17])
def c71_2 : ACode :=
  (.region false [⟨some 59, none, .mv (.s 8)⟩,
    ⟨some 60, none, .mv (.s 59)⟩,
    ⟨some 61, some (60, true), .mv (.s 14)⟩,
    ⟨some 62, none, .pick (.s 60) (.s 61) (.c (.t (.bool false)))⟩,
    ⟨some 8, none, .mv (.s 62)⟩] [] [2, 3, 8, 15, 16, 17])
def c71_3 : ACode :=
  (.seq (.region false [⟨some 53, none, .ld true 2 (.s 3)⟩,
    ⟨some 54, none, .mv (.s 11)⟩,
    ⟨some 55, none, .mv (.s 2)⟩,
    ⟨some 56, none, .call 71 [(.s 53), (.s 54), (.s 55)]⟩,
    ⟨some 52, none, .mv (.s 56)⟩,
    ⟨some 57, none, .ext (.s 52) 0⟩,
    ⟨some 58, none, .ext (.s 52) 1⟩,
    ⟨some 2, none, .mv (.s 57)⟩,
    ⟨some 14, none, .mv (.s 58)⟩] [] [2, 3, 8, 14, 15, 16, 17]) c71_2)
def c71_4 : ACode :=
  (.seq (.region false [⟨some 14, none, .cst (.t (.bool false))⟩] [] [2, 3, 8, 11, 15, 16, 17]) c71_3)
def c71_5 : ACode :=
  (.region false [⟨some 50, none, .fa 2 (.s 12)⟩,
    ⟨some 51, none, .ld false 1 (.s 50)⟩,
    ⟨some 11, none, .mv (.s 51)⟩] [] [2, 3, 8, 11, 15, 16, 17])
def c71_6 : ACode :=
  (.seq (.region false [⟨some 45, none, .mv (.s 2)⟩,
    ⟨some 46, none, .fa 2 (.s 10)⟩,
    ⟨some 47, none, .ld false 1 (.s 46)⟩,
    ⟨some 48, none, .bsl false 1 [[.str []]] [(0, (.s 47))]⟩,
    ⟨some 49, none, .app 1 16 (.s 45) (.s 48)⟩,
    ⟨some 2, none, .mv (.s 49)⟩] [] [2, 3, 8, 12, 15, 16, 17]) c71_5)
def c71_7 : ACode :=
  (.cond (.s 44) (.exit 1) .skip)
def c71_8 : ACode :=
  (.seq (.seq (.region false [⟨some 37, none, .mv (.s 13)⟩,
    ⟨some 38, none, .un .not (.s 37)⟩,
    ⟨some 39, none, .mv (.s 38)⟩,
    ⟨some 40, some (39, false), .mv (.s 2)⟩,
    ⟨some 41, some (39, false), .fa 2 (.s 10)⟩,
    ⟨some 42, some (39, false), .ld false 1 (.s 41)⟩,
    ⟨some 43, some (39, false), .call 68 [(.s 40), (.s 42)]⟩,
    ⟨some 44, none, .pick (.s 39) (.c (.t (.bool true))) (.s 43)⟩] [] [2, 3, 8, 10, 12, 15, 16, 17, 44]) c71_7) c71_6)
def c71_9 : ACode :=
  (.seq (.region false [⟨some 33, none, .mv (.s 8)⟩,
    ⟨some 34, none, .mv (.s 33)⟩,
    ⟨some 35, some (34, true), .mv (.s 13)⟩,
    ⟨some 36, none, .pick (.s 34) (.s 35) (.c (.t (.bool false)))⟩,
    ⟨some 8, none, .mv (.s 36)⟩] [] [2, 3, 8, 10, 12, 13, 15, 16, 17]) c71_8)
def c71_10 : ACode :=
  (.seq (.region false [⟨some 27, none, .ld true 2 (.s 3)⟩,
    ⟨some 28, none, .fa 2 (.s 10)⟩,
    ⟨some 29, none, .ld false 1 (.s 28)⟩,
    ⟨some 30, none, .call 37 [(.s 27), (.s 29)]⟩,
    ⟨some 26, none, .mv (.s 30)⟩,
    ⟨some 31, none, .ext (.s 26) 0⟩,
    ⟨some 32, none, .ext (.s 26) 1⟩,
    ⟨some 12, none, .alloc [.t (.str []), .t (.str []), .nils]⟩,
    ⟨none, none, .st 3 (.s 12) (.s 31)⟩,
    ⟨some 13, none, .mv (.s 32)⟩] [] [2, 3, 8, 10, 12, 13, 15, 16, 17]) c71_9)
def c71_11 : ACode :=
  (.cond (.s 25) c71_10 .skip)
def c71_12 : ACode :=
  (.seq (.seq (.region false [⟨some 23, none, .fa 0 (.s 10)⟩,
    ⟨some 24, none, .ld false 1 (.s 23)⟩,
    ⟨some 25, none, .bin .eql (.s 24) (.c (.t (.int .i64 2)))⟩] [] [2, 3, 8, 10, 11, 15, 16, 17, 25]) c71_11) c71_4)
def c71_13 : ACode :=
  (.seq (.region false [⟨some 21, none, .fa 6 (.s 10)⟩,
    ⟨some 22, none, .ld false 1 (.s 21)⟩,
    ⟨some 11, none, .mv (.s 22)⟩] [] [2, 3, 8, 10, 11, 15, 16, 17]) c71_12)
def c71_14 : ACode :=
  (.seq (.region false [⟨some 19, none, .ia 7 (.s 15) (.s 17)⟩,
    ⟨some 20, none, .ld true 7 (.s 19)⟩,
    ⟨some 10, none, .alloc [.t (.int .i64 0), .t (.str []), .t (.str []), .t (.str []), .nils, .nils, .nils]⟩,
    ⟨none, none, .st 7 (.s 10) (.s 20)⟩] [] [2, 3, 8, 10, 15, 16, 17]) c71_13)
def c71_15 : ACode :=
  (.seq (.block 1 c71_14) c71_1)
def c71_16 : ACode :=
  (.seq (.cond (.s 18) .skip (.exit 0)) c71_15)
def c71_17 : ACode :=
  (.seq (.region false [⟨some 18, none, .bin .lss (.s 17) (.s 16)⟩] [] [2, 3, 8, 15, 16, 17, 18]) c71_16)
def c71_18 : ACode :=
  (.loop c71_17)
def c71_19 : ACode :=
  (.block 0 c71_18)
def c71_20 : ACode :=
  (.seq (.seq (.region false [⟨some 15, none, .mv (.s 1)⟩,
    ⟨some 16, none, .len (.s 15)⟩,
    ⟨some 17, none, .cst (.t (.int .i64 0))⟩] [] [2, 3, 8, 15, 16, 17]) c71_19) c71_0)
def c71_21 : ACode :=
  (.seq (.region false [⟨some 8, none, .cst (.t (.bool true))⟩] [] [1, 2, 3, 8]) c71_20)
def c71 : ACode :=
  (.seq (.region false [⟨some 3, none, .box 2 (.s 0)⟩,
    ⟨some 6, none, .cst (.nils)⟩,
    ⟨some 7, none, .cst (.t (.bool false))⟩] [] [1, 2, 3]) c71_21)
def r71 : List ARes := [.tmp 6, .tmp 7]
def n71 : Nat := 66
/- 72 supergraph fragment.loops -/
def c72_0 : ACode :=
  (.seq (.region false [⟨some 14, none, .mv (.s 5)⟩,
    ⟨some 15, none, .fa 0 (.s 3)⟩,
    ⟨some 16, none, .ld false 1 (.s 15)⟩,
    ⟨some 17, none, .call 68 [(.s 14), (.s 16)]⟩,
    ⟨some 4, none, .mv (.s 17)⟩] [] [4]) .ret)
def c72_1 : ACode :=
  (.seq (.region false [⟨some 8, none, .ld true 2 (.s 2)⟩,
    ⟨some 9, none, .fa 2 (.s 3)⟩,
    ⟨some 10, none, .ld false 1 (.s 9)⟩,
    ⟨some 11, none, .call 71 [(.s 8), (.s 10), (.c (.nils))]⟩,
    ⟨some 7, none, .mv (.s 11)⟩,
    ⟨some 12, none, .ext (.s 7) 0⟩,
    ⟨some 13, none, .ext (.s 7) 1⟩,
    ⟨some 5, none, .mv (.s 12)⟩,
    ⟨some 6, none, .mv (.s 13)⟩] [] [3, 5]) c72_0)
def c72 : ACode :=
  (.seq (.region false [⟨some 2, none, .box 2 (.s 0)⟩,
    ⟨some 3, none, .box 3 (.s 1)⟩,
    ⟨some 4, none, .cst (.t (.bool false))⟩] [] [2, 3]) c72_1)
def r72 : List ARes := [.tmp 4]
def n72 : Nat := 18
/- 73 supergraph supergraphref13.visit -/
def c73_0 : ACode :=
  (.seq (.region false [⟨some 71, none, .mv (.s 2)⟩,
    ⟨some 72, none, .mv (.s 8)⟩,
    ⟨some 6, none, .mv (.s 71)⟩,
    ⟨some 7, none, .mv (.s 72)⟩] [] [6, 7]) .ret)
def c73_1 : ACode :=
  (.region false [⟨some 19, none, .mv (.s 9)⟩,
    ⟨some 20, none, .bin .add (.s 19) (.c (.t (.int .i64 1)))⟩,
    ⟨some 9, none, .mv (.s 20)⟩] [] [1, 2, 3, 8, 9])
def c73_2 : ACode :=
  (.region false [⟨some 67, none, .mv (.s 8)⟩,
    ⟨some 68, none, .mv (.s 67)⟩,
    ⟨some 69, some (68, true), .mv (.s 14)⟩,
    ⟨some 70, none, .pick (.s 68) (.s 69) (.c (.t (.bool false)))⟩,
    ⟨some 8, none, .mv (.s 70)⟩] [] [1, 2, 3, 8, 9])
def c73_3 : ACode :=
  (.seq (.region false [⟨some 66, none, .mv (.s 13)⟩,
    ⟨some 2, none, .mv (.s 66)⟩] [] [1, 2, 3, 8, 9, 14]) c73_2)
def c73_4 : ACode :=
  (.seq (.region false [⟨some 60, none, .ld true 2 (.s 3)⟩,
    ⟨some 61, none, .mv (.s 10)⟩,
    ⟨some 62, none, .mv (.s 2)⟩,
    ⟨some 63, none, .call 73 [(.s 60), (.s 61), (.s 62)]⟩,
    ⟨some 59, none, .mv (.s 63)⟩,
    ⟨some 64, none, .ext (.s 59) 0⟩,
    ⟨some 65, none, .ext (.s 59) 1⟩,
    ⟨some 13, none, .mv (.s 64)⟩,
    ⟨some 14, none, .mv (.s 65)⟩] [] [1, 3, 8, 9, 13, 14]) c73_3)
def c73_5 : ACode :=
  (.region false [⟨some 57, none, .fa 2 (.s 11)⟩,
    ⟨some 58, none, .ld false 1 (.s 57)⟩,
    ⟨some 10, none, .mv (.s 58)⟩] [] [1, 2, 3, 8, 9, 10])
def c73_6 : ACode :=
  (.seq (.region false [⟨some 52, none, .mv (.s 2)⟩,
    ⟨some 53, none, .fa 0 (.s 11)⟩,
    ⟨some 54, none, .ld false 1 (.s 53)⟩,
    ⟨some 55, none, .bsl false 1 [[.str []]] [(0, (.s 54))]⟩,
    ⟨some 56, none, .app 1 16 (.s 52) (.s 55)⟩,
    ⟨some 2, none, .mv (.s 56)⟩] [] [1, 2, 3, 8, 9, 11]) c73_5)
def c73_7 : ACode :=
  (.cond (.s 51) (.exit 1) .skip)
def c73_8 : ACode :=
  (.seq (.seq (.region false [⟨some 44, none, .mv (.s 12)⟩,
    ⟨some 45, none, .un .not (.s 44)⟩,
    ⟨some 46, none, .mv (.s 45)⟩,
    ⟨some 47, some (46, false), .mv (.s 2)⟩,
    ⟨some 48, some (46, false), .fa 0 (.s 11)⟩,
    ⟨some 49, some (46, false), .ld false 1 (.s 48)⟩,
    ⟨some 50, some (46, false), .call 127 [(.s 47), (.s 49)]⟩,
    ⟨some 51, none, .pick (.s 46) (.c (.t (.bool true))) (.s 50)⟩] [] [1, 2, 3, 8, 9, 11, 51]) c73_7) c73_6)
def c73_9 : ACode :=
  (.region false [⟨some 8, none, .cst (.t (.bool false))⟩] [] [1, 2, 3, 8, 9, 11, 12])
def c73_10 : ACode :=
  (.cond (.s 43) c73_9 .skip)
def c73_11 : ACode :=
  (.seq (.seq (.region false [⟨some 42, none, .mv (.s 12)⟩,
    ⟨some 43, none, .un .not (.s 42)⟩] [] [1, 2, 3, 8, 9, 11, 12, 43]) c73_10) c73_8)
def c73_12 : ACode :=
  (.seq (.region true [⟨some 33, none, .ld true 2 (.s 3)⟩,
    ⟨some 34, none, .mv (.s 1)⟩,
    ⟨some 35, none, .mv (.s 9)⟩,
    ⟨some 36, none, .ia 7 (.s 34) (.s 35)⟩,
    ⟨some 37, none, .fa 2 (.s 36)⟩,
    ⟨some 38, none, .ld false 1 (.s 37)⟩,
    ⟨some 39, none, .call 38 [(.s 33), (.s 38)]⟩,
    ⟨some 32, none, .mv (.s 39)⟩,
    ⟨some 40, none, .ext (.s 32) 0⟩,
    ⟨some 41, none, .ext (.s 32) 1⟩,
    ⟨some 11, none, .alloc [.t (.str []), .t (.str []), .nils]⟩,
    ⟨none, none, .st 3 (.s 11) (.s 40)⟩,
    ⟨some 12, none, .mv (.s 41)⟩] [[], [], [], [1, 2], [3], [4], [0, 5], [6], [7], [7], [], [10, 8, 6, 0, 1, 2, 3, 4, 5, 6, 7, 8, 10], [9, 11, 0, 1, 2, 3, 4, 5, 6, 7, 8, 9, 10, 11]] [1, 2, 3, 8, 9, 11, 12]) c73_11)
def c73_13 : ACode :=
  (.cond (.s 31) c73_12 .skip)
def c73_14 : ACode :=
  (.seq (.seq (.region false [⟨some 26, none, .mv (.s 1)⟩,
    ⟨some 27, none, .mv (.s 9)⟩,
    ⟨some 28, none, .ia 7 (.s 26) (.s 27)⟩,
    ⟨some 29, none, .fa 0 (.s 28)⟩,
    ⟨some 30, none, .ld false 1 (.s 29)⟩,
    ⟨some 31, none, .bin .eql (.s 30) (.c (.t (.int .i64 2)))⟩] [] [1, 2, 3, 8, 9, 10, 31]) c73_13) c73_4)
def c73_15 : ACode :=
  (.seq (.region false [⟨some 21, none, .mv (.s 1)⟩,
    ⟨some 22, none, .mv (.s 9)⟩,
    ⟨some 23, none, .ia 7 (.s 21) (.s 22)⟩,
    ⟨some 24, none, .fa 6 (.s 23)⟩,
    ⟨some 25, none, .ld false 1 (.s 24)⟩,
    ⟨some 10, none, .mv (.s 25)⟩] [] [1, 2, 3, 8, 9, 10]) c73_14)
def c73_16 : ACode :=
  (.seq (.block 1 c73_15) c73_1)
def c73_17 : ACode :=
  (.cond (.s 18) .skip (.exit 0))
def c73_18 : ACode :=
  (.seq (.seq (.region false [⟨some 15, none, .mv (.s 9)⟩,
    ⟨some 16, none, .mv (.s 1)⟩,
    ⟨some 17, none, .len (.s 16)⟩,
    ⟨some 18, none, .bin .lss (.s 15) (.s 17)⟩] [] [1, 2, 3, 8, 9, 18]) c73_17) c73_16)
def c73_19 : ACode :=
  (.loop c73_18)
def c73_20 : ACode :=
  (.block 0 c73_19)
def c73_21 : ACode :=
  (.seq (.seq (.region false [⟨some 9, none, .cst (.t (.int .i64 0))⟩] [] [1, 2, 3, 8, 9]) c73_20) c73_0)
def c73_22 : ACode :=
  (.seq (.region false [⟨some 8, none, .cst (.t (.bool true))⟩] [] [1, 2, 3, 8]) c73_21)
def c73 : ACode :=
  (.seq (.region false [⟨some 3, none, .box 2 (.s 0)⟩,
    ⟨some 6, none, .cst (.nils)⟩,
    ⟨some 7, none, .cst (.t (.bool false))⟩] [] [1, 2, 3]) c73_22)
def r73 : List ARes := [.tmp 6, .tmp 7]
def n73 : Nat := 73
/- 74 supergraph supergraphref13.circular -/
def c74_0 : ACode :=
  (.seq (.region false [⟨some 14, none, .mv (.s 5)⟩,
    ⟨some 15, none, .fa 0 (.s 3)⟩,
    ⟨some 16, none, .ld false 1 (.s 15)⟩,
    ⟨some 17, none, .call 127 [(.s 14), (.s 16)]⟩,
    ⟨some 4, none, .mv (.s 17)⟩] [] [4]) .ret)
def c74_1 : ACode :=
  (.seq (.region false [⟨some 8, none, .ld true 2 (.s 2)⟩,
    ⟨some 9, none, .fa 2 (.s 3)⟩,
    ⟨some 10, none, .ld false 1 (.s 9)⟩,
    ⟨some 11, none, .call 73 [(.s 8), (.s 10), (.c (.nils))]⟩,
    ⟨some 7, none, .mv (.s 11)⟩,
    ⟨some 12, none, .ext (.s 7) 0⟩,
    ⟨some 13, none, .ext (.s 7) 1⟩,
    ⟨some 5, none, .mv (.s 12)⟩,
    ⟨some 6, none, .mv (.s 13)⟩] [] [3, 5]) c74_0)
def c74 : ACode :=
  (.seq (.region false [⟨some 2, none, .box 2 (.s 0)⟩,
    ⟨some 3, none, .box 3 (.s 1)⟩,
    ⟨some 4, none, .cst (.t (.bool false))⟩] [] [2, 3]) c74_1)
def r74 : List ARes := [.tmp 4]
def n74 : Nat := 18
/- 75 supergraph supergraphref08.Right -/
def c75_0 : ACode :=
  (.seq (.region false [⟨some 2, none, .cst (.t (.bool true))⟩] [] [2]) .ret)
def c75_1 : ACode :=
  (.region false [⟨some 69, none, .mv (.s 6)⟩,
    ⟨some 70, none, .bin .add (.s 69) (.c (.t (.int .i64 1)))⟩,
    ⟨some 6, none, .mv (.s 70)⟩] [] [1, 6])
def c75_2 : ACode :=
  (.seq (.region false [⟨some 2, none, .cst (.t (.bool false))⟩] [] [2]) .ret)
def c75_3 : ACode :=
  (.cond (.s 91) c75_2 .skip)
def c75_4 : ACode :=
  (.seq (.region false [⟨some 76, none, .fa 0 (.s 7)⟩,
    ⟨some 77, none, .ld false 1 (.s 76)⟩,
    ⟨some 78, none, .call 130 [(.s 77)]⟩,
    ⟨some 79, none, .un .not (.s 78)⟩,
    ⟨some 80, none, .mv (.s 79)⟩,
    ⟨some 81, some (80, false), .fa 1 (.s 7)⟩,
    ⟨some 82, some (80, false), .ld false 1 (.s 81)⟩,
    ⟨some 83, some (80, false), .call 94 [(.s 82)]⟩,
    ⟨some 84, some (80, false), .un .not (.s 83)⟩,
    ⟨some 85, none, .pick (.s 80) (.c (.t (.bool true))) (.s 84)⟩,
    ⟨some 86, none, .mv (.s 85)⟩,
    ⟨some 87, some (86, false), .fa 2 (.s 7)⟩,
    ⟨some 88, some (86, false), .ld false 1 (.s 87)⟩,
    ⟨some 89, some (86, false), .call 129 [(.s 88), (.c (.t (.int .i64 1)))]⟩,
    ⟨some 90, some (86, false), .un .not (.s 89)⟩,
    ⟨some 91, none, .pick (.s 86) (.c (.t (.bool true))) (.s 90)⟩] [] [1, 6, 91]) c75_3)
def c75_5 : ACode :=
  (.seq (.region false [⟨some 71, none, .fa 1 (.s 1)⟩,
    ⟨some 72, none, .ld false 1 (.s 71)⟩,
    ⟨some 73, none, .mv (.s 6)⟩,
    ⟨some 74, none, .ia 3 (.s 72) (.s 73)⟩,
    ⟨some 75, none, .ld true 3 (.s 74)⟩,
    ⟨some 7, none, .alloc [.t (.str []), .t (.str []), .nils]⟩,
    ⟨none, none, .st 3 (.s 7) (.s 75)⟩] [] [1, 6, 7]) c75_4)
def c75_6 : ACode :=
  (.seq (.block 3 c75_5) c75_1)
def c75_7 : ACode :=
  (.cond (.s 68) .skip (.exit 2))
def c75_8 : ACode :=
  (.seq (.seq (.region false [⟨some 64, none, .mv (.s 6)⟩,
    ⟨some 65, none, .fa 1 (.s 1)⟩,
    ⟨some 66, none, .ld false 1 (.s 65)⟩,
    ⟨some 67, none, .len (.s 66)⟩,
    ⟨some 68, none, .bin .lss (.s 64) (.s 67)⟩] [] [1, 6, 68]) c75_7) c75_6)
def c75_9 : ACode :=
  (.loop c75_8)
def c75_10 : ACode :=
  (.block 2 c75_9)
def c75_11 : ACode :=
  (.seq (.seq (.region false [⟨some 6, none, .cst (.t (.int .i64 0))⟩] [] [1, 6]) c75_10) c75_0)
def c75_12 : ACode :=
  (.region false [⟨some 26, none, .mv (.s 4)⟩,
    ⟨some 27, none, .bin .add (.s 26) (.c (.t (.int .i64 1)))⟩,
    ⟨some 4, none, .mv (.s 27)⟩] [] [1, 4])
def c75_13 : ACode :=
  (.seq (.region false [⟨some 2, none, .cst (.t (.bool false))⟩] [] [2]) .ret)
def c75_14 : ACode :=
  (.cond (.s 63) c75_13 .skip)
def c75_15 : ACode :=
  (.seq (.region false [⟨some 33, none, .fa 0 (.s 5)⟩,
    ⟨some 34, none, .ld false 1 (.s 33)⟩,
    ⟨some 35, none, .bin .lss (.s 34) (.c (.t (.int .i64 1)))⟩,
    ⟨some 36, none, .mv (.s 35)⟩,
    ⟨some 37, some (36, false), .fa 0 (.s 5)⟩,
    ⟨some 38, some (36, false), .ld false 1 (.s 37)⟩,
    ⟨some 39, some (36, false), .bin .gtr (.s 38) (.c (.t (.int .i64 3)))⟩,
    ⟨some 40, none, .pick (.s 36) (.c (.t (.bool true))) (.s 39)⟩,
    ⟨some 41, none, .mv (.s 40)⟩,
    ⟨some 42, some (41, false), .fa 1 (.s 5)⟩,
    ⟨some 43, some (41, false), .ld false 1 (.s 42)⟩,
    ⟨some 44, some (41, false), .bin .neq (.s 43) (.c (.t (.str [])))⟩,
    ⟨some 45, some (41, false), .mv (.s 44)⟩,
    ⟨some 46, some (45, true), .fa 1 (.s 5)⟩,
    ⟨some 47, some (45, true), .ld false 1 (.s 46)⟩,
    ⟨some 48, some (45, true), .call 94 [(.s 47)]⟩,
    ⟨some 49, some (45, true), .un .not (.s 48)⟩,
    ⟨some 50, some (41, false), .pick (.s 45) (.s 49) (.c (.t (.bool false)))⟩,
    ⟨some 51, none, .pick (.s 41) (.c (.t (.bool true))) (.s 50)⟩,
    ⟨some 52, none, .mv (.s 51)⟩,
    ⟨some 53, some (52, false), .fa 2 (.s 5)⟩,
    ⟨some 54, some (52, false), .ld false 1 (.s 53)⟩,
    ⟨some 55, some (52, false), .call 128 [(.s 54)]⟩,
    ⟨some 56, some (52, false), .un .not (.s 55)⟩,
    ⟨some 57, none, .pick (.s 52) (.c (.t (.bool true))) (.s 56)⟩,
    ⟨some 58, none, .mv (.s 57)⟩,
    ⟨some 59, some (58, false), .fa 3 (.s 5)⟩,
    ⟨some 60, some (58, false), .ld false 1 (.s 59)⟩,
    ⟨some 61, some (58, false), .call 129 [(.s 60), (.c (.t (.int .i64 1)))]⟩,
    ⟨some 62, some (58, false), .un .not (.s 61)⟩,
    ⟨some 63, none, .pick (.s 58) (.c (.t (.bool true))) (.s 62)⟩] [] [1, 4, 63]) c75_14)
def c75_16 : ACode :=
  (.seq (.region false [⟨some 28, none, .fa 0 (.s 1)⟩,
    ⟨some 29, none, .ld false 1 (.s 28)⟩,
    ⟨some 30, none, .mv (.s 4)⟩,
    ⟨some 31, none, .ia 4 (.s 29) (.s 30)⟩,
    ⟨some 32, none, .ld true 4 (.s 31)⟩,
    ⟨some 5, none, .alloc [.t (.int .i64 0), .t (.str []), .nils, .nils]⟩,
    ⟨none, none, .st 4 (.s 5) (.s 32)⟩] [] [1, 4, 5]) c75_15)
def c75_17 : ACode :=
  (.seq (.block 1 c75_16) c75_12)
def c75_18 : ACode :=
  (.cond (.s 25) .skip (.exit 0))
def c75_19 : ACode :=
  (.seq (.seq (.region false [⟨some 21, none, .mv (.s 4)⟩,
    ⟨some 22, none, .fa 0 (.s 1)⟩,
    ⟨some 23, none, .ld false 1 (.s 22)⟩,
    ⟨some 24, none, .len (.s 23)⟩,
    ⟨some 25, none, .bin .lss (.s 21) (.s 24)⟩] [] [1, 4, 25]) c75_18) c75_17)
def c75_20 : ACode :=
  (.loop c75_19)
def c75_21 : ACode :=
  (.block 0 c75_20)
def c75_22 : ACode :=
  (.seq (.seq (.region false [⟨some 4, none, .cst (.t (.int .i64 0))⟩] [] [1, 4]) c75_21) c75_11)
def c75_23 : ACode :=
  (.seq (.region false [⟨some 2, none, .cst (.t (.bool false))⟩] [] [2]) .ret)
def c75_24 : ACode :=
  (.cond (.s 20) c75_23 .skip)
def c75_25 : ACode :=
  (.seq (.seq (.region false [⟨some 15, none, .mv (.s 3)⟩,
    ⟨some 16, none, .bin .lss (.s 15) (.c (.t (.int .i64 1)))⟩,
    ⟨some 17, none, .mv (.s 16)⟩,
    ⟨some 18, some (17, false), .mv (.s 3)⟩,
    ⟨some 19, some (17, false), .bin .gtr (.s 18) (.c (.t (.int .i64 64)))⟩,
    ⟨some 20, none, .pick (.s 17) (.c (.t (.bool true))) (.s 19)⟩] [] [1, 20]) c75_24) c75_22)
def c75_26 : ACode :=
  (.seq (.region false [⟨some 8, none, .fa 0 (.s 1)⟩,
    ⟨some 9, none, .ld false 1 (.s 8)⟩,
    ⟨some 10, none, .len (.s 9)⟩,
    ⟨some 11, none, .fa 1 (.s 1)⟩,
    ⟨some 12, none, .ld false 1 (.s 11)⟩,
    ⟨some 13, none, .len (.s 12)⟩,
    ⟨some 14, none, .bin .add (.s 10) (.s 13)⟩,
    ⟨some 3, none, .mv (.s 14)⟩] [] [1, 3]) c75_25)
def c75 : ACode :=
  (.seq (.region false [⟨some 1, none, .box 2 (.s 0)⟩,
    ⟨some 2, none, .cst (.t (.bool false))⟩] [] [1]) c75_26)
def r75 : List ARes := [.tmp 2]
def n75 : Nat := 92
/- 76 supergraph supergraphref11.Faces -/
def c76_0 : ACode :=
  (.seq (.region false [⟨some 40, none, .mv (.s 3)⟩,
    ⟨some 2, none, .mv (.s 40)⟩] [] [2]) .ret)
def c76_1 : ACode :=
  (.region false [⟨some 10, none, .mv (.s 4)⟩,
    ⟨some 11, none, .bin .add (.s 10) (.c (.t (.int .i64 1)))⟩,
    ⟨some 4, none, .mv (.s 11)⟩] [] [1, 3, 4])
def c76_2 : ACode :=
  (.region true [⟨some 20, none, .mv (.s 3)⟩,
    ⟨some 21, none, .ld true 1 (.s 1)⟩,
    ⟨some 22, none, .fa 0 (.s 1)⟩,
    ⟨some 23, none, .ld false 1 (.s 22)⟩,
    ⟨some 24, none, .mv (.s 4)⟩,
    ⟨some 25, none, .ia 7 (.s 23) (.s 24)⟩,
    ⟨some 26, none, .ld true 7 (.s 25)⟩,
    ⟨some 27, none, .call 131 [(.s 21), (.s 26)]⟩,
    ⟨some 28, none, .app 2 24 (.s 20) (.s 27)⟩,
    ⟨some 3, none, .mv (.s 28)⟩] [[], [], [], [2], [], [3, 4], [5], [1, 6], [0, 7, 7], [8, 8, 0, 1, 2, 3, 4, 5, 6, 7, 8]] [1, 3, 4])
def c76_3 : ACode :=
  (.region true [⟨some 31, none, .mv (.s 3)⟩,
    ⟨some 32, none, .ld true 1 (.s 1)⟩,
    ⟨some 33, none, .fa 0 (.s 1)⟩,
    ⟨some 34, none, .ld false 1 (.s 33)⟩,
    ⟨some 35, none, .mv (.s 4)⟩,
    ⟨some 36, none, .ia 7 (.s 34) (.s 35)⟩,
    ⟨some 37, none, .ld true 7 (.s 36)⟩,
    ⟨some 38, none, .call 132 [(.s 32), (.s 37)]⟩,
    ⟨some 39, none, .app 2 24 (.s 31) (.s 38)⟩,
    ⟨some 3, none, .mv (.s 39)⟩] [[], [], [], [2], [], [3, 4], [5], [1, 6], [0, 7, 7], [8, 8, 0, 1, 2, 3, 4, 5, 6, 7, 8]] [1, 3, 4])
def c76_4 : ACode :=
  (.cond (.s 29) c76_3 .skip)
def c76_5 : ACode :=
  (.seq (.region false [⟨some 30, none, .bin .eql (.s 17) (.c (.t (.int .i64 3)))⟩,
    ⟨some 29, none, .mv (.s 30)⟩] [] [1, 3, 4, 29]) c76_4)
def c76_6 : ACode :=
  (.cond (.s 18) c76_2 c76_5)
def c76_7 : ACode :=
  (.seq (.region false [⟨some 19, none, .bin .eql (.s 17) (.c (.t (.int .i64 1)))⟩,
    ⟨some 18, none, .mv (.s 19)⟩] [] [1, 3, 4, 17, 18]) c76_6)
def c76_8 : ACode :=
  (.block 2 c76_7)
def c76_9 : ACode :=
  (.seq (.region false [⟨some 12, none, .fa 0 (.s 1)⟩,
    ⟨some 13, none, .ld false 1 (.s 12)⟩,
    ⟨some 14, none, .mv (.s 4)⟩,
    ⟨some 15, none, .ia 7 (.s 13) (.s 14)⟩,
    ⟨some 16, none, .fa 0 (.s 15)⟩,
    ⟨some 17, none, .ld false 1 (.s 16)⟩] [] [1, 3, 4, 17]) c76_8)
def c76_10 : ACode :=
  (.seq (.block 1 c76_9) c76_1)
def c76_11 : ACode :=
  (.cond (.s 9) .skip (.exit 0))
def c76_12 : ACode :=
  (.seq (.seq (.region false [⟨some 5, none, .mv (.s 4)⟩,
    ⟨some 6, none, .fa 0 (.s 1)⟩,
    ⟨some 7, none, .ld false 1 (.s 6)⟩,
    ⟨some 8, none, .len (.s 7)⟩,
    ⟨some 9, none, .bin .lss (.s 5) (.s 8)⟩] [] [1, 3, 4, 9]) c76_11) c76_10)
def c76_13 : ACode :=
  (.loop c76_12)
def c76_14 : ACode :=
  (.block 0 c76_13)
def c76_15 : ACode :=
  (.seq (.seq (.region false [⟨some 4, none, .cst (.t (.int .i64 0))⟩] [] [1, 3, 4]) c76_14) c76_0)
def c76_16 : ACode :=
  (.seq (.region false [⟨some 3, none, .cst (.nils)⟩] [] [1, 3]) c76_15)
def c76 : ACode :=
  (.seq (.region false [⟨some 1, none, .box 1 (.s 0)⟩,
    ⟨some 2, none, .cst (.nils)⟩] [] [1]) c76_16)
def r76 : List ARes := [.tmp 2]
def n76 : Nat := 41
/- 77 (*supergraph fragment.checker).sels -/
def c77_0 : ACode :=
  (.region false [⟨some 146, none, .bin .add (.s 22) (.c (.t (.int .i64 1)))⟩,
    ⟨some 22, none, .mv (.s 146)⟩] [] [0, 2, 3, 20, 21, 22])
def c77_1 : ACode :=
  (.region true [⟨some 89, none, .mv (.s 0)⟩,
    ⟨some 90, none, .mv (.s 11)⟩,
    ⟨some 91, none, .mv (.s 90)⟩,
    ⟨some 92, some (91, true), .mv (.s 0)⟩,
    ⟨some 93, some (91, true), .nilck (.s 92)⟩,
    ⟨some 94, some (91, true), .fa 0 (.s 93)⟩,
    ⟨some 95, some (91, true), .ld true 1 (.s 94)⟩,
    ⟨some 96, some (91, true), .fa 1 (.s 10)⟩,
    ⟨some 97, some (91, true), .ld false 1 (.s 96)⟩,
    ⟨some 98, some (91, true), .call 80 [(.s 95), (.s 97)]⟩,
    ⟨some 99, none, .pick (.s 91) (.s 98) (.c (.t (.bool false)))⟩,
    ⟨some 100, none, .mv (.s 99)⟩,
    ⟨some 101, some (100, true), .mv (.s 0)⟩,
    ⟨some 102, some (100, true), .mv (.s 2)⟩,
    ⟨some 103, some (100, true), .fa 1 (.s 10)⟩,
    ⟨some 104, some (100, true), .ld false 1 (.s 103)⟩,
    ⟨some 105, some (100, true), .call 133 [(.s 101), (.s 102), (.s 104)]⟩,
    ⟨some 106, none, .pick (.s 100) (.s 105) (.c (.t (.bool false)))⟩,
    ⟨some 107, none, .mv (.s 3)⟩,
    ⟨some 108, none, .call 79 [(.s 89), (.s 106), (.c (.t (.int .i64 25))), (.s 107)]⟩] [[], [], [1], [2], [3, 2], [4, 2], [5, 2], [2], [7, 2], [6, 8, 2, 2], [2, 9], [10, 9], [11], [11], [11], [14, 11], [12, 13, 15, 11, 11], [11, 16], [], [0, 17, 18, 16]] [0, 2, 3, 20, 21, 22])
def c77_2 : ACode :=
  (.seq (.region false [⟨some 84, none, .mv (.s 0)⟩,
    ⟨some 85, none, .mv (.s 11)⟩,
    ⟨some 86, none, .un .not (.s 85)⟩,
    ⟨some 87, none, .mv (.s 3)⟩,
    ⟨some 88, none, .call 79 [(.s 84), (.s 86), (.c (.t (.int .i64 24))), (.s 87)]⟩] [] [0, 2, 3, 10, 11, 20, 21, 22]) c77_1)
def c77_3 : ACode :=
  (.seq (.region true [⟨some 75, none, .mv (.s 0)⟩,
    ⟨some 76, none, .nilck (.s 75)⟩,
    ⟨some 77, none, .fa 1 (.s 76)⟩,
    ⟨some 78, none, .ld true 2 (.s 77)⟩,
    ⟨some 79, none, .fa 2 (.s 9)⟩,
    ⟨some 80, none, .ld false 1 (.s 79)⟩,
    ⟨some 81, none, .call 37 [(.s 78), (.s 80)]⟩,
    ⟨some 74, none, .mv (.s 81)⟩,
    ⟨some 82, none, .ext (.s 74) 0⟩,
    ⟨some 83, none, .ext (.s 74) 1⟩,
    ⟨some 10, none, .alloc [.t (.str []), .t (.str []), .nils]⟩,
    ⟨none, none, .st 3 (.s 10) (.s 82)⟩,
    ⟨some 11, none, .mv (.s 83)⟩] [[], [0], [1], [2], [], [4], [3, 5], [6], [7], [7], [], [10, 8, 6, 0, 1, 2, 3, 4, 5, 6, 7, 8, 10], [9, 11, 0, 1, 2, 3, 4, 5, 6, 7, 8, 9, 10, 11]] [0, 2, 3, 10, 11, 20, 21, 22]) c77_2)
def c77_4 : ACode :=
  (.region false [⟨some 140, none, .mv (.s 0)⟩,
    ⟨some 141, none, .fa 6 (.s 9)⟩,
    ⟨some 142, none, .ld false 1 (.s 141)⟩,
    ⟨some 143, none, .mv (.s 12)⟩,
    ⟨some 144, none, .mv (.s 3)⟩,
    ⟨some 145, none, .call 77 [(.s 140), (.s 142), (.s 143), (.s 144)]⟩] [] [0, 2, 3, 20, 21, 22])
def c77_5 : ACode :=
  (.region false [⟨some 129, none, .mv (.s 0)⟩,
    ⟨some 130, none, .mv (.s 13)⟩,
    ⟨some 131, none, .mv (.s 130)⟩,
    ⟨some 132, some (131, true), .mv (.s 0)⟩,
    ⟨some 133, some (131, true), .mv (.s 2)⟩,
    ⟨some 134, some (131, true), .fa 3 (.s 9)⟩,
    ⟨some 135, some (131, true), .ld false 1 (.s 134)⟩,
    ⟨some 136, some (131, true), .call 133 [(.s 132), (.s 133), (.s 135)]⟩,
    ⟨some 137, none, .pick (.s 131) (.s 136) (.c (.t (.bool false)))⟩,
    ⟨some 138, none, .mv (.s 3)⟩,
    ⟨some 139, none, .call 79 [(.s 129), (.s 137), (.c (.t (.int .i64 25))), (.s 138)]⟩] [] [0, 2, 3, 9, 12, 20, 21, 22])
def c77_6 : ACode :=
  (.seq (.region false [⟨some 124, none, .mv (.s 0)⟩,
    ⟨some 125, none, .mv (.s 13)⟩,
    ⟨some 126, none, .un .not (.s 125)⟩,
    ⟨some 127, none, .mv (.s 3)⟩,
    ⟨some 128, none, .call 79 [(.s 124), (.s 126), (.c (.t (.int .i64 24))), (.s 127)]⟩] [] [0, 2, 3, 9, 12, 13, 20, 21, 22]) c77_5)
def c77_7 : ACode :=
  (.seq (.region true [⟨some 117, none, .mv (.s 0)⟩,
    ⟨some 118, none, .nilck (.s 117)⟩,
    ⟨some 119, none, .fa 0 (.s 118)⟩,
    ⟨some 120, none, .ld true 1 (.s 119)⟩,
    ⟨some 121, none, .fa 3 (.s 9)⟩,
    ⟨some 122, none, .ld false 1 (.s 121)⟩,
    ⟨some 123, none, .call 80 [(.s 120), (.s 122)]⟩,
    ⟨some 13, none, .mv (.s 123)⟩] [[], [0], [1], [2], [], [4], [3, 5], [6, 6, 0, 1, 2, 3, 4, 5, 6]] [0, 2, 3, 9, 12, 13, 20, 21, 22]) c77_6)
def c77_8 : ACode :=
  (.seq (.region false [⟨some 115, none, .fa 3 (.s 9)⟩,
    ⟨some 116, none, .ld false 1 (.s 115)⟩,
    ⟨some 12, none, .mv (.s 116)⟩] [] [0, 2, 3, 9, 12, 20, 21, 22]) c77_7)
def c77_9 : ACode :=
  (.cond (.s 114) c77_8 .skip)
def c77_10 : ACode :=
  (.seq (.seq (.region false [⟨some 112, none, .fa 3 (.s 9)⟩,
    ⟨some 113, none, .ld false 1 (.s 112)⟩,
    ⟨some 114, none, .bin .neq (.s 113) (.c (.t (.str [])))⟩] [] [0, 2, 3, 9, 12, 20, 21, 22, 114]) c77_9) c77_4)
def c77_11 : ACode :=
  (.seq (.region false [⟨some 111, none, .mv (.s 2)⟩,
    ⟨some 12, none, .mv (.s 111)⟩] [] [0, 2, 3, 9, 12, 20, 21, 22]) c77_10)
def c77_12 : ACode :=
  (.region false [⟨some 63, none, .mv (.s 0)⟩,
    ⟨some 64, none, .fa 6 (.s 9)⟩,
    ⟨some 65, none, .ld false 1 (.s 64)⟩,
    ⟨some 66, none, .mv (.s 15)⟩,
    ⟨some 67, none, .mv (.s 3)⟩,
    ⟨some 68, none, .bin .add (.s 67) (.c (.t (.str [47])))⟩,
    ⟨some 69, none, .mv (.s 14)⟩,
    ⟨some 70, none, .bin .add (.s 68) (.s 69)⟩,
    ⟨some 71, none, .call 77 [(.s 63), (.s 65), (.s 66), (.s 70)]⟩] [] [0, 2, 3, 20, 21, 22])
def c77_13 : ACode :=
  (.region false [⟨some 60, none, .fa 2 (.s 18)⟩,
    ⟨some 61, none, .fa 0 (.s 60)⟩,
    ⟨some 62, none, .ld false 1 (.s 61)⟩,
    ⟨some 15, none, .mv (.s 62)⟩] [] [0, 2, 3, 9, 14, 15, 20, 21, 22])
def c77_14 : ACode :=
  (.cond (.s 59) c77_13 .skip)
def c77_15 : ACode :=
  (.seq (.region false [⟨some 59, none, .mv (.s 19)⟩] [] [0, 2, 3, 9, 14, 15, 18, 20, 21, 22, 59]) c77_14)
def c77_16 : ACode :=
  (.seq (.region false [⟨some 53, none, .ld true 7 (.s 16)⟩,
    ⟨some 54, none, .fa 2 (.s 9)⟩,
    ⟨some 55, none, .ld false 1 (.s 54)⟩,
    ⟨some 56, none, .call 134 [(.s 53), (.s 55)]⟩,
    ⟨some 52, none, .mv (.s 56)⟩,
    ⟨some 57, none, .ext (.s 52) 0⟩,
    ⟨some 58, none, .ext (.s 52) 1⟩,
    ⟨some 18, none, .alloc [.t (.str []), .nils, .t (.str []), .nils, .nils]⟩,
    ⟨none, none, .st 5 (.s 18) (.s 57)⟩,
    ⟨some 19, none, .mv (.s 58)⟩] [] [0, 2, 3, 9, 14, 15, 18, 19, 20, 21, 22]) c77_15)
def c77_17 : ACode :=
  (.cond (.s 51) c77_16 .skip)
def c77_18 : ACode :=
  (.seq (.region false [⟨some 43, none, .mv (.s 17)⟩,
    ⟨some 44, none, .mv (.s 43)⟩,
    ⟨some 45, some (44, true), .mv (.s 0)⟩,
    ⟨some 46, some (44, true), .nilck (.s 45)⟩,
    ⟨some 47, some (44, true), .fa 0 (.s 46)⟩,
    ⟨some 48, some (44, true), .ld true 1 (.s 47)⟩,
    ⟨some 49, some (44, true), .mv (.s 2)⟩,
    ⟨some 50, some (44, true), .call 80 [(.s 48), (.s 49)]⟩,
    ⟨some 51, none, .pick (.s 44) (.s 50) (.c (.t (.bool false)))⟩] [] [0, 2, 3, 9, 14, 15, 16, 20, 21, 22, 51]) c77_17)
def c77_19 : ACode :=
  (.seq (.seq (.region false [⟨some 35, none, .mv (.s 0)⟩,
    ⟨some 36, none, .nilck (.s 35)⟩,
    ⟨some 37, none, .fa 0 (.s 36)⟩,
    ⟨some 38, none, .ld true 1 (.s 37)⟩,
    ⟨some 39, none, .mv (.s 2)⟩,
    ⟨some 40, none, .call 87 [(.s 38), (.s 39)]⟩,
    ⟨some 34, none, .mv (.s 40)⟩,
    ⟨some 41, none, .ext (.s 34) 0⟩,
    ⟨some 42, none, .ext (.s 34) 1⟩,
    ⟨some 16, none, .alloc [.t (.int .i64 0), .t (.str []), .nils, .nils, .nils, .nils, .nils]⟩,
    ⟨none, none, .st 7 (.s 16) (.s 41)⟩,
    ⟨some 17, none, .mv (.s 42)⟩] [] [0, 2, 3, 9, 14, 15, 16, 17, 20, 21, 22]) c77_18) c77_12)
def c77_20 : ACode :=
  (.region false [⟨some 32, none, .fa 2 (.s 9)⟩,
    ⟨some 33, none, .ld false 1 (.s 32)⟩,
    ⟨some 14, none, .mv (.s 33)⟩] [] [0, 2, 3, 9, 14, 15, 20, 21, 22])
def c77_21 : ACode :=
  (.cond (.s 31) c77_20 .skip)
def c77_22 : ACode :=
  (.seq (.seq (.region false [⟨some 30, none, .mv (.s 14)⟩,
    ⟨some 31, none, .bin .eql (.s 30) (.c (.t (.str [])))⟩] [] [0, 2, 3, 9, 14, 15, 20, 21, 22, 31]) c77_21) c77_19)
def c77_23 : ACode :=
  (.seq (.region false [⟨some 28, none, .fa 1 (.s 9)⟩,
    ⟨some 29, none, .ld false 1 (.s 28)⟩,
    ⟨some 14, none, .mv (.s 29)⟩,
    ⟨some 15, none, .cst (.t (.str []))⟩] [] [0, 2, 3, 9, 14, 15, 20, 21, 22]) c77_22)
def c77_24 : ACode :=
  (.cond (.s 109) c77_11 c77_23)
def c77_25 : ACode :=
  (.seq (.region false [⟨some 110, none, .bin .eql (.s 27) (.c (.t (.int .i64 3)))⟩,
    ⟨some 109, none, .mv (.s 110)⟩] [] [0, 2, 3, 9, 20, 21, 22, 109]) c77_24)
def c77_26 : ACode :=
  (.cond (.s 72) c77_3 c77_25)
def c77_27 : ACode :=
  (.seq (.region false [⟨some 73, none, .bin .eql (.s 27) (.c (.t (.int .i64 2)))⟩,
    ⟨some 72, none, .mv (.s 73)⟩] [] [0, 2, 3, 9, 20, 21, 22, 27, 72]) c77_26)
def c77_28 : ACode :=
  (.block 2 c77_27)
def c77_29 : ACode :=
  (.seq (.region false [⟨some 26, none, .fa 0 (.s 9)⟩,
    ⟨some 27, none, .ld false 1 (.s 26)⟩] [] [0, 2, 3, 9, 20, 21, 22, 27]) c77_28)
def c77_30 : ACode :=
  (.seq (.region false [⟨some 24, none, .ia 7 (.s 20) (.s 22)⟩,
    ⟨some 25, none, .ld true 7 (.s 24)⟩,
    ⟨some 9, none, .alloc [.t (.int .i64 0), .t (.str []), .t (.str []), .t (.str []), .nils, .nils, .nils]⟩,
    ⟨none, none, .st 7 (.s 9) (.s 25)⟩] [] [0, 2, 3, 9, 20, 21, 22]) c77_29)
def c77_31 : ACode :=
  (.seq (.block 1 c77_30) c77_0)
def c77_32 : ACode :=
  (.seq (.cond (.s 23) .skip (.exit 0)) c77_31)
def c77_33 : ACode :=
  (.seq (.region false [⟨some 23, none, .bin .lss (.s 22) (.s 21)⟩] [] [0, 2, 3, 20, 21, 22, 23]) c77_32)
def c77_34 : ACode :=
  (.loop c77_33)
def c77_35 : ACode :=
  (.block 0 c77_34)
def c77 : ACode :=
  (.seq (.region false [⟨some 20, none, .mv (.s 1)⟩,
    ⟨some 21, none, .len (.s 20)⟩,
    ⟨some 22, none, .cst (.t (.int .i64 0))⟩] [] [0, 2, 3, 20, 21, 22]) c77_35)
def r77 : List ARes := []
def n77 : Nat := 147
/- 78 supergraph schema.Root -/
def c78_0 : ACode :=
  (.seq (.region false [⟨some 2, none, .cst (.t (.str []))⟩] [] [2]) .ret)
def c78_1 : ACode :=
  (.seq (.region false [⟨some 2, none, .cst (.t (.str [81, 117, 101, 114, 121]))⟩] [] [2]) .ret)
def c78_2 : ACode :=
  (.seq (.region false [⟨some 2, none, .cst (.t (.str [77, 117, 116, 97, 116, 105, 111, 110]))⟩] [] [2]) .ret)
def c78_3 : ACode :=
  (.seq (.region false [⟨some 2, none, .cst (.t (.str [83, 117, 98, 115, 99, 114, 105, 112, 116, 105, 111, 110]))⟩] [] [2]) .ret)
def c78_4 : ACode :=
  (.cond (.s 8) c78_3 .skip)
def c78_5 : ACode :=
  (.seq (.region false [⟨some 9, none, .bin .eql (.s 3) (.c (.t (.int .i64 3)))⟩,
    ⟨some 8, none, .mv (.s 9)⟩] [] [8]) c78_4)
def c78_6 : ACode :=
  (.cond (.s 6) c78_2 c78_5)
def c78_7 : ACode :=
  (.seq (.region false [⟨some 7, none, .bin .eql (.s 3) (.c (.t (.int .i64 2)))⟩,
    ⟨some 6, none, .mv (.s 7)⟩] [] [3, 6]) c78_6)
def c78_8 : ACode :=
  (.cond (.s 4) c78_1 c78_7)
def c78_9 : ACode :=
  (.seq (.region false [⟨some 5, none, .bin .eql (.s 3) (.c (.t (.int .i64 1)))⟩,
    ⟨some 4, none, .mv (.s 5)⟩] [] [3, 4]) c78_8)
def c78_10 : ACode :=
  (.block 0 c78_9)
def c78_11 : ACode :=
  (.seq (.seq (.region false [⟨some 3, none, .mv (.s 0)⟩] [] [3]) c78_10) c78_0)
def c78 : ACode :=
  (.seq (.region false [⟨some 2, none, .cst (.t (.str []))⟩] [] [0]) c78_11)
def r78 : List ARes := [.tmp 2]
def n78 : Nat := 10
/- 79 (*supergraph fragment.checker).add -/
def c79_0 : ACode :=
  (.region false [⟨some 9, none, .mv (.s 0)⟩,
    ⟨some 10, none, .mv (.s 0)⟩,
    ⟨some 11, none, .nilck (.s 10)⟩,
    ⟨some 12, none, .fa 3 (.s 11)⟩,
    ⟨some 13, none, .ld false 1 (.s 12)⟩,
    ⟨some 14, none, .mv (.s 2)⟩,
    ⟨some 15, none, .mv (.s 3)⟩,
    ⟨some 16, none, .build [.t (.int .i64 0), .t (.str [])] [(0, 1, (.s 14)), (1, 1, (.s 15))]⟩,
    ⟨some 17, none, .bsl false 2 [[.int .i64 0, .str []]] [(0, (.s 16))]⟩,
    ⟨some 18, none, .app 2 24 (.s 13) (.s 17)⟩,
    ⟨some 19, none, .nilck (.s 9)⟩,
    ⟨some 20, none, .fa 3 (.s 19)⟩,
    ⟨none, none, .st 1 (.s 20) (.s 18)⟩] [] [])
def c79_1 : ACode :=
  (.cond (.s 8) c79_0 .skip)
def c79 : ACode :=
  (.seq (.region false [⟨some 8, none, .mv (.s 1)⟩] [] [0, 2, 3, 8]) c79_1)
def r79 : List ARes := []
def n79 : Nat := 21
/- 80 supergraph schema.Composite -/
def c80_0 : ACode :=
  (.seq (.region false [⟨some 9, none, .mv (.s 1)⟩,
    ⟨some 10, none, .call 136 [(.s 9)]⟩,
    ⟨some 11, none, .un .not (.s 10)⟩,
    ⟨some 12, none, .mv (.s 11)⟩,
    ⟨some 13, some (12, true), .mv (.s 5)⟩,
    ⟨some 14, some (12, true), .bin .eql (.s 13) (.c (.t (.int .i64 1)))⟩,
    ⟨some 15, some (12, true), .mv (.s 14)⟩,
    ⟨some 16, some (15, false), .mv (.s 5)⟩,
    ⟨some 17, some (15, false), .bin .eql (.s 16) (.c (.t (.int .i64 2)))⟩,
    ⟨some 18, some (12, true), .pick (.s 15) (.c (.t (.bool true))) (.s 17)⟩,
    ⟨some 19, some (12, true), .mv (.s 18)⟩,
    ⟨some 20, some (19, false), .mv (.s 5)⟩,
    ⟨some 21, some (19, false), .bin .eql (.s 20) (.c (.t (.int .i64 3)))⟩,
    ⟨some 22, some (12, true), .pick (.s 19) (.c (.t (.bool true))) (.s 21)⟩,
    ⟨some 23, none, .pick (.s 12) (.s 22) (.c (.t (.bool false)))⟩,
    ⟨some 4, none, .mv (.s 23)⟩] [] [4]) .ret)
def c80_1 : ACode :=
  (.seq (.region false [⟨some 6, none, .ld true 1 (.s 2)⟩,
    ⟨some 7, none, .mv (.s 1)⟩,
    ⟨some 8, none, .call 135 [(.s 6), (.s 7)]⟩,
    ⟨some 5, none, .mv (.s 8)⟩] [] [1, 5]) c80_0)
def c80 : ACode :=
  (.seq (.region false [⟨some 2, none, .box 1 (.s 0)⟩,
    ⟨some 4, none, .cst (.t (.bool false))⟩] [] [1, 2]) c80_1)
def r80 : List ARes := [.tmp 4]
def n80 : Nat := 24
/- 81 supergraph supergraphref13.sels -/
/- 82 supergraph supergraphref13.known -/
/- 83 supergraph supergraphref10.Root -/
/- 84 supergraph supergraphref13.used -/
/- 127 supergraph supergraphref13.has -/
def c127_0 : ACode :=
  (.seq (.region false [⟨some 4, none, .cst (.t (.bool false))⟩] [] [4]) .ret)
def c127_1 : ACode :=
  (.region false [⟨some 10, none, .mv (.s 5)⟩,
    ⟨some 11, none, .bin .add (.s 10) (.c (.t (.int .i64 1)))⟩,
    ⟨some 5, none, .mv (.s 11)⟩] [] [0, 1, 5])
def c127_2 : ACode :=
  (.seq (.region false [⟨some 4, none, .cst (.t (.bool true))⟩] [] [4]) .ret)
def c127_3 : ACode :=
  (.cond (.s 17) c127_2 .skip)
def c127_4 : ACode :=
  (.seq (.region false [⟨some 12, none, .mv (.s 0)⟩,
    ⟨some 13, none, .mv (.s 5)⟩,
    ⟨some 14, none, .ia 1 (.s 12) (.s 13)⟩,
    ⟨some 15, none, .ld false 1 (.s 14)⟩,
    ⟨some 16, none, .mv (.s 1)⟩,
    ⟨some 17, none, .bin .eql (.s 15) (.s 16)⟩] [] [0, 1, 5, 17]) c127_3)
def c127_5 : ACode :=
  (.seq (.block 1 c127_4) c127_1)
def c127_6 : ACode :=
  (.cond (.s 9) .skip (.exit 0))
def c127_7 : ACode :=
  (.seq (.seq (.region false [⟨some 6, none, .mv (.s 5)⟩,
    ⟨some 7, none, .mv (.s 0)⟩,
    ⟨some 8, none, .len (.s 7)⟩,
    ⟨some 9, none, .bin .lss (.s 6) (.s 8)⟩] [] [0, 1, 5, 9]) c127_6) c127_5)
def c127_8 : ACode :=
  (.loop c127_7)
def c127_9 : ACode :=
  (.block 0 c127_8)
def c127_10 : ACode :=
  (.seq (.seq (.region false [⟨some 5, none, .cst (.t (.int .i64 0))⟩] [] [0, 1, 5]) c127_9) c127_0)
def c127 : ACode :=
  (.seq (.region false [⟨some 4, none, .cst (.t (.bool false))⟩] [] [0, 1]) c127_10)
def r127 : List ARes := [.tmp 4]
def n127 : Nat := 18
/- 128 supergraph supergraphref08.varsRight -/
def c128_0 : ACode :=
  (.seq (.region false [⟨some 46, none, .mv (.s 0)⟩,
    ⟨some 47, none, .len (.s 46)⟩,
    ⟨some 48, none, .bin .leq (.s 47) (.c (.t (.int .i64 16)))⟩,
    ⟨some 2, none, .mv (.s 48)⟩] [] [2]) .ret)
def c128_1 : ACode :=
  (.region false [⟨some 9, none, .mv (.s 3)⟩,
    ⟨some 10, none, .bin .add (.s 9) (.c (.t (.int .i64 1)))⟩,
    ⟨some 3, none, .mv (.s 10)⟩] [] [0, 3])
def c128_2 : ACode :=
  (.seq (.region false [⟨some 2, none, .cst (.t (.bool false))⟩] [] [2]) .ret)
def c128_3 : ACode :=
  (.cond (.s 45) c128_2 .skip)
def c128_4 : ACode :=
  (.seq (.region false [⟨some 37, none, .fa 3 (.s 4)⟩,
    ⟨some 38, none, .ld false 1 (.s 37)⟩,
    ⟨some 39, none, .un .not (.s 38)⟩,
    ⟨some 40, none, .mv (.s 39)⟩,
    ⟨some 41, some (40, true), .fa 4 (.s 4)⟩,
    ⟨some 42, some (40, true), .fa 0 (.s 41)⟩,
    ⟨some 43, some (40, true), .ld false 1 (.s 42)⟩,
    ⟨some 44, some (40, true), .bin .neq (.s 43) (.c (.t (.int .i64 0)))⟩,
    ⟨some 45, none, .pick (.s 40) (.s 44) (.c (.t (.bool false)))⟩] [] [0, 3, 45]) c128_3)
def c128_5 : ACode :=
  (.seq (.region false [⟨some 2, none, .cst (.t (.bool false))⟩] [] [2]) .ret)
def c128_6 : ACode :=
  (.cond (.s 36) c128_5 .skip)
def c128_7 : ACode :=
  (.seq (.seq (.region false [⟨some 15, none, .fa 0 (.s 4)⟩,
    ⟨some 16, none, .ld false 1 (.s 15)⟩,
    ⟨some 17, none, .call 94 [(.s 16)]⟩,
    ⟨some 18, none, .un .not (.s 17)⟩,
    ⟨some 19, none, .mv (.s 18)⟩,
    ⟨some 20, some (19, false), .fa 1 (.s 4)⟩,
    ⟨some 21, some (19, false), .ld true 2 (.s 20)⟩,
    ⟨some 22, some (19, false), .call 51 [(.s 21)]⟩,
    ⟨some 23, some (19, false), .un .not (.s 22)⟩,
    ⟨some 24, none, .pick (.s 19) (.c (.t (.bool true))) (.s 23)⟩,
    ⟨some 25, none, .mv (.s 24)⟩,
    ⟨some 26, some (25, false), .fa 4 (.s 4)⟩,
    ⟨some 27, some (25, false), .ld true 5 (.s 26)⟩,
    ⟨some 28, some (25, false), .call 164 [(.s 27)]⟩,
    ⟨some 29, some (25, false), .un .not (.s 28)⟩,
    ⟨some 30, none, .pick (.s 25) (.c (.t (.bool true))) (.s 29)⟩,
    ⟨some 31, none, .mv (.s 30)⟩,
    ⟨some 32, some (31, false), .fa 4 (.s 4)⟩,
    ⟨some 33, some (31, false), .ld true 5 (.s 32)⟩,
    ⟨some 34, some (31, false), .call 165 [(.s 33)]⟩,
    ⟨some 35, some (31, false), .un .not (.s 34)⟩,
    ⟨some 36, none, .pick (.s 31) (.c (.t (.bool true))) (.s 35)⟩] [] [0, 3, 4, 36]) c128_6) c128_4)
def c128_8 : ACode :=
  (.seq (.region false [⟨some 11, none, .mv (.s 0)⟩,
    ⟨some 12, none, .mv (.s 3)⟩,
    ⟨some 13, none, .ia 9 (.s 11) (.s 12)⟩,
    ⟨some 14, none, .ld true 9 (.s 13)⟩,
    ⟨some 4, none, .alloc [.t (.str []), .t (.str []), .nils, .t (.bool false), .t (.int .i64 0), .t (.int .i64 0), .t (.str []), .nils, .nils]⟩,
    ⟨none, none, .st 9 (.s 4) (.s 14)⟩] [] [0, 3, 4]) c128_7)
def c128_9 : ACode :=
  (.seq (.block 1 c128_8) c128_1)
def c128_10 : ACode :=
  (.cond (.s 8) .skip (.exit 0))
def c128_11 : ACode :=
  (.seq (.seq (.region false [⟨some 5, none, .mv (.s 3)⟩,
    ⟨some 6, none, .mv (.s 0)⟩,
    ⟨some 7, none, .len (.s 6)⟩,
    ⟨some 8, none, .bin .lss (.s 5) (.s 7)⟩] [] [0, 3, 8]) c128_10) c128_9)
def c128_12 : ACode :=
  (.loop c128_11)
def c128_13 : ACode :=
  (.block 0 c128_12)
def c128_14 : ACode :=
  (.seq (.seq (.region false [⟨some 3, none, .cst (.t (.int .i64 0))⟩] [] [0, 3]) c128_13) c128_0)
def c128 : ACode :=
  (.seq (.region false [⟨some 2, none, .cst (.t (.bool false))⟩] [] [0]) c128_14)
def r128 : List ARes := [.tmp 2]
def n128 : Nat := 49
/- 129 supergraph supergraphref08.selsRight -/
def c129_0 : ACode :=
  (.seq (.region false [⟨some 4, none, .cst (.t (.bool true))⟩] [] [4]) .ret)
def c129_1 : ACode :=
  (.region false [⟨some 22, none, .mv (.s 5)⟩,
    ⟨some 23, none, .bin .add (.s 22) (.c (.t (.int .i64 1)))⟩,
    ⟨some 5, none, .mv (.s 23)⟩] [] [0, 1, 5])
def c129_2 : ACode :=
  (.seq (.region false [⟨some 4, none, .cst (.t (.bool false))⟩] [] [4]) .ret)
def c129_3 : ACode :=
  (.cond (.s 30) c129_2 .skip)
def c129_4 : ACode :=
  (.seq (.region false [⟨some 24, none, .mv (.s 0)⟩,
    ⟨some 25, none, .mv (.s 5)⟩,
    ⟨some 26, none, .ia 7 (.s 24) (.s 25)⟩,
    ⟨some 27, none, .ld true 7 (.s 26)⟩,
    ⟨some 28, none, .mv (.s 1)⟩,
    ⟨some 29, none, .call 166 [(.s 27), (.s 28)]⟩,
    ⟨some 30, none, .un .not (.s 29)⟩] [] [0, 1, 5, 30]) c129_3)
def c129_5 : ACode :=
  (.seq (.block 1 c129_4) c129_1)
def c129_6 : ACode :=
  (.cond (.s 21) .skip (.exit 0))
def c129_7 : ACode :=
  (.seq (.seq (.region false [⟨some 18, none, .mv (.s 5)⟩,
    ⟨some 19, none, .mv (.s 0)⟩,
    ⟨some 20, none, .len (.s 19)⟩,
    ⟨some 21, none, .bin .lss (.s 18) (.s 20)⟩] [] [0, 1, 5, 21]) c129_6) c129_5)
def c129_8 : ACode :=
  (.loop c129_7)
def c129_9 : ACode :=
  (.block 0 c129_8)
def c129_10 : ACode :=
  (.seq (.seq (.region false [⟨some 5, none, .cst (.t (.int .i64 0))⟩] [] [0, 1, 5]) c129_9) c129_0)
def c129_11 : ACode :=
  (.seq (.region false [⟨some 4, none, .cst (.t (.bool false))⟩] [] [4]) .ret)
def c129_12 : ACode :=
  (.cond (.s 17) c129_11 .skip)
def c129_13 : ACode :=
  (.seq (.seq (.region false [⟨some 6, none, .mv (.s 0)⟩,
    ⟨some 7, none, .len (.s 6)⟩,
    ⟨some 8, none, .bin .eql (.s 7) (.c (.t (.int .i64 0)))⟩,
    ⟨some 9, none, .mv (.s 8)⟩,
    ⟨some 10, some (9, false), .mv (.s 0)⟩,
    ⟨some 11, some (9, false), .len (.s 10)⟩,
    ⟨some 12, some (9, false), .bin .gtr (.s 11) (.c (.t (.int .i64 64)))⟩,
    ⟨some 13, none, .pick (.s 9) (.c (.t (.bool true))) (.s 12)⟩,
    ⟨some 14, none, .mv (.s 13)⟩,
    ⟨some 15, some (14, false), .mv (.s 1)⟩,
    ⟨some 16, some (14, false), .bin .gtr (.s 15) (.c (.t (.int .i64 24)))⟩,
    ⟨some 17, none, .pick (.s 14) (.c (.t (.bool true))) (.s 16)⟩] [] [0, 1, 17]) c129_12) c129_10)
def c129 : ACode :=
  (.seq (.region false [⟨some 4, none, .cst (.t (.bool false))⟩] [] [0, 1]) c129_13)
def r129 : List ARes := [.tmp 4]
def n129 : Nat := 31
/- 130 supergraph supergraphref08.title -/
def c130_0 : ACode :=
  (.seq (.region false [⟨some 3, none, .mv (.s 0)⟩,
    ⟨some 4, none, .call 94 [(.s 3)]⟩,
    ⟨some 5, none, .mv (.s 4)⟩,
    ⟨some 6, some (5, true), .mv (.s 0)⟩,
    ⟨some 7, some (5, true), .bin .neq (.s 6) (.c (.t (.str [111, 110])))⟩,
    ⟨some 8, none, .pick (.s 5) (.s 7) (.c (.t (.bool false)))⟩,
    ⟨some 2, none, .mv (.s 8)⟩] [] [2]) .ret)
def c130 : ACode :=
  (.seq (.region false [⟨some 2, none, .cst (.t (.bool false))⟩] [] [0]) c130_0)
def r130 : List ARes := [.tmp 2]
def n130 : Nat := 9
/- 131 supergraph supergraphref11.object -/
def c131_0 : ACode :=
  (.seq (.region false [⟨some 75, none, .mv (.s 5)⟩,
    ⟨some 4, none, .mv (.s 75)⟩] [] [4]) .ret)
def c131_1 : ACode :=
  (.region false [⟨some 16, none, .mv (.s 6)⟩,
    ⟨some 17, none, .bin .add (.s 16) (.c (.t (.int .i64 1)))⟩,
    ⟨some 6, none, .mv (.s 17)⟩] [] [2, 3, 5, 6])
def c131_2 : ACode :=
  (.region false [⟨some 63, none, .mv (.s 10)⟩,
    ⟨some 64, none, .bin .add (.s 63) (.c (.t (.int .i64 1)))⟩,
    ⟨some 10, none, .mv (.s 64)⟩] [] [2, 3, 5, 6, 8, 10])
def c131_3 : ACode :=
  (.region true [⟨some 65, none, .mv (.s 5)⟩,
    ⟨some 66, none, .ld true 1 (.s 2)⟩,
    ⟨some 67, none, .ld true 7 (.s 3)⟩,
    ⟨some 68, none, .fa 4 (.s 8)⟩,
    ⟨some 69, none, .ld false 1 (.s 68)⟩,
    ⟨some 70, none, .mv (.s 10)⟩,
    ⟨some 71, none, .ia 5 (.s 69) (.s 70)⟩,
    ⟨some 72, none, .ld true 5 (.s 71)⟩,
    ⟨some 73, none, .call 168 [(.s 66), (.s 67), (.s 72)]⟩,
    ⟨some 74, none, .app 2 24 (.s 65) (.s 73)⟩,
    ⟨some 5, none, .mv (.s 74)⟩] [[], [], [], [], [3], [], [4, 5], [6], [1, 2, 7], [0, 8, 8], [9, 9, 0, 1, 2, 3, 4, 5, 6, 7, 8, 9]] [2, 3, 5, 6, 8, 10])
def c131_4 : ACode :=
  (.seq (.block 3 c131_3) c131_2)
def c131_5 : ACode :=
  (.cond (.s 62) .skip (.exit 2))
def c131_6 : ACode :=
  (.seq (.seq (.region false [⟨some 58, none, .mv (.s 10)⟩,
    ⟨some 59, none, .fa 4 (.s 8)⟩,
    ⟨some 60, none, .ld false 1 (.s 59)⟩,
    ⟨some 61, none, .len (.s 60)⟩,
    ⟨some 62, none, .bin .lss (.s 58) (.s 61)⟩] [] [2, 3, 5, 6, 8, 10, 62]) c131_5) c131_4)
def c131_7 : ACode :=
  (.loop c131_6)
def c131_8 : ACode :=
  (.block 2 c131_7)
def c131_9 : ACode :=
  (.seq (.region false [⟨some 10, none, .cst (.t (.int .i64 0))⟩] [] [2, 3, 5, 6, 8, 10]) c131_8)
def c131_10 : ACode :=
  (.seq (.region true [⟨some 49, none, .ld true 1 (.s 2)⟩,
    ⟨some 50, none, .fa 2 (.s 3)⟩,
    ⟨some 51, none, .ld false 1 (.s 50)⟩,
    ⟨some 52, none, .mv (.s 6)⟩,
    ⟨some 53, none, .ia 1 (.s 51) (.s 52)⟩,
    ⟨some 54, none, .ld false 1 (.s 53)⟩,
    ⟨some 55, none, .call 57 [(.s 49), (.s 54)]⟩,
    ⟨some 48, none, .mv (.s 55)⟩,
    ⟨some 56, none, .ext (.s 48) 0⟩,
    ⟨some 57, none, .ext (.s 48) 1⟩,
    ⟨some 8, none, .alloc [.t (.int .i64 0), .t (.str []), .nils, .nils, .nils, .nils, .nils]⟩,
    ⟨none, none, .st 7 (.s 8) (.s 56)⟩,
    ⟨some 9, none, .mv (.s 57)⟩] [[], [], [1], [], [2, 3], [4], [0, 5], [6], [7], [7], [], [10, 8, 6, 0, 1, 2, 3, 4, 5, 6, 7, 8, 10], [9, 11, 0, 1, 2, 3, 4, 5, 6, 7, 8, 9, 10, 11]] [2, 3, 5, 6, 8]) c131_9)
def c131_11 : ACode :=
  (.seq (.region false [⟨some 41, none, .mv (.s 5)⟩,
    ⟨some 42, none, .mv (.s 7)⟩,
    ⟨some 43, none, .fa 1 (.s 3)⟩,
    ⟨some 44, none, .ld false 1 (.s 43)⟩,
    ⟨some 45, none, .build [.t (.int .i64 0), .t (.str [])] [(0, 1, (.s 42)), (1, 1, (.s 44))]⟩,
    ⟨some 46, none, .bsl false 2 [[.int .i64 0, .str []]] [(0, (.s 45))]⟩,
    ⟨some 47, none, .app 2 24 (.s 41) (.s 46)⟩,
    ⟨some 5, none, .mv (.s 47)⟩] [] [2, 3, 5, 6]) (.exit 1))
def c131_12 : ACode :=
  (.cond (.s 40) c131_11 .skip)
def c131_13 : ACode :=
  (.seq (.seq (.region false [⟨some 39, none, .mv (.s 7)⟩,
    ⟨some 40, none, .bin .neq (.s 39) (.c (.t (.int .i64 0)))⟩] [] [2, 3, 5, 6, 7, 40]) c131_12) c131_10)
def c131_14 : ACode :=
  (.region false [⟨some 7, none, .cst (.t (.int .i64 7))⟩] [] [2, 3, 5, 6, 7])
def c131_15 : ACode :=
  (.cond (.s 38) c131_14 .skip)
def c131_16 : ACode :=
  (.seq (.seq (.region true [⟨some 25, none, .mv (.s 7)⟩,
    ⟨some 26, none, .bin .eql (.s 25) (.c (.t (.int .i64 0)))⟩,
    ⟨some 27, none, .mv (.s 26)⟩,
    ⟨some 28, some (27, true), .fa 2 (.s 3)⟩,
    ⟨some 29, some (27, true), .ld false 1 (.s 28)⟩,
    ⟨some 30, some (27, true), .mv (.s 6)⟩,
    ⟨some 31, some (27, true), .sll 1 (.s 29) none (some (.s 30))⟩,
    ⟨some 32, some (27, true), .fa 2 (.s 3)⟩,
    ⟨some 33, some (27, true), .ld false 1 (.s 32)⟩,
    ⟨some 34, some (27, true), .mv (.s 6)⟩,
    ⟨some 35, some (27, true), .ia 1 (.s 33) (.s 34)⟩,
    ⟨some 36, some (27, true), .ld false 1 (.s 35)⟩,
    ⟨some 37, some (27, true), .call 90 [(.s 31), (.s 36)]⟩,
    ⟨some 38, none, .pick (.s 27) (.s 37) (.c (.t (.bool false)))⟩] [[], [0], [1], [2], [3, 2], [2], [4, 5, 2], [2], [7, 2], [2], [8, 9, 2], [10, 2], [6, 11, 2, 2], [2, 12]] [2, 3, 5, 6, 7, 38]) c131_15) c131_13)
def c131_17 : ACode :=
  (.seq (.region true [⟨some 18, none, .ld true 1 (.s 2)⟩,
    ⟨some 19, none, .fa 2 (.s 3)⟩,
    ⟨some 20, none, .ld false 1 (.s 19)⟩,
    ⟨some 21, none, .mv (.s 6)⟩,
    ⟨some 22, none, .ia 1 (.s 20) (.s 21)⟩,
    ⟨some 23, none, .ld false 1 (.s 22)⟩,
    ⟨some 24, none, .call 167 [(.s 18), (.s 23), (.c (.t (.int .i64 2)))]⟩,
    ⟨some 7, none, .mv (.s 24)⟩] [[], [], [1], [], [2, 3], [4], [0, 5], [6, 6, 0, 1, 2, 3, 4, 5, 6]] [2, 3, 5, 6, 7]) c131_16)
def c131_18 : ACode :=
  (.seq (.block 1 c131_17) c131_1)
def c131_19 : ACode :=
  (.cond (.s 15) .skip (.exit 0))
def c131_20 : ACode :=
  (.seq (.seq (.region false [⟨some 11, none, .mv (.s 6)⟩,
    ⟨some 12, none, .fa 2 (.s 3)⟩,
    ⟨some 13, none, .ld false 1 (.s 12)⟩,
    ⟨some 14, none, .len (.s 13)⟩,
    ⟨some 15, none, .bin .lss (.s 11) (.s 14)⟩] [] [2, 3, 5, 6, 15]) c131_19) c131_18)
def c131_21 : ACode :=
  (.loop c131_20)
def c131_22 : ACode :=
  (.block 0 c131_21)
def c131_23 : ACode :=
  (.seq (.seq (.region false [⟨some 6, none, .cst (.t (.int .i64 0))⟩] [] [2, 3, 5, 6]) c131_22) c131_0)
def c131_24 : ACode :=
  (.seq (.region false [⟨some 5, none, .cst (.nils)⟩] [] [2, 3, 5]) c131_23)
def c131 : ACode :=
  (.seq (.region false [⟨some 2, none, .box 1 (.s 0)⟩,
    ⟨some 3, none, .box 7 (.s 1)⟩,
    ⟨some 4, none, .cst (.nils)⟩] [] [2, 3]) c131_24)
def r131 : List ARes := [.tmp 4]
def n131 : Nat := 76
/- 132 supergraph supergraphref11.union -/
def c132_0 : ACode :=
  (.seq (.region false [⟨some 48, none, .mv (.s 5)⟩,
    ⟨some 4, none, .mv (.s 48)⟩] [] [4]) .ret)
def c132_1 : ACode :=
  (.region false [⟨some 14, none, .mv (.s 6)⟩,
    ⟨some 15, none, .bin .add (.s 14) (.c (.t (.int .i64 1)))⟩,
    ⟨some 6, none, .mv (.s 15)⟩] [] [2, 3, 5, 6])
def c132_2 : ACode :=
  (.region false [⟨some 38, none, .mv (.s 5)⟩,
    ⟨some 39, none, .mv (.s 8)⟩,
    ⟨some 40, none, .fa 1 (.s 3)⟩,
    ⟨some 41, none, .ld false 1 (.s 40)⟩,
    ⟨some 42, none, .bin .add (.s 41) (.c (.t (.str [46])))⟩,
    ⟨some 43, none, .mv (.s 7)⟩,
    ⟨some 44, none, .bin .add (.s 42) (.s 43)⟩,
    ⟨some 45, none, .build [.t (.int .i64 0), .t (.str [])] [(0, 1, (.s 39)), (1, 1, (.s 44))]⟩,
    ⟨some 46, none, .bsl false 2 [[.int .i64 0, .str []]] [(0, (.s 45))]⟩,
    ⟨some 47, none, .app 2 24 (.s 38) (.s 46)⟩,
    ⟨some 5, none, .mv (.s 47)⟩] [] [2, 3, 5, 6])
def c132_3 : ACode :=
  (.cond (.s 37) c132_2 .skip)
def c132_4 : ACode :=
  (.seq (.region false [⟨some 36, none, .mv (.s 8)⟩,
    ⟨some 37, none, .bin .neq (.s 36) (.c (.t (.int .i64 0)))⟩] [] [2, 3, 5, 6, 7, 8, 37]) c132_3)
def c132_5 : ACode :=
  (.region false [⟨some 8, none, .cst (.t (.int .i64 7))⟩] [] [2, 3, 5, 6, 7, 8])
def c132_6 : ACode :=
  (.cond (.s 35) c132_5 .skip)
def c132_7 : ACode :=
  (.seq (.seq (.region false [⟨some 25, none, .mv (.s 8)⟩,
    ⟨some 26, none, .bin .eql (.s 25) (.c (.t (.int .i64 0)))⟩,
    ⟨some 27, none, .mv (.s 26)⟩,
    ⟨some 28, some (27, true), .fa 5 (.s 3)⟩,
    ⟨some 29, some (27, true), .ld false 1 (.s 28)⟩,
    ⟨some 30, some (27, true), .mv (.s 6)⟩,
    ⟨some 31, some (27, true), .sll 2 (.s 29) none (some (.s 30))⟩,
    ⟨some 32, some (27, true), .build [.t (.int .i64 0), .t (.str []), .nils, .nils, .nils, .nils, .nils] [(5, 1, (.s 31))]⟩,
    ⟨some 33, some (27, true), .mv (.s 7)⟩,
    ⟨some 34, some (27, true), .call 91 [(.s 32), (.s 33)]⟩,
    ⟨some 35, none, .pick (.s 27) (.s 34) (.c (.t (.bool false)))⟩] [] [2, 3, 5, 6, 7, 8, 35]) c132_6) c132_4)
def c132_8 : ACode :=
  (.seq (.region false [⟨some 22, none, .ld true 1 (.s 2)⟩,
    ⟨some 23, none, .mv (.s 7)⟩,
    ⟨some 24, none, .call 167 [(.s 22), (.s 23), (.c (.t (.int .i64 1)))]⟩,
    ⟨some 8, none, .mv (.s 24)⟩] [] [2, 3, 5, 6, 7, 8]) c132_7)
def c132_9 : ACode :=
  (.seq (.region false [⟨some 16, none, .fa 5 (.s 3)⟩,
    ⟨some 17, none, .ld false 1 (.s 16)⟩,
    ⟨some 18, none, .mv (.s 6)⟩,
    ⟨some 19, none, .ia 2 (.s 17) (.s 18)⟩,
    ⟨some 20, none, .fa 0 (.s 19)⟩,
    ⟨some 21, none, .ld false 1 (.s 20)⟩,
    ⟨some 7, none, .mv (.s 21)⟩] [] [2, 3, 5, 6, 7]) c132_8)
def c132_10 : ACode :=
  (.seq (.block 1 c132_9) c132_1)
def c132_11 : ACode :=
  (.cond (.s 13) .skip (.exit 0))
def c132_12 : ACode :=
  (.seq (.seq (.region false [⟨some 9, none, .mv (.s 6)⟩,
    ⟨some 10, none, .fa 5 (.s 3)⟩,
    ⟨some 11, none, .ld false 1 (.s 10)⟩,
    ⟨some 12, none, .len (.s 11)⟩,
    ⟨some 13, none, .bin .lss (.s 9) (.s 12)⟩] [] [2, 3, 5, 6, 13]) c132_11) c132_10)
def c132_13 : ACode :=
  (.loop c132_12)
def c132_14 : ACode :=
  (.block 0 c132_13)
def c132_15 : ACode :=
  (.seq (.seq (.region false [⟨some 6, none, .cst (.t (.int .i64 0))⟩] [] [2, 3, 5, 6]) c132_14) c132_0)
def c132_16 : ACode :=
  (.seq (.region false [⟨some 5, none, .cst (.nils)⟩] [] [2, 3, 5]) c132_15)
def c132 : ACode :=
  (.seq (.region false [⟨some 2, none, .box 1 (.s 0)⟩,
    ⟨some 3, none, .box 7 (.s 1)⟩,
    ⟨some 4, none, .cst (.nils)⟩] [] [2, 3]) c132_16)
def r132 : List ARes := [.tmp 4]
def n132 : Nat := 49
/- 133 (*supergraph fragment.checker).apart -/
def c133_0 : ACode :=
  (.seq (.region false [⟨some 7, none, .mv (.s 0)⟩,
    ⟨some 8, none, .nilck (.s 7)⟩,
    ⟨some 9, none, .fa 0 (.s 8)⟩,
    ⟨some 10, none, .ld true 1 (.s 9)⟩,
    ⟨some 11, none, .mv (.s 1)⟩,
    ⟨some 12, none, .call 80 [(.s 10), (.s 11)]⟩,
    ⟨some 13, none, .mv (.s 12)⟩,
    ⟨some 14, some (13, true), .mv (.s 0)⟩,
    ⟨some 15, some (13, true), .nilck (.s 14)⟩,
    ⟨some 16, some (13, true), .fa 0 (.s 15)⟩,
    ⟨some 17, some (13, true), .ld true 1 (.s 16)⟩,
    ⟨some 18, some (13, true), .mv (.s 1)⟩,
    ⟨some 19, some (13, true), .mv (.s 2)⟩,
    ⟨some 20, some (13, true), .call 49 [(.s 17), (.s 18), (.s 19)]⟩,
    ⟨some 21, some (13, true), .un .not (.s 20)⟩,
    ⟨some 22, none, .pick (.s 13) (.s 21) (.c (.t (.bool false)))⟩,
    ⟨some 6, none, .mv (.s 22)⟩] [] [6]) .ret)
def c133 : ACode :=
  (.seq (.region false [⟨some 6, none, .cst (.t (.bool false))⟩] [] [0, 1, 2]) c133_0)
def r133 : List ARes := [.tmp 6]
def n133 : Nat := 23
/- 135 supergraph schema.kind -/
def c135_0 : ACode :=
  (.seq (.region false [⟨some 13, none, .fa 0 (.s 5)⟩,
    ⟨some 14, none, .ld false 1 (.s 13)⟩,
    ⟨some 4, none, .mv (.s 14)⟩] [] [4]) .ret)
def c135_1 : ACode :=
  (.seq (.region false [⟨some 8, none, .ld true 1 (.s 2)⟩,
    ⟨some 9, none, .mv (.s 1)⟩,
    ⟨some 10, none, .call 87 [(.s 8), (.s 9)]⟩,
    ⟨some 7, none, .mv (.s 10)⟩,
    ⟨some 11, none, .ext (.s 7) 0⟩,
    ⟨some 12, none, .ext (.s 7) 1⟩,
    ⟨some 5, none, .alloc [.t (.int .i64 0), .t (.str []), .nils, .nils, .nils, .nils, .nils]⟩,
    ⟨none, none, .st 7 (.s 5) (.s 11)⟩,
    ⟨some 6, none, .mv (.s 12)⟩] [] [5]) c135_0)
def c135 : ACode :=
  (.seq (.region false [⟨some 2, none, .box 1 (.s 0)⟩,
    ⟨some 4, none, .cst (.t (.int .i64 0))⟩] [] [1, 2]) c135_1)
def r135 : List ARes := [.tmp 4]
def n135 : Nat := 15
/- 137 supergraph supergraphref13.apart -/
/- 138 supergraph supergraphref13.within -/
/- 139 supergraph supergraphref13.key -/
/- 159 supergraph supergraphref02.Size -/
def c159_0 : ACode :=
  (.seq (.region false [⟨some 20, none, .mv (.s 3)⟩,
    ⟨some 2, none, .mv (.s 20)⟩] [] [2]) .ret)
def c159_1 : ACode :=
  (.region false [⟨some 10, none, .mv (.s 4)⟩,
    ⟨some 11, none, .bin .add (.s 10) (.c (.t (.int .i64 1)))⟩,
    ⟨some 4, none, .mv (.s 11)⟩] [] [1, 3, 4])
def c159_2 : ACode :=
  (.region false [⟨some 12, none, .mv (.s 3)⟩,
    ⟨some 13, none, .fa 3 (.s 1)⟩,
    ⟨some 14, none, .ld false 1 (.s 13)⟩,
    ⟨some 15, none, .mv (.s 4)⟩,
    ⟨some 16, none, .ia 5 (.s 14) (.s 15)⟩,
    ⟨some 17, none, .ld true 5 (.s 16)⟩,
    ⟨some 18, none, .call 159 [(.s 17)]⟩,
    ⟨some 19, none, .bin .add (.s 12) (.s 18)⟩,
    ⟨some 3, none, .mv (.s 19)⟩] [] [1, 3, 4])
def c159_3 : ACode :=
  (.seq (.block 1 c159_2) c159_1)
def c159_4 : ACode :=
  (.cond (.s 9) .skip (.exit 0))
def c159_5 : ACode :=
  (.seq (.seq (.region false [⟨some 5, none, .mv (.s 4)⟩,
    ⟨some 6, none, .fa 3 (.s 1)⟩,
    ⟨some 7, none, .ld false 1 (.s 6)⟩,
    ⟨some 8, none, .len (.s 7)⟩,
    ⟨some 9, none, .bin .lss (.s 5) (.s 8)⟩] [] [1, 3, 4, 9]) c159_4) c159_3)
def c159_6 : ACode :=
  (.loop c159_5)
def c159_7 : ACode :=
  (.block 0 c159_6)
def c159_8 : ACode :=
  (.seq (.seq (.region false [⟨some 4, none, .cst (.t (.int .i64 0))⟩] [] [1, 3, 4]) c159_7) c159_0)
def c159_9 : ACode :=
  (.seq (.region false [⟨some 3, none, .cst (.t (.int .i64 1))⟩] [] [1, 3]) c159_8)
def c159 : ACode :=
  (.seq (.region false [⟨some 1, none, .box 5 (.s 0)⟩,
    ⟨some 2, none, .cst (.t (.int .i64 0))⟩] [] [1]) c159_9)
def r159 : List ARes := [.tmp 2]
def n159 : Nat := 21
/- 164 supergraph supergraphref02.Literal -/
def c164_0 : ACode :=
  (.seq (.region false [⟨some 3, none, .ld true 5 (.s 1)⟩,
    ⟨some 4, none, .call 159 [(.s 3)]⟩,
    ⟨some 5, none, .bin .leq (.s 4) (.c (.t (.int .i64 4096)))⟩,
    ⟨some 6, none, .mv (.s 5)⟩,
    ⟨some 7, some (6, true), .ld true 5 (.s 1)⟩,
    ⟨some 8, some (6, true), .call 179 [(.s 7)]⟩,
    ⟨some 9, some (6, true), .bin .leq (.s 8) (.c (.t (.int .i64 24)))⟩,
    ⟨some 10, none, .pick (.s 6) (.s 9) (.c (.t (.bool false)))⟩,
    ⟨some 11, none, .mv (.s 10)⟩,
    ⟨some 12, some (11, true), .ld true 5 (.s 1)⟩,
    ⟨some 13, some (11, true), .call 180 [(.s 12), (.c (.t (.bool true)))]⟩,
    ⟨some 14, none, .pick (.s 11) (.s 13) (.c (.t (.bool false)))⟩,
    ⟨some 2, none, .mv (.s 14)⟩] [] [2]) .ret)
def c164 : ACode :=
  (.seq (.region false [⟨some 1, none, .box 5 (.s 0)⟩,
    ⟨some 2, none, .cst (.t (.bool false))⟩] [] [1]) c164_0)
def r164 : List ARes := [.tmp 2]
def n164 : Nat := 15
/- 165 supergraph supergraphref08.constant -/
def c165_0 : ACode :=
  (.seq (.region false [⟨some 18, none, .fa 0 (.s 1)⟩,
    ⟨some 19, none, .ld false 1 (.s 18)⟩,
    ⟨some 20, none, .bin .neq (.s 19) (.c (.t (.int .i64 7)))⟩,
    ⟨some 2, none, .mv (.s 20)⟩] [] [2]) .ret)
def c165_1 : ACode :=
  (.region false [⟨some 9, none, .mv (.s 3)⟩,
    ⟨some 10, none, .bin .add (.s 9) (.c (.t (.int .i64 1)))⟩,
    ⟨some 3, none, .mv (.s 10)⟩] [] [1, 3])
def c165_2 : ACode :=
  (.seq (.region false [⟨some 2, none, .cst (.t (.bool false))⟩] [] [2]) .ret)
def c165_3 : ACode :=
  (.cond (.s 17) c165_2 .skip)
def c165_4 : ACode :=
  (.seq (.region false [⟨some 11, none, .fa 3 (.s 1)⟩,
    ⟨some 12, none, .ld false 1 (.s 11)⟩,
    ⟨some 13, none, .mv (.s 3)⟩,
    ⟨some 14, none, .ia 5 (.s 12) (.s 13)⟩,
    ⟨some 15, none, .ld true 5 (.s 14)⟩,
    ⟨some 16, none, .call 165 [(.s 15)]⟩,
    ⟨some 17, none, .un .not (.s 16)⟩] [] [1, 3, 17]) c165_3)
def c165_5 : ACode :=
  (.seq (.block 1 c165_4) c165_1)
def c165_6 : ACode :=
  (.cond (.s 8) .skip (.exit 0))
def c165_7 : ACode :=
  (.seq (.seq (.region false [⟨some 4, none, .mv (.s 3)⟩,
    ⟨some 5, none, .fa 3 (.s 1)⟩,
    ⟨some 6, none, .ld false 1 (.s 5)⟩,
    ⟨some 7, none, .len (.s 6)⟩,
    ⟨some 8, none, .bin .lss (.s 4) (.s 7)⟩] [] [1, 3, 8]) c165_6) c165_5)
def c165_8 : ACode :=
  (.loop c165_7)
def c165_9 : ACode :=
  (.block 0 c165_8)
def c165_10 : ACode :=
  (.seq (.seq (.region false [⟨some 3, none, .cst (.t (.int .i64 0))⟩] [] [1, 3]) c165_9) c165_0)
def c165 : ACode :=
  (.seq (.region false [⟨some 1, none, .box 5 (.s 0)⟩,
    ⟨some 2, none, .cst (.t (.bool false))⟩] [] [1]) c165_10)
def r165 : List ARes := [.tmp 2]
def n165 : Nat := 21
/- 166 supergraph supergraphref08.selRight -/
def c166_0 : ACode :=
  (.seq (.region false [⟨some 4, none, .cst (.t (.bool false))⟩] [] [4]) .ret)
def c166_1 : ACode :=
  (.seq (.region false [⟨some 19, none, .fa 2 (.s 2)⟩,
    ⟨some 20, none, .ld false 1 (.s 19)⟩,
    ⟨some 21, none, .call 94 [(.s 20)]⟩,
    ⟨some 22, none, .mv (.s 21)⟩,
    ⟨some 23, some (22, true), .fa 1 (.s 2)⟩,
    ⟨some 24, some (22, true), .ld false 1 (.s 23)⟩,
    ⟨some 25, some (22, true), .bin .eql (.s 24) (.c (.t (.str [])))⟩,
    ⟨some 26, some (22, true), .mv (.s 25)⟩,
    ⟨some 27, some (26, false), .fa 1 (.s 2)⟩,
    ⟨some 28, some (26, false), .ld false 1 (.s 27)⟩,
    ⟨some 29, some (26, false), .call 94 [(.s 28)]⟩,
    ⟨some 30, some (22, true), .pick (.s 26) (.c (.t (.bool true))) (.s 29)⟩,
    ⟨some 31, none, .pick (.s 22) (.s 30) (.c (.t (.bool false)))⟩,
    ⟨some 32, none, .mv (.s 31)⟩,
    ⟨some 33, some (32, true), .fa 3 (.s 2)⟩,
    ⟨some 34, some (32, true), .ld false 1 (.s 33)⟩,
    ⟨some 35, some (32, true), .bin .eql (.s 34) (.c (.t (.str [])))⟩,
    ⟨some 36, none, .pick (.s 32) (.s 35) (.c (.t (.bool false)))⟩,
    ⟨some 37, none, .mv (.s 36)⟩,
    ⟨some 38, some (37, true), .fa 6 (.s 2)⟩,
    ⟨some 39, some (37, true), .ld false 1 (.s 38)⟩,
    ⟨some 40, some (37, true), .len (.s 39)⟩,
    ⟨some 41, some (37, true), .bin .eql (.s 40) (.c (.t (.int .i64 0)))⟩,
    ⟨some 42, some (37, true), .mv (.s 41)⟩,
    ⟨some 43, some (42, false), .fa 6 (.s 2)⟩,
    ⟨some 44, some (42, false), .ld false 1 (.s 43)⟩,
    ⟨some 45, some (42, false), .mv (.s 1)⟩,
    ⟨some 46, some (42, false), .bin .add (.s 45) (.c (.t (.int .i64 1)))⟩,
    ⟨some 47, some (42, false), .call 129 [(.s 44), (.s 46)]⟩,
    ⟨some 48, some (37, true), .pick (.s 42) (.c (.t (.bool true))) (.s 47)⟩,
    ⟨some 49, none, .pick (.s 37) (.s 48) (.c (.t (.bool false)))⟩,
    ⟨some 4, none, .mv (.s 49)⟩] [] [4]) .ret)
def c166_2 : ACode :=
  (.seq (.region false [⟨some 52, none, .fa 2 (.s 2)⟩,
    ⟨some 53, none, .ld false 1 (.s 52)⟩,
    ⟨some 54, none, .call 130 [(.s 53)]⟩,
    ⟨some 55, none, .mv (.s 54)⟩,
    ⟨some 56, some (55, true), .fa 1 (.s 2)⟩,
    ⟨some 57, some (55, true), .ld false 1 (.s 56)⟩,
    ⟨some 58, some (55, true), .bin .eql (.s 57) (.c (.t (.str [])))⟩,
    ⟨some 59, none, .pick (.s 55) (.s 58) (.c (.t (.bool false)))⟩,
    ⟨some 60, none, .mv (.s 59)⟩,
    ⟨some 61, some (60, true), .fa 3 (.s 2)⟩,
    ⟨some 62, some (60, true), .ld false 1 (.s 61)⟩,
    ⟨some 63, some (60, true), .bin .eql (.s 62) (.c (.t (.str [])))⟩,
    ⟨some 64, none, .pick (.s 60) (.s 63) (.c (.t (.bool false)))⟩,
    ⟨some 65, none, .mv (.s 64)⟩,
    ⟨some 66, some (65, true), .fa 4 (.s 2)⟩,
    ⟨some 67, some (65, true), .ld false 1 (.s 66)⟩,
    ⟨some 68, some (65, true), .len (.s 67)⟩,
    ⟨some 69, some (65, true), .bin .eql (.s 68) (.c (.t (.int .i64 0)))⟩,
    ⟨some 70, none, .pick (.s 65) (.s 69) (.c (.t (.bool false)))⟩,
    ⟨some 71, none, .mv (.s 70)⟩,
    ⟨some 72, some (71, true), .fa 6 (.s 2)⟩,
    ⟨some 73, some (71, true), .ld false 1 (.s 72)⟩,
    ⟨some 74, some (71, true), .len (.s 73)⟩,
    ⟨some 75, some (71, true), .bin .eql (.s 74) (.c (.t (.int .i64 0)))⟩,
    ⟨some 76, none, .pick (.s 71) (.s 75) (.c (.t (.bool false)))⟩,
    ⟨some 4, none, .mv (.s 76)⟩] [] [4]) .ret)
def c166_3 : ACode :=
  (.seq (.region false [⟨some 79, none, .fa 2 (.s 2)⟩,
    ⟨some 80, none, .ld false 1 (.s 79)⟩,
    ⟨some 81, none, .bin .eql (.s 80) (.c (.t (.str [])))⟩,
    ⟨some 82, none, .mv (.s 81)⟩,
    ⟨some 83, some (82, true), .fa 1 (.s 2)⟩,
    ⟨some 84, some (82, true), .ld false 1 (.s 83)⟩,
    ⟨some 85, some (82, true), .bin .eql (.s 84) (.c (.t (.str [])))⟩,
    ⟨some 86, none, .pick (.s 82) (.s 85) (.c (.t (.bool false)))⟩,
    ⟨some 87, none, .mv (.s 86)⟩,
    ⟨some 88, some (87, true), .fa 3 (.s 2)⟩,
    ⟨some 89, some (87, true), .ld false 1 (.s 88)⟩,
    ⟨some 90, some (87, true), .bin .eql (.s 89) (.c (.t (.str [])))⟩,
    ⟨some 91, some (87, true), .mv (.s 90)⟩,
    ⟨some 92, some (91, false), .fa 3 (.s 2)⟩,
    ⟨some 93, some (91, false), .ld false 1 (.s 92)⟩,
    ⟨some 94, some (91, false), .call 94 [(.s 93)]⟩,
    ⟨some 95, some (87, true), .pick (.s 91) (.c (.t (.bool true))) (.s 94)⟩,
    ⟨some 96, none, .pick (.s 87) (.s 95) (.c (.t (.bool false)))⟩,
    ⟨some 97, none, .mv (.s 96)⟩,
    ⟨some 98, some (97, true), .fa 4 (.s 2)⟩,
    ⟨some 99, some (97, true), .ld false 1 (.s 98)⟩,
    ⟨some 100, some (97, true), .len (.s 99)⟩,
    ⟨some 101, some (97, true), .bin .eql (.s 100) (.c (.t (.int .i64 0)))⟩,
    ⟨some 102, none, .pick (.s 97) (.s 101) (.c (.t (.bool false)))⟩,
    ⟨some 103, none, .mv (.s 102)⟩,
    ⟨some 104, some (103, true), .fa 6 (.s 2)⟩,
    ⟨some 105, some (103, true), .ld false 1 (.s 104)⟩,
    ⟨some 106, some (103, true), .mv (.s 1)⟩,
    ⟨some 107, some (103, true), .bin .add (.s 106) (.c (.t (.int .i64 1)))⟩,
    ⟨some 108, some (103, true), .call 129 [(.s 105), (.s 107)]⟩,
    ⟨some 109, none, .pick (.s 103) (.s 108) (.c (.t (.bool false)))⟩,
    ⟨some 4, none, .mv (.s 109)⟩] [] [4]) .ret)
def c166_4 : ACode :=
  (.cond (.s 77) c166_3 .skip)
def c166_5 : ACode :=
  (.seq (.region false [⟨some 78, none, .bin .eql (.s 16) (.c (.t (.int .i64 3)))⟩,
    ⟨some 77, none, .mv (.s 78)⟩] [] [1, 2, 77]) c166_4)
def c166_6 : ACode :=
  (.cond (.s 50) c166_2 c166_5)
def c166_7 : ACode :=
  (.seq (.region false [⟨some 51, none, .bin .eql (.s 16) (.c (.t (.int .i64 2)))⟩,
    ⟨some 50, none, .mv (.s 51)⟩] [] [1, 2, 16, 50]) c166_6)
def c166_8 : ACode :=
  (.cond (.s 17) c166_1 c166_7)
def c166_9 : ACode :=
  (.seq (.region false [⟨some 18, none, .bin .eql (.s 16) (.c (.t (.int .i64 1)))⟩,
    ⟨some 17, none, .mv (.s 18)⟩] [] [1, 2, 16, 17]) c166_8)
def c166_10 : ACode :=
  (.block 0 c166_9)
def c166_11 : ACode :=
  (.seq (.seq (.region false [⟨some 15, none, .fa 0 (.s 2)⟩,
    ⟨some 16, none, .ld false 1 (.s 15)⟩] [] [1, 2, 16]) c166_10) c166_0)
def c166_12 : ACode :=
  (.seq (.region false [⟨some 4, none, .cst (.t (.bool false))⟩] [] [4]) .ret)
def c166_13 : ACode :=
  (.cond (.s 14) c166_12 .skip)
def c166_14 : ACode :=
  (.seq (.seq (.region false [⟨some 5, none, .fa 5 (.s 2)⟩,
    ⟨some 6, none, .ld false 1 (.s 5)⟩,
    ⟨some 7, none, .call 181 [(.s 6)]⟩,
    ⟨some 8, none, .un .not (.s 7)⟩,
    ⟨some 9, none, .mv (.s 8)⟩,
    ⟨some 10, some (9, false), .fa 4 (.s 2)⟩,
    ⟨some 11, some (9, false), .ld false 1 (.s 10)⟩,
    ⟨some 12, some (9, false), .call 182 [(.s 11)]⟩,
    ⟨some 13, some (9, false), .un .not (.s 12)⟩,
    ⟨some 14, none, .pick (.s 9) (.c (.t (.bool true))) (.s 13)⟩] [] [1, 2, 14]) c166_13) c166_11)
def c166 : ACode :=
  (.seq (.region false [⟨some 2, none, .box 7 (.s 0)⟩,
    ⟨some 4, none, .cst (.t (.bool false))⟩] [] [1, 2]) c166_14)
def r166 : List ARes := [.tmp 4]
def n166 : Nat := 110
/- 167 supergraph supergraphref11.kindOf -/
def c167_0 : ACode :=
  (.seq (.region false [⟨some 6, none, .cst (.t (.int .i64 0))⟩] [] [6]) .ret)
def c167_1 : ACode :=
  (.seq (.region false [⟨some 6, none, .cst (.t (.int .i64 9))⟩] [] [6]) .ret)
def c167_2 : ACode :=
  (.cond (.s 25) c167_1 .skip)
def c167_3 : ACode :=
  (.seq (.seq (.region false [⟨some 22, none, .fa 0 (.s 7)⟩,
    ⟨some 23, none, .ld false 1 (.s 22)⟩,
    ⟨some 24, none, .mv (.s 2)⟩,
    ⟨some 25, none, .bin .neq (.s 23) (.s 24)⟩] [] [25]) c167_2) c167_0)
def c167_4 : ACode :=
  (.seq (.region false [⟨some 6, none, .cst (.t (.int .i64 8))⟩] [] [6]) .ret)
def c167_5 : ACode :=
  (.cond (.s 21) c167_4 .skip)
def c167_6 : ACode :=
  (.seq (.seq (.region false [⟨some 15, none, .mv (.s 8)⟩,
    ⟨some 16, none, .un .not (.s 15)⟩,
    ⟨some 17, none, .mv (.s 16)⟩,
    ⟨some 18, some (17, true), .mv (.s 1)⟩,
    ⟨some 19, some (17, true), .call 85 [(.s 18)]⟩,
    ⟨some 20, some (17, true), .un .not (.s 19)⟩,
    ⟨some 21, none, .pick (.s 17) (.s 20) (.c (.t (.bool false)))⟩] [] [2, 7, 21]) c167_5) c167_3)
def c167_7 : ACode :=
  (.seq (.region false [⟨some 10, none, .ld true 1 (.s 3)⟩,
    ⟨some 11, none, .mv (.s 1)⟩,
    ⟨some 12, none, .call 57 [(.s 10), (.s 11)]⟩,
    ⟨some 9, none, .mv (.s 12)⟩,
    ⟨some 13, none, .ext (.s 9) 0⟩,
    ⟨some 14, none, .ext (.s 9) 1⟩,
    ⟨some 7, none, .alloc [.t (.int .i64 0), .t (.str []), .nils, .nils, .nils, .nils, .nils]⟩,
    ⟨none, none, .st 7 (.s 7) (.s 13)⟩,
    ⟨some 8, none, .mv (.s 14)⟩] [] [1, 2, 7, 8]) c167_6)
def c167 : ACode :=
  (.seq (.region false [⟨some 3, none, .box 1 (.s 0)⟩,
    ⟨some 6, none, .cst (.t (.int .i64 0))⟩] [] [1, 2, 3]) c167_7)
def r167 : List ARes := [.tmp 6]
def n167 : Nat := 26
/- 168 supergraph supergraphref11.field -/
def c168_0 : ACode :=
  (.seq (.region false [⟨some 147, none, .mv (.s 10)⟩,
    ⟨some 6, none, .mv (.s 147)⟩] [] [6]) .ret)
def c168_1 : ACode :=
  (.region false [⟨some 99, none, .mv (.s 14)⟩,
    ⟨some 100, none, .bin .add (.s 99) (.c (.t (.int .i64 1)))⟩,
    ⟨some 14, none, .mv (.s 100)⟩] [] [5, 7, 8, 10, 14])
def c168_2 : ACode :=
  (.region false [⟨some 133, none, .mv (.s 10)⟩,
    ⟨some 134, none, .mv (.s 7)⟩,
    ⟨some 135, none, .bin .add (.s 134) (.c (.t (.str [40])))⟩,
    ⟨some 136, none, .fa 1 (.s 8)⟩,
    ⟨some 137, none, .ld false 1 (.s 136)⟩,
    ⟨some 138, none, .mv (.s 14)⟩,
    ⟨some 139, none, .ia 10 (.s 137) (.s 138)⟩,
    ⟨some 140, none, .fa 0 (.s 139)⟩,
    ⟨some 141, none, .ld false 1 (.s 140)⟩,
    ⟨some 142, none, .bin .add (.s 135) (.s 141)⟩,
    ⟨some 143, none, .bin .add (.s 142) (.c (.t (.str [41])))⟩,
    ⟨some 144, none, .build [.t (.int .i64 0), .t (.str [])] [(0, 1, (.c (.t (.int .i64 22)))), (1, 1, (.s 143))]⟩,
    ⟨some 145, none, .bsl false 2 [[.int .i64 0, .str []]] [(0, (.s 144))]⟩,
    ⟨some 146, none, .app 2 24 (.s 133) (.s 145)⟩,
    ⟨some 10, none, .mv (.s 146)⟩] [] [5, 7, 8, 10, 14])
def c168_3 : ACode :=
  (.cond (.s 132) c168_2 .skip)
def c168_4 : ACode :=
  (.seq (.region false [⟨some 113, none, .mv (.s 16)⟩,
    ⟨some 114, none, .un .not (.s 113)⟩,
    ⟨some 115, none, .mv (.s 114)⟩,
    ⟨some 116, some (115, true), .fa 1 (.s 8)⟩,
    ⟨some 117, some (115, true), .ld false 1 (.s 116)⟩,
    ⟨some 118, some (115, true), .mv (.s 14)⟩,
    ⟨some 119, some (115, true), .ia 10 (.s 117) (.s 118)⟩,
    ⟨some 120, some (115, true), .fa 1 (.s 119)⟩,
    ⟨some 121, some (115, true), .ld true 2 (.s 120)⟩,
    ⟨some 122, some (115, true), .call 98 [(.s 121)]⟩,
    ⟨some 123, none, .pick (.s 115) (.s 122) (.c (.t (.bool false)))⟩,
    ⟨some 124, none, .mv (.s 123)⟩,
    ⟨some 125, some (124, true), .fa 1 (.s 8)⟩,
    ⟨some 126, some (124, true), .ld false 1 (.s 125)⟩,
    ⟨some 127, some (124, true), .mv (.s 14)⟩,
    ⟨some 128, some (124, true), .ia 10 (.s 126) (.s 127)⟩,
    ⟨some 129, some (124, true), .fa 3 (.s 128)⟩,
    ⟨some 130, some (124, true), .ld false 1 (.s 129)⟩,
    ⟨some 131, some (124, true), .un .not (.s 130)⟩,
    ⟨some 132, none, .pick (.s 124) (.s 131) (.c (.t (.bool false)))⟩] [] [5, 7, 8, 10, 14, 132]) c168_3)
def c168_5 : ACode :=
  (.seq (.region true [⟨some 102, none, .fa 1 (.s 5)⟩,
    ⟨some 103, none, .ld false 1 (.s 102)⟩,
    ⟨some 104, none, .fa 1 (.s 8)⟩,
    ⟨some 105, none, .ld false 1 (.s 104)⟩,
    ⟨some 106, none, .mv (.s 14)⟩,
    ⟨some 107, none, .ia 10 (.s 105) (.s 106)⟩,
    ⟨some 108, none, .fa 0 (.s 107)⟩,
    ⟨some 109, none, .ld false 1 (.s 108)⟩,
    ⟨some 110, none, .call 153 [(.s 103), (.s 109)]⟩,
    ⟨some 101, none, .mv (.s 110)⟩,
    ⟨some 111, none, .ext (.s 101) 0⟩,
    ⟨some 112, none, .ext (.s 101) 1⟩,
    ⟨some 15, none, .alloc [.t (.str []), .t (.str []), .nils, .t (.bool false), .t (.int .i64 0), .t (.int .i64 0), .t (.str []), .nils, .nils, .nils]⟩,
    ⟨none, none, .st 10 (.s 15) (.s 111)⟩,
    ⟨some 16, none, .mv (.s 112)⟩] [[], [0], [], [2], [], [3, 4], [5], [6], [1, 7], [8], [9], [9], [], [12, 10, 8, 0, 1, 2, 3, 4, 5, 6, 7, 8, 9, 10, 12], [11, 13, 0, 1, 2, 3, 4, 5, 6, 7, 8, 9, 10, 11, 12, 13]] [5, 7, 8, 10, 14, 16]) c168_4)
def c168_6 : ACode :=
  (.seq (.block 3 c168_5) c168_1)
def c168_7 : ACode :=
  (.cond (.s 98) .skip (.exit 2))
def c168_8 : ACode :=
  (.seq (.seq (.region false [⟨some 94, none, .mv (.s 14)⟩,
    ⟨some 95, none, .fa 1 (.s 8)⟩,
    ⟨some 96, none, .ld false 1 (.s 95)⟩,
    ⟨some 97, none, .len (.s 96)⟩,
    ⟨some 98, none, .bin .lss (.s 94) (.s 97)⟩] [] [5, 7, 8, 10, 14, 98]) c168_7) c168_6)
def c168_9 : ACode :=
  (.loop c168_8)
def c168_10 : ACode :=
  (.block 2 c168_9)
def c168_11 : ACode :=
  (.seq (.seq (.region false [⟨some 14, none, .cst (.t (.int .i64 0))⟩] [] [5, 7, 8, 10, 14]) c168_10) c168_0)
def c168_12 : ACode :=
  (.region false [⟨some 52, none, .mv (.s 11)⟩,
    ⟨some 53, none, .bin .add (.s 52) (.c (.t (.int .i64 1)))⟩,
    ⟨some 11, none, .mv (.s 53)⟩] [] [5, 7, 8, 10, 11])
def c168_13 : ACode :=
  (.region false [⟨some 80, none, .mv (.s 10)⟩,
    ⟨some 81, none, .mv (.s 7)⟩,
    ⟨some 82, none, .bin .add (.s 81) (.c (.t (.str [40])))⟩,
    ⟨some 83, none, .fa 1 (.s 5)⟩,
    ⟨some 84, none, .ld false 1 (.s 83)⟩,
    ⟨some 85, none, .mv (.s 11)⟩,
    ⟨some 86, none, .ia 10 (.s 84) (.s 85)⟩,
    ⟨some 87, none, .fa 0 (.s 86)⟩,
    ⟨some 88, none, .ld false 1 (.s 87)⟩,
    ⟨some 89, none, .bin .add (.s 82) (.s 88)⟩,
    ⟨some 90, none, .bin .add (.s 89) (.c (.t (.str [41])))⟩,
    ⟨some 91, none, .build [.t (.int .i64 0), .t (.str [])] [(0, 1, (.c (.t (.int .i64 22)))), (1, 1, (.s 90))]⟩,
    ⟨some 92, none, .bsl false 2 [[.int .i64 0, .str []]] [(0, (.s 91))]⟩,
    ⟨some 93, none, .app 2 24 (.s 80) (.s 92)⟩,
    ⟨some 10, none, .mv (.s 93)⟩] [] [5, 7, 8, 10, 11])
def c168_14 : ACode :=
  (.cond (.s 79) c168_13 .skip)
def c168_15 : ACode :=
  (.seq (.region true [⟨some 66, none, .mv (.s 13)⟩,
    ⟨some 67, none, .un .not (.s 66)⟩,
    ⟨some 68, none, .mv (.s 67)⟩,
    ⟨some 69, some (68, false), .fa 1 (.s 12)⟩,
    ⟨some 70, some (68, false), .ld true 2 (.s 69)⟩,
    ⟨some 71, some (68, false), .fa 1 (.s 5)⟩,
    ⟨some 72, some (68, false), .ld false 1 (.s 71)⟩,
    ⟨some 73, some (68, false), .mv (.s 11)⟩,
    ⟨some 74, some (68, false), .ia 10 (.s 72) (.s 73)⟩,
    ⟨some 75, some (68, false), .fa 1 (.s 74)⟩,
    ⟨some 76, some (68, false), .ld true 2 (.s 75)⟩,
    ⟨some 77, some (68, false), .call 183 [(.s 70), (.s 76)]⟩,
    ⟨some 78, some (68, false), .un .not (.s 77)⟩,
    ⟨some 79, none, .pick (.s 68) (.c (.t (.bool true))) (.s 78)⟩] [[], [0], [1], [2], [3, 2], [2], [5, 2], [2], [6, 7, 2], [8, 2], [9, 2], [4, 10, 2, 2], [11, 2], [2, 12]] [5, 7, 8, 10, 11, 79]) c168_14)
def c168_16 : ACode :=
  (.seq (.region true [⟨some 55, none, .fa 1 (.s 8)⟩,
    ⟨some 56, none, .ld false 1 (.s 55)⟩,
    ⟨some 57, none, .fa 1 (.s 5)⟩,
    ⟨some 58, none, .ld false 1 (.s 57)⟩,
    ⟨some 59, none, .mv (.s 11)⟩,
    ⟨some 60, none, .ia 10 (.s 58) (.s 59)⟩,
    ⟨some 61, none, .fa 0 (.s 60)⟩,
    ⟨some 62, none, .ld false 1 (.s 61)⟩,
    ⟨some 63, none, .call 153 [(.s 56), (.s 62)]⟩,
    ⟨some 54, none, .mv (.s 63)⟩,
    ⟨some 64, none, .ext (.s 54) 0⟩,
    ⟨some 65, none, .ext (.s 54) 1⟩,
    ⟨some 12, none, .alloc [.t (.str []), .t (.str []), .nils, .t (.bool false), .t (.int .i64 0), .t (.int .i64 0), .t (.str []), .nils, .nils, .nils]⟩,
    ⟨none, none, .st 10 (.s 12) (.s 64)⟩,
    ⟨some 13, none, .mv (.s 65)⟩] [[], [0], [], [2], [], [3, 4], [5], [6], [1, 7], [8], [9], [9], [], [12, 10, 8, 0, 1, 2, 3, 4, 5, 6, 7, 8, 9, 10, 12], [11, 13, 0, 1, 2, 3, 4, 5, 6, 7, 8, 9, 10, 11, 12, 13]] [5, 7, 8, 10, 11, 12, 13]) c168_15)
def c168_17 : ACode :=
  (.seq (.block 1 c168_16) c168_12)
def c168_18 : ACode :=
  (.cond (.s 51) .skip (.exit 0))
def c168_19 : ACode :=
  (.seq (.seq (.region false [⟨some 47, none, .mv (.s 11)⟩,
    ⟨some 48, none, .fa 1 (.s 5)⟩,
    ⟨some 49, none, .ld false 1 (.s 48)⟩,
    ⟨some 50, none, .len (.s 49)⟩,
    ⟨some 51, none, .bin .lss (.s 47) (.s 50)⟩] [] [5, 7, 8, 10, 11, 51]) c168_18) c168_17)
def c168_20 : ACode :=
  (.loop c168_19)
def c168_21 : ACode :=
  (.block 0 c168_20)
def c168_22 : ACode :=
  (.seq (.seq (.region false [⟨some 11, none, .cst (.t (.int .i64 0))⟩] [] [5, 7, 8, 10, 11]) c168_21) c168_11)
def c168_23 : ACode :=
  (.region false [⟨some 42, none, .mv (.s 10)⟩,
    ⟨some 43, none, .mv (.s 7)⟩,
    ⟨some 44, none, .build [.t (.int .i64 0), .t (.str [])] [(0, 1, (.c (.t (.int .i64 10)))), (1, 1, (.s 43))]⟩,
    ⟨some 45, none, .bsl false 2 [[.int .i64 0, .str []]] [(0, (.s 44))]⟩,
    ⟨some 46, none, .app 2 24 (.s 42) (.s 45)⟩,
    ⟨some 10, none, .mv (.s 46)⟩] [] [5, 7, 8, 10])
def c168_24 : ACode :=
  (.cond (.s 41) c168_23 .skip)
def c168_25 : ACode :=
  (.seq (.seq (.region false [⟨some 35, none, .ld true 1 (.s 3)⟩,
    ⟨some 36, none, .fa 2 (.s 8)⟩,
    ⟨some 37, none, .ld true 2 (.s 36)⟩,
    ⟨some 38, none, .fa 2 (.s 5)⟩,
    ⟨some 39, none, .ld true 2 (.s 38)⟩,
    ⟨some 40, none, .call 53 [(.s 35), (.s 37), (.s 39)]⟩,
    ⟨some 41, none, .un .not (.s 40)⟩] [] [5, 7, 8, 10, 41]) c168_24) c168_22)
def c168_26 : ACode :=
  (.seq (.region false [⟨some 10, none, .cst (.nils)⟩] [] [3, 5, 7, 8, 10]) c168_25)
def c168_27 : ACode :=
  (.seq (.region false [⟨some 32, none, .mv (.s 7)⟩,
    ⟨some 33, none, .build [.t (.int .i64 0), .t (.str [])] [(0, 1, (.c (.t (.int .i64 20)))), (1, 1, (.s 32))]⟩,
    ⟨some 34, none, .bsl true 2 [[.int .i64 0, .str []]] [(0, (.s 33))]⟩,
    ⟨some 6, none, .mv (.s 34)⟩] [] [6]) .ret)
def c168_28 : ACode :=
  (.cond (.s 31) c168_27 .skip)
def c168_29 : ACode :=
  (.seq (.seq (.region false [⟨some 30, none, .mv (.s 9)⟩,
    ⟨some 31, none, .un .not (.s 30)⟩] [] [3, 5, 7, 8, 31]) c168_28) c168_26)
def c168_30 : ACode :=
  (.seq (.region false [⟨some 24, none, .ld true 7 (.s 4)⟩,
    ⟨some 25, none, .fa 0 (.s 5)⟩,
    ⟨some 26, none, .ld false 1 (.s 25)⟩,
    ⟨some 27, none, .call 58 [(.s 24), (.s 26)]⟩,
    ⟨some 23, none, .mv (.s 27)⟩,
    ⟨some 28, none, .ext (.s 23) 0⟩,
    ⟨some 29, none, .ext (.s 23) 1⟩,
    ⟨some 8, none, .alloc [.t (.str []), .nils, .t (.str []), .nils, .nils]⟩,
    ⟨none, none, .st 5 (.s 8) (.s 28)⟩,
    ⟨some 9, none, .mv (.s 29)⟩] [] [3, 5, 7, 8, 9]) c168_29)
def c168_31 : ACode :=
  (.seq (.region false [⟨some 17, none, .fa 1 (.s 4)⟩,
    ⟨some 18, none, .ld false 1 (.s 17)⟩,
    ⟨some 19, none, .bin .add (.s 18) (.c (.t (.str [46])))⟩,
    ⟨some 20, none, .fa 0 (.s 5)⟩,
    ⟨some 21, none, .ld false 1 (.s 20)⟩,
    ⟨some 22, none, .bin .add (.s 19) (.s 21)⟩,
    ⟨some 7, none, .mv (.s 22)⟩] [] [3, 4, 5, 7]) c168_30)
def c168 : ACode :=
  (.seq (.region false [⟨some 3, none, .box 1 (.s 0)⟩,
    ⟨some 4, none, .box 7 (.s 1)⟩,
    ⟨some 5, none, .box 5 (.s 2)⟩,
    ⟨some 6, none, .cst (.nils)⟩] [] [3, 4, 5]) c168_31)
def r168 : List ARes := [.tmp 6]
def n168 : Nat := 148
/- 179 supergraph supergraphref02.Depth -/
def c179_0 : ACode :=
  (.seq (.region false [⟨some 20, none, .mv (.s 3)⟩,
    ⟨some 21, none, .bin .add (.s 20) (.c (.t (.int .i64 1)))⟩,
    ⟨some 2, none, .mv (.s 21)⟩] [] [2]) .ret)
def c179_1 : ACode :=
  (.region false [⟨some 10, none, .mv (.s 4)⟩,
    ⟨some 11, none, .bin .add (.s 10) (.c (.t (.int .i64 1)))⟩,
    ⟨some 4, none, .mv (.s 11)⟩] [] [1, 3, 4])
def c179_2 : ACode :=
  (.region false [⟨some 12, none, .mv (.s 3)⟩,
    ⟨some 13, none, .fa 3 (.s 1)⟩,
    ⟨some 14, none, .ld false 1 (.s 13)⟩,
    ⟨some 15, none, .mv (.s 4)⟩,
    ⟨some 16, none, .ia 5 (.s 14) (.s 15)⟩,
    ⟨some 17, none, .ld true 5 (.s 16)⟩,
    ⟨some 18, none, .call 179 [(.s 17)]⟩,
    ⟨some 19, none, .maxi (.s 12) (.s 18)⟩,
    ⟨some 3, none, .mv (.s 19)⟩] [] [1, 3, 4])
def c179_3 : ACode :=
  (.seq (.block 1 c179_2) c179_1)
def c179_4 : ACode :=
  (.cond (.s 9) .skip (.exit 0))
def c179_5 : ACode :=
  (.seq (.seq (.region false [⟨some 5, none, .mv (.s 4)⟩,
    ⟨some 6, none, .fa 3 (.s 1)⟩,
    ⟨some 7, none, .ld false 1 (.s 6)⟩,
    ⟨some 8, none, .len (.s 7)⟩,
    ⟨some 9, none, .bin .lss (.s 5) (.s 8)⟩] [] [1, 3, 4, 9]) c179_4) c179_3)
def c179_6 : ACode :=
  (.loop c179_5)
def c179_7 : ACode :=
  (.block 0 c179_6)
def c179_8 : ACode :=
  (.seq (.seq (.region false [⟨some 4, none, .cst (.t (.int .i64 0))⟩] [] [1, 3, 4]) c179_7) c179_0)
def c179_9 : ACode :=
  (.seq (.region false [⟨some 3, none, .cst (.t (.int .i64 0))⟩] [] [1, 3]) c179_8)
def c179 : ACode :=
  (.seq (.region false [⟨some 1, none, .box 5 (.s 0)⟩,
    ⟨some 2, none, .cst (.t (.int .i64 0))⟩] [] [1]) c179_9)
def r179 : List ARes := [.tmp 2]
def n179 : Nat := 22
/- 180 supergraph supergraphref02.whole -/
def c180_0 : ACode :=
  (.seq (.region false [⟨some 4, none, .cst (.t (.bool true))⟩] [] [4]) .ret)
def c180_1 : ACode :=
  (.region false [⟨some 33, none, .mv (.s 6)⟩,
    ⟨some 34, none, .bin .add (.s 33) (.c (.t (.int .i64 1)))⟩,
    ⟨some 6, none, .mv (.s 34)⟩] [] [1, 2, 6])
def c180_2 : ACode :=
  (.seq (.region false [⟨some 4, none, .cst (.t (.bool false))⟩] [] [4]) .ret)
def c180_3 : ACode :=
  (.cond (.s 42) c180_2 .skip)
def c180_4 : ACode :=
  (.seq (.region false [⟨some 35, none, .fa 3 (.s 2)⟩,
    ⟨some 36, none, .ld false 1 (.s 35)⟩,
    ⟨some 37, none, .mv (.s 6)⟩,
    ⟨some 38, none, .ia 5 (.s 36) (.s 37)⟩,
    ⟨some 39, none, .ld true 5 (.s 38)⟩,
    ⟨some 40, none, .mv (.s 1)⟩,
    ⟨some 41, none, .call 180 [(.s 39), (.s 40)]⟩,
    ⟨some 42, none, .un .not (.s 41)⟩] [] [1, 2, 6, 42]) c180_3)
def c180_5 : ACode :=
  (.seq (.block 3 c180_4) c180_1)
def c180_6 : ACode :=
  (.cond (.s 32) .skip (.exit 2))
def c180_7 : ACode :=
  (.seq (.seq (.region false [⟨some 28, none, .mv (.s 6)⟩,
    ⟨some 29, none, .fa 3 (.s 2)⟩,
    ⟨some 30, none, .ld false 1 (.s 29)⟩,
    ⟨some 31, none, .len (.s 30)⟩,
    ⟨some 32, none, .bin .lss (.s 28) (.s 31)⟩] [] [1, 2, 6, 32]) c180_6) c180_5)
def c180_8 : ACode :=
  (.loop c180_7)
def c180_9 : ACode :=
  (.block 2 c180_8)
def c180_10 : ACode :=
  (.seq (.seq (.region false [⟨some 6, none, .cst (.t (.int .i64 0))⟩] [] [1, 2, 6]) c180_9) c180_0)
def c180_11 : ACode :=
  (.region false [⟨some 16, none, .mv (.s 5)⟩,
    ⟨some 17, none, .bin .add (.s 16) (.c (.t (.int .i64 1)))⟩,
    ⟨some 5, none, .mv (.s 17)⟩] [] [1, 2, 5])
def c180_12 : ACode :=
  (.seq (.region false [⟨some 4, none, .cst (.t (.bool false))⟩] [] [4]) .ret)
def c180_13 : ACode :=
  (.cond (.s 27) c180_12 .skip)
def c180_14 : ACode :=
  (.seq (.region false [⟨some 18, none, .mv (.s 1)⟩,
    ⟨some 19, none, .mv (.s 18)⟩,
    ⟨some 20, some (19, true), .fa 4 (.s 2)⟩,
    ⟨some 21, some (19, true), .ld false 1 (.s 20)⟩,
    ⟨some 22, some (19, true), .mv (.s 5)⟩,
    ⟨some 23, some (19, true), .ia 1 (.s 21) (.s 22)⟩,
    ⟨some 24, some (19, true), .ld false 1 (.s 23)⟩,
    ⟨some 25, some (19, true), .call 94 [(.s 24)]⟩,
    ⟨some 26, some (19, true), .un .not (.s 25)⟩,
    ⟨some 27, none, .pick (.s 19) (.s 26) (.c (.t (.bool false)))⟩] [] [1, 2, 5, 27]) c180_13)
def c180_15 : ACode :=
  (.seq (.block 1 c180_14) c180_11)
def c180_16 : ACode :=
  (.cond (.s 15) .skip (.exit 0))
def c180_17 : ACode :=
  (.seq (.seq (.region false [⟨some 11, none, .mv (.s 5)⟩,
    ⟨some 12, none, .fa 4 (.s 2)⟩,
    ⟨some 13, none, .ld false 1 (.s 12)⟩,
    ⟨some 14, none, .len (.s 13)⟩,
    ⟨some 15, none, .bin .lss (.s 11) (.s 14)⟩] [] [1, 2, 5, 15]) c180_16) c180_15)
def c180_18 : ACode :=
  (.loop c180_17)
def c180_19 : ACode :=
  (.block 0 c180_18)
def c180_20 : ACode :=
  (.seq (.seq (.region false [⟨some 5, none, .cst (.t (.int .i64 0))⟩] [] [1, 2, 5]) c180_19) c180_10)
def c180_21 : ACode :=
  (.seq (.region false [⟨some 4, none, .cst (.t (.bool false))⟩] [] [4]) .ret)
def c180_22 : ACode :=
  (.cond (.s 10) c180_21 .skip)
def c180_23 : ACode :=
  (.seq (.seq (.region false [⟨some 7, none, .ld true 5 (.s 2)⟩,
    ⟨some 8, none, .mv (.s 1)⟩,
    ⟨some 9, none, .call 190 [(.s 7), (.s 8)]⟩,
    ⟨some 10, none, .un .not (.s 9)⟩] [] [1, 2, 10]) c180_22) c180_20)
def c180 : ACode :=
  (.seq (.region false [⟨some 2, none, .box 5 (.s 0)⟩,
    ⟨some 4, none, .cst (.t (.bool false))⟩] [] [1, 2]) c180_23)
def r180 : List ARes := [.tmp 4]
def n180 : Nat := 43
/- 181 supergraph supergraphref08.dirsRight -/
def c181_0 : ACode :=
  (.seq (.region false [⟨some 26, none, .mv (.s 0)⟩,
    ⟨some 27, none, .len (.s 26)⟩,
    ⟨some 28, none, .bin .leq (.s 27) (.c (.t (.int .i64 16)))⟩,
    ⟨some 2, none, .mv (.s 28)⟩] [] [2]) .ret)
def c181_1 : ACode :=
  (.region false [⟨some 8, none, .mv (.s 3)⟩,
    ⟨some 9, none, .bin .add (.s 8) (.c (.t (.int .i64 1)))⟩,
    ⟨some 3, none, .mv (.s 9)⟩] [] [0, 3])
def c181_2 : ACode :=
  (.seq (.region false [⟨some 2, none, .cst (.t (.bool false))⟩] [] [2]) .ret)
def c181_3 : ACode :=
  (.cond (.s 25) c181_2 .skip)
def c181_4 : ACode :=
  (.seq (.region false [⟨some 10, none, .mv (.s 0)⟩,
    ⟨some 11, none, .mv (.s 3)⟩,
    ⟨some 12, none, .ia 2 (.s 10) (.s 11)⟩,
    ⟨some 13, none, .fa 0 (.s 12)⟩,
    ⟨some 14, none, .ld false 1 (.s 13)⟩,
    ⟨some 15, none, .call 94 [(.s 14)]⟩,
    ⟨some 16, none, .un .not (.s 15)⟩,
    ⟨some 17, none, .mv (.s 16)⟩,
    ⟨some 18, some (17, false), .mv (.s 0)⟩,
    ⟨some 19, some (17, false), .mv (.s 3)⟩,
    ⟨some 20, some (17, false), .ia 2 (.s 18) (.s 19)⟩,
    ⟨some 21, some (17, false), .fa 1 (.s 20)⟩,
    ⟨some 22, some (17, false), .ld false 1 (.s 21)⟩,
    ⟨some 23, some (17, false), .call 182 [(.s 22)]⟩,
    ⟨some 24, some (17, false), .un .not (.s 23)⟩,
    ⟨some 25, none, .pick (.s 17) (.c (.t (.bool true))) (.s 24)⟩] [] [0, 3, 25]) c181_3)
def c181_5 : ACode :=
  (.seq (.block 1 c181_4) c181_1)
def c181_6 : ACode :=
  (.cond (.s 7) .skip (.exit 0))
def c181_7 : ACode :=
  (.seq (.seq (.region false [⟨some 4, none, .mv (.s 3)⟩,
    ⟨some 5, none, .mv (.s 0)⟩,
    ⟨some 6, none, .len (.s 5)⟩,
    ⟨some 7, none, .bin .lss (.s 4) (.s 6)⟩] [] [0, 3, 7]) c181_6) c181_5)
def c181_8 : ACode :=
  (.loop c181_7)
def c181_9 : ACode :=
  (.block 0 c181_8)
def c181_10 : ACode :=
  (.seq (.seq (.region false [⟨some 3, none, .cst (.t (.int .i64 0))⟩] [] [0, 3]) c181_9) c181_0)
def c181 : ACode :=
  (.seq (.region false [⟨some 2, none, .cst (.t (.bool false))⟩] [] [0]) c181_10)
def r181 : List ARes := [.tmp 2]
def n181 : Nat := 29
/- 182 supergraph supergraphref08.argsRight -/
def c182_0 : ACode :=
  (.seq (.region false [⟨some 26, none, .mv (.s 0)⟩,
    ⟨some 27, none, .len (.s 26)⟩,
    ⟨some 28, none, .bin .leq (.s 27) (.c (.t (.int .i64 16)))⟩,
    ⟨some 2, none, .mv (.s 28)⟩] [] [2]) .ret)
def c182_1 : ACode :=
  (.region false [⟨some 8, none, .mv (.s 3)⟩,
    ⟨some 9, none, .bin .add (.s 8) (.c (.t (.int .i64 1)))⟩,
    ⟨some 3, none, .mv (.s 9)⟩] [] [0, 3])
def c182_2 : ACode :=
  (.seq (.region false [⟨some 2, none, .cst (.t (.bool false))⟩] [] [2]) .ret)
def c182_3 : ACode :=
  (.cond (.s 25) c182_2 .skip)
def c182_4 : ACode :=
  (.seq (.region false [⟨some 10, none, .mv (.s 0)⟩,
    ⟨some 11, none, .mv (.s 3)⟩,
    ⟨some 12, none, .ia 6 (.s 10) (.s 11)⟩,
    ⟨some 13, none, .fa 0 (.s 12)⟩,
    ⟨some 14, none, .ld false 1 (.s 13)⟩,
    ⟨some 15, none, .call 94 [(.s 14)]⟩,
    ⟨some 16, none, .un .not (.s 15)⟩,
    ⟨some 17, none, .mv (.s 16)⟩,
    ⟨some 18, some (17, false), .mv (.s 0)⟩,
    ⟨some 19, some (17, false), .mv (.s 3)⟩,
    ⟨some 20, some (17, false), .ia 6 (.s 18) (.s 19)⟩,
    ⟨some 21, some (17, false), .fa 1 (.s 20)⟩,
    ⟨some 22, some (17, false), .ld true 5 (.s 21)⟩,
    ⟨some 23, some (17, false), .call 164 [(.s 22)]⟩,
    ⟨some 24, some (17, false), .un .not (.s 23)⟩,
    ⟨some 25, none, .pick (.s 17) (.c (.t (.bool true))) (.s 24)⟩] [] [0, 3, 25]) c182_3)
def c182_5 : ACode :=
  (.seq (.block 1 c182_4) c182_1)
def c182_6 : ACode :=
  (.cond (.s 7) .skip (.exit 0))
def c182_7 : ACode :=
  (.seq (.seq (.region false [⟨some 4, none, .mv (.s 3)⟩,
    ⟨some 5, none, .mv (.s 0)⟩,
    ⟨some 6, none, .len (.s 5)⟩,
    ⟨some 7, none, .bin .lss (.s 4) (.s 6)⟩] [] [0, 3, 7]) c182_6) c182_5)
def c182_8 : ACode :=
  (.loop c182_7)
def c182_9 : ACode :=
  (.block 0 c182_8)
def c182_10 : ACode :=
  (.seq (.seq (.region false [⟨some 3, none, .cst (.t (.int .i64 0))⟩] [] [0, 3]) c182_9) c182_0)
def c182 : ACode :=
  (.seq (.region false [⟨some 2, none, .cst (.t (.bool false))⟩] [] [0]) c182_10)
def r182 : List ARes := [.tmp 2]
def n182 : Nat := 29
/- 183 supergraph supergraphref05.Same -/
def c183_0 : ACode :=
  (.seq (.region false [⟨some 5, none, .fa 0 (.s 2)⟩,
    ⟨some 6, none, .ld false 1 (.s 5)⟩,
    ⟨some 7, none, .fa 0 (.s 3)⟩,
    ⟨some 8, none, .ld false 1 (.s 7)⟩,
    ⟨some 9, none, .bin .eql (.s 6) (.s 8)⟩,
    ⟨some 10, none, .mv (.s 9)⟩,
    ⟨some 11, some (10, true), .fa 1 (.s 2)⟩,
    ⟨some 12, some (10, true), .ld false 1 (.s 11)⟩,
    ⟨some 13, some (10, true), .fa 1 (.s 3)⟩,
    ⟨some 14, some (10, true), .ld false 1 (.s 13)⟩,
    ⟨some 15, some (10, true), .call 147 [(.s 12), (.s 14)]⟩,
    ⟨some 16, none, .pick (.s 10) (.s 15) (.c (.t (.bool false)))⟩,
    ⟨some 4, none, .mv (.s 16)⟩] [] [4]) .ret)
def c183 : ACode :=
  (.seq (.region false [⟨some 2, none, .box 2 (.s 0)⟩,
    ⟨some 3, none, .box 2 (.s 1)⟩,
    ⟨some 4, none, .cst (.t (.bool false))⟩] [] [2, 3]) c183_0)
def r183 : List ARes := [.tmp 4]
def n183 : Nat := 17
/- 190 supergraph supergraphref02.node -/
def c190_0 : ACode :=
  (.seq (.region false [⟨some 4, none, .cst (.t (.bool false))⟩] [] [4]) .ret)
def c190_1 : ACode :=
  (.seq (.region false [⟨some 9, none, .fa 1 (.s 2)⟩,
    ⟨some 10, none, .ld false 1 (.s 9)⟩,
    ⟨some 11, none, .bin .eql (.s 10) (.c (.t (.int .i64 0)))⟩,
    ⟨some 12, none, .mv (.s 11)⟩,
    ⟨some 13, some (12, true), .fa 2 (.s 2)⟩,
    ⟨some 14, some (12, true), .ld false 1 (.s 13)⟩,
    ⟨some 15, some (12, true), .bin .eql (.s 14) (.c (.t (.str [])))⟩,
    ⟨some 16, none, .pick (.s 12) (.s 15) (.c (.t (.bool false)))⟩,
    ⟨some 17, none, .mv (.s 16)⟩,
    ⟨some 18, some (17, true), .fa 3 (.s 2)⟩,
    ⟨some 19, some (17, true), .ld false 1 (.s 18)⟩,
    ⟨some 20, some (17, true), .len (.s 19)⟩,
    ⟨some 21, some (17, true), .bin .eql (.s 20) (.c (.t (.int .i64 0)))⟩,
    ⟨some 22, none, .pick (.s 17) (.s 21) (.c (.t (.bool false)))⟩,
    ⟨some 23, none, .mv (.s 22)⟩,
    ⟨some 24, some (23, true), .fa 4 (.s 2)⟩,
    ⟨some 25, some (23, true), .ld false 1 (.s 24)⟩,
    ⟨some 26, some (23, true), .len (.s 25)⟩,
    ⟨some 27, some (23, true), .bin .eql (.s 26) (.c (.t (.int .i64 0)))⟩,
    ⟨some 28, none, .pick (.s 23) (.s 27) (.c (.t (.bool false)))⟩,
    ⟨some 4, none, .mv (.s 28)⟩] [] [4]) .ret)
def c190_2 : ACode :=
  (.seq (.region false [⟨some 31, none, .fa 1 (.s 2)⟩,
    ⟨some 32, none, .ld false 1 (.s 31)⟩,
    ⟨some 33, none, .bin .eql (.s 32) (.c (.t (.int .i64 0)))⟩,
    ⟨some 34, none, .mv (.s 33)⟩,
    ⟨some 35, some (34, false), .fa 1 (.s 2)⟩,
    ⟨some 36, some (34, false), .ld false 1 (.s 35)⟩,
    ⟨some 37, some (34, false), .bin .eql (.s 36) (.c (.t (.int .i64 1)))⟩,
    ⟨some 38, none, .pick (.s 34) (.c (.t (.bool true))) (.s 37)⟩,
    ⟨some 39, none, .mv (.s 38)⟩,
    ⟨some 40, some (39, true), .fa 2 (.s 2)⟩,
    ⟨some 41, some (39, true), .ld false 1 (.s 40)⟩,
    ⟨some 42, some (39, true), .bin .eql (.s 41) (.c (.t (.str [])))⟩,
    ⟨some 43, none, .pick (.s 39) (.s 42) (.c (.t (.bool false)))⟩,
    ⟨some 44, none, .mv (.s 43)⟩,
    ⟨some 45, some (44, true), .fa 3 (.s 2)⟩,
    ⟨some 46, some (44, true), .ld false 1 (.s 45)⟩,
    ⟨some 47, some (44, true), .len (.s 46)⟩,
    ⟨some 48, some (44, true), .bin .eql (.s 47) (.c (.t (.int .i64 0)))⟩,
    ⟨some 49, none, .pick (.s 44) (.s 48) (.c (.t (.bool false)))⟩,
    ⟨some 50, none, .mv (.s 49)⟩,
    ⟨some 51, some (50, true), .fa 4 (.s 2)⟩,
    ⟨some 52, some (50, true), .ld false 1 (.s 51)⟩,
    ⟨some 53, some (50, true), .len (.s 52)⟩,
    ⟨some 54, some (50, true), .bin .eql (.s 53) (.c (.t (.int .i64 0)))⟩,
    ⟨some 55, none, .pick (.s 50) (.s 54) (.c (.t (.bool false)))⟩,
    ⟨some 4, none, .mv (.s 55)⟩] [] [4]) .ret)
def c190_3 : ACode :=
  (.seq (.region false [⟨some 58, none, .fa 2 (.s 2)⟩,
    ⟨some 59, none, .ld false 1 (.s 58)⟩,
    ⟨some 60, none, .bin .eql (.s 59) (.c (.t (.str [])))⟩,
    ⟨some 61, none, .mv (.s 60)⟩,
    ⟨some 62, some (61, true), .fa 3 (.s 2)⟩,
    ⟨some 63, some (61, true), .ld false 1 (.s 62)⟩,
    ⟨some 64, some (61, true), .len (.s 63)⟩,
    ⟨some 65, some (61, true), .bin .eql (.s 64) (.c (.t (.int .i64 0)))⟩,
    ⟨some 66, none, .pick (.s 61) (.s 65) (.c (.t (.bool false)))⟩,
    ⟨some 67, none, .mv (.s 66)⟩,
    ⟨some 68, some (67, true), .fa 4 (.s 2)⟩,
    ⟨some 69, some (67, true), .ld false 1 (.s 68)⟩,
    ⟨some 70, some (67, true), .len (.s 69)⟩,
    ⟨some 71, some (67, true), .bin .eql (.s 70) (.c (.t (.int .i64 0)))⟩,
    ⟨some 72, none, .pick (.s 67) (.s 71) (.c (.t (.bool false)))⟩,
    ⟨some 4, none, .mv (.s 72)⟩] [] [4]) .ret)
def c190_4 : ACode :=
  (.seq (.region false [⟨some 75, none, .fa 1 (.s 2)⟩,
    ⟨some 76, none, .ld false 1 (.s 75)⟩,
    ⟨some 77, none, .bin .eql (.s 76) (.c (.t (.int .i64 0)))⟩,
    ⟨some 78, none, .mv (.s 77)⟩,
    ⟨some 79, some (78, true), .fa 3 (.s 2)⟩,
    ⟨some 80, some (78, true), .ld false 1 (.s 79)⟩,
    ⟨some 81, some (78, true), .len (.s 80)⟩,
    ⟨some 82, some (78, true), .bin .eql (.s 81) (.c (.t (.int .i64 0)))⟩,
    ⟨some 83, none, .pick (.s 78) (.s 82) (.c (.t (.bool false)))⟩,
    ⟨some 84, none, .mv (.s 83)⟩,
    ⟨some 85, some (84, true), .fa 4 (.s 2)⟩,
    ⟨some 86, some (84, true), .ld false 1 (.s 85)⟩,
    ⟨some 87, some (84, true), .len (.s 86)⟩,
    ⟨some 88, some (84, true), .bin .eql (.s 87) (.c (.t (.int .i64 0)))⟩,
    ⟨some 89, none, .pick (.s 84) (.s 88) (.c (.t (.bool false)))⟩,
    ⟨some 4, none, .mv (.s 89)⟩] [] [4]) .ret)
def c190_5 : ACode :=
  (.seq (.region false [⟨some 92, none, .fa 1 (.s 2)⟩,
    ⟨some 93, none, .ld false 1 (.s 92)⟩,
    ⟨some 94, none, .bin .eql (.s 93) (.c (.t (.int .i64 0)))⟩,
    ⟨some 95, none, .mv (.s 94)⟩,
    ⟨some 96, some (95, true), .fa 3 (.s 2)⟩,
    ⟨some 97, some (95, true), .ld false 1 (.s 96)⟩,
    ⟨some 98, some (95, true), .len (.s 97)⟩,
    ⟨some 99, some (95, true), .bin .eql (.s 98) (.c (.t (.int .i64 0)))⟩,
    ⟨some 100, none, .pick (.s 95) (.s 99) (.c (.t (.bool false)))⟩,
    ⟨some 101, none, .mv (.s 100)⟩,
    ⟨some 102, some (101, true), .fa 4 (.s 2)⟩,
    ⟨some 103, some (101, true), .ld false 1 (.s 102)⟩,
    ⟨some 104, some (101, true), .len (.s 103)⟩,
    ⟨some 105, some (101, true), .bin .eql (.s 104) (.c (.t (.int .i64 0)))⟩,
    ⟨some 106, none, .pick (.s 101) (.s 105) (.c (.t (.bool false)))⟩,
    ⟨some 107, none, .mv (.s 106)⟩,
    ⟨some 108, some (107, true), .fa 2 (.s 2)⟩,
    ⟨some 109, some (107, true), .ld false 1 (.s 108)⟩,
    ⟨some 110, some (107, true), .call 94 [(.s 109)]⟩,
    ⟨some 111, none, .pick (.s 107) (.s 110) (.c (.t (.bool false)))⟩,
    ⟨some 112, none, .mv (.s 111)⟩,
    ⟨some 113, some (112, true), .fa 2 (.s 2)⟩,
    ⟨some 114, some (112, true), .ld false 1 (.s 113)⟩,
    ⟨some 115, some (112, true), .bin .neq (.s 114) (.c (.t (.str [116, 114, 117, 101])))⟩,
    ⟨some 116, none, .pick (.s 112) (.s 115) (.c (.t (.bool false)))⟩,
    ⟨some 117, none, .mv (.s 116)⟩,
    ⟨some 118, some (117, true), .fa 2 (.s 2)⟩,
    ⟨some 119, some (117, true), .ld false 1 (.s 118)⟩,
    ⟨some 120, some (117, true), .bin .neq (.s 119) (.c (.t (.str [102, 97, 108, 115, 101])))⟩,
    ⟨some 121, none, .pick (.s 117) (.s 120) (.c (.t (.bool false)))⟩,
    ⟨some 122, none, .mv (.s 121)⟩,
    ⟨some 123, some (122, true), .fa 2 (.s 2)⟩,
    ⟨some 124, some (122, true), .ld false 1 (.s 123)⟩,
    ⟨some 125, some (122, true), .bin .neq (.s 124) (.c (.t (.str [110, 117, 108, 108])))⟩,
    ⟨some 126, none, .pick (.s 122) (.s 125) (.c (.t (.bool false)))⟩,
    ⟨some 4, none, .mv (.s 126)⟩] [] [4]) .ret)
def c190_6 : ACode :=
  (.seq (.region false [⟨some 129, none, .fa 1 (.s 2)⟩,
    ⟨some 130, none, .ld false 1 (.s 129)⟩,
    ⟨some 131, none, .bin .eql (.s 130) (.c (.t (.int .i64 0)))⟩,
    ⟨some 132, none, .mv (.s 131)⟩,
    ⟨some 133, some (132, true), .fa 2 (.s 2)⟩,
    ⟨some 134, some (132, true), .ld false 1 (.s 133)⟩,
    ⟨some 135, some (132, true), .bin .eql (.s 134) (.c (.t (.str [])))⟩,
    ⟨some 136, none, .pick (.s 132) (.s 135) (.c (.t (.bool false)))⟩,
    ⟨some 137, none, .mv (.s 136)⟩,
    ⟨some 138, some (137, true), .fa 4 (.s 2)⟩,
    ⟨some 139, some (137, true), .ld false 1 (.s 138)⟩,
    ⟨some 140, some (137, true), .len (.s 139)⟩,
    ⟨some 141, some (137, true), .bin .eql (.s 140) (.c (.t (.int .i64 0)))⟩,
    ⟨some 142, none, .pick (.s 137) (.s 141) (.c (.t (.bool false)))⟩,
    ⟨some 4, none, .mv (.s 142)⟩] [] [4]) .ret)
def c190_7 : ACode :=
  (.seq (.region false [⟨some 145, none, .fa 1 (.s 2)⟩,
    ⟨some 146, none, .ld false 1 (.s 145)⟩,
    ⟨some 147, none, .bin .eql (.s 146) (.c (.t (.int .i64 0)))⟩,
    ⟨some 148, none, .mv (.s 147)⟩,
    ⟨some 149, some (148, true), .fa 2 (.s 2)⟩,
    ⟨some 150, some (148, true), .ld false 1 (.s 149)⟩,
    ⟨some 151, some (148, true), .bin .eql (.s 150) (.c (.t (.str [])))⟩,
    ⟨some 152, none, .pick (.s 148) (.s 151) (.c (.t (.bool false)))⟩,
    ⟨some 153, none, .mv (.s 152)⟩,
    ⟨some 154, some (153, true), .fa 4 (.s 2)⟩,
    ⟨some 155, some (153, true), .ld false 1 (.s 154)⟩,
    ⟨some 156, some (153, true), .len (.s 155)⟩,
    ⟨some 157, some (153, true), .fa 3 (.s 2)⟩,
    ⟨some 158, some (153, true), .ld false 1 (.s 157)⟩,
    ⟨some 159, some (153, true), .len (.s 158)⟩,
    ⟨some 160, some (153, true), .bin .eql (.s 156) (.s 159)⟩,
    ⟨some 161, none, .pick (.s 153) (.s 160) (.c (.t (.bool false)))⟩,
    ⟨some 162, none, .mv (.s 161)⟩,
    ⟨some 163, some (162, true), .fa 4 (.s 2)⟩,
    ⟨some 164, some (162, true), .ld false 1 (.s 163)⟩,
    ⟨some 165, some (162, true), .call 191 [(.s 164)]⟩,
    ⟨some 166, some (162, true), .un .not (.s 165)⟩,
    ⟨some 167, none, .pick (.s 162) (.s 166) (.c (.t (.bool false)))⟩,
    ⟨some 4, none, .mv (.s 167)⟩] [] [4]) .ret)
def c190_8 : ACode :=
  (.seq (.region false [⟨some 170, none, .mv (.s 1)⟩,
    ⟨some 171, none, .mv (.s 170)⟩,
    ⟨some 172, some (171, true), .fa 1 (.s 2)⟩,
    ⟨some 173, some (171, true), .ld false 1 (.s 172)⟩,
    ⟨some 174, some (171, true), .bin .eql (.s 173) (.c (.t (.int .i64 0)))⟩,
    ⟨some 175, none, .pick (.s 171) (.s 174) (.c (.t (.bool false)))⟩,
    ⟨some 176, none, .mv (.s 175)⟩,
    ⟨some 177, some (176, true), .fa 3 (.s 2)⟩,
    ⟨some 178, some (176, true), .ld false 1 (.s 177)⟩,
    ⟨some 179, some (176, true), .len (.s 178)⟩,
    ⟨some 180, some (176, true), .bin .eql (.s 179) (.c (.t (.int .i64 0)))⟩,
    ⟨some 181, none, .pick (.s 176) (.s 180) (.c (.t (.bool false)))⟩,
    ⟨some 182, none, .mv (.s 181)⟩,
    ⟨some 183, some (182, true), .fa 4 (.s 2)⟩,
    ⟨some 184, some (182, true), .ld false 1 (.s 183)⟩,
    ⟨some 185, some (182, true), .len (.s 184)⟩,
    ⟨some 186, some (182, true), .bin .eql (.s 185) (.c (.t (.int .i64 0)))⟩,
    ⟨some 187, none, .pick (.s 182) (.s 186) (.c (.t (.bool false)))⟩,
    ⟨some 188, none, .mv (.s 187)⟩,
    ⟨some 189, some (188, true), .fa 2 (.s 2)⟩,
    ⟨some 190, some (188, true), .ld false 1 (.s 189)⟩,
    ⟨some 191, some (188, true), .call 94 [(.s 190)]⟩,
    ⟨some 192, none, .pick (.s 188) (.s 191) (.c (.t (.bool false)))⟩,
    ⟨some 4, none, .mv (.s 192)⟩] [] [4]) .ret)
def c190_9 : ACode :=
  (.cond (.s 168) c190_8 .skip)
def c190_10 : ACode :=
  (.seq (.region false [⟨some 169, none, .bin .eql (.s 6) (.c (.t (.int .i64 7)))⟩,
    ⟨some 168, none, .mv (.s 169)⟩] [] [1, 2, 168]) c190_9)
def c190_11 : ACode :=
  (.cond (.s 143) c190_7 c190_10)
def c190_12 : ACode :=
  (.seq (.region false [⟨some 144, none, .bin .eql (.s 6) (.c (.t (.int .i64 6)))⟩,
    ⟨some 143, none, .mv (.s 144)⟩] [] [1, 2, 6, 143]) c190_11)
def c190_13 : ACode :=
  (.cond (.s 127) c190_6 c190_12)
def c190_14 : ACode :=
  (.seq (.region false [⟨some 128, none, .bin .eql (.s 6) (.c (.t (.int .i64 5)))⟩,
    ⟨some 127, none, .mv (.s 128)⟩] [] [1, 2, 6, 127]) c190_13)
def c190_15 : ACode :=
  (.cond (.s 90) c190_5 c190_14)
def c190_16 : ACode :=
  (.seq (.region false [⟨some 91, none, .bin .eql (.s 6) (.c (.t (.int .i64 4)))⟩,
    ⟨some 90, none, .mv (.s 91)⟩] [] [1, 2, 6, 90]) c190_15)
def c190_17 : ACode :=
  (.cond (.s 73) c190_4 c190_16)
def c190_18 : ACode :=
  (.seq (.region false [⟨some 74, none, .bin .eql (.s 6) (.c (.t (.int .i64 3)))⟩,
    ⟨some 73, none, .mv (.s 74)⟩] [] [1, 2, 6, 73]) c190_17)
def c190_19 : ACode :=
  (.cond (.s 56) c190_3 c190_18)
def c190_20 : ACode :=
  (.seq (.region false [⟨some 57, none, .bin .eql (.s 6) (.c (.t (.int .i64 2)))⟩,
    ⟨some 56, none, .mv (.s 57)⟩] [] [1, 2, 6, 56]) c190_19)
def c190_21 : ACode :=
  (.cond (.s 29) c190_2 c190_20)
def c190_22 : ACode :=
  (.seq (.region false [⟨some 30, none, .bin .eql (.s 6) (.c (.t (.int .i64 1)))⟩,
    ⟨some 29, none, .mv (.s 30)⟩] [] [1, 2, 6, 29]) c190_21)
def c190_23 : ACode :=
  (.cond (.s 7) c190_1 c190_22)
def c190_24 : ACode :=
  (.seq (.region false [⟨some 8, none, .bin .eql (.s 6) (.c (.t (.int .i64 0)))⟩,
    ⟨some 7, none, .mv (.s 8)⟩] [] [1, 2, 6, 7]) c190_23)
def c190_25 : ACode :=
  (.block 0 c190_24)
def c190_26 : ACode :=
  (.seq (.seq (.region false [⟨some 5, none, .fa 0 (.s 2)⟩,
    ⟨some 6, none, .ld false 1 (.s 5)⟩] [] [1, 2, 6]) c190_25) c190_0)
def c190 : ACode :=
  (.seq (.region false [⟨some 2, none, .box 5 (.s 0)⟩,
    ⟨some 4, none, .cst (.t (.bool false))⟩] [] [1, 2]) c190_26)
def r190 : List ARes := [.tmp 4]
def n190 : Nat := 193
/- 191 supergraph supergraphref02.twice -/
def c191_0 : ACode :=
  (.seq (.region false [⟨some 2, none, .cst (.t (.bool false))⟩] [] [2]) .ret)
def c191_1 : ACode :=
  (.region false [⟨some 9, none, .mv (.s 3)⟩,
    ⟨some 10, none, .bin .add (.s 9) (.c (.t (.int .i64 1)))⟩,
    ⟨some 3, none, .mv (.s 10)⟩] [] [0, 3])
def c191_2 : ACode :=
  (.region false [⟨some 14, none, .mv (.s 4)⟩,
    ⟨some 15, none, .bin .add (.s 14) (.c (.t (.int .i64 1)))⟩,
    ⟨some 4, none, .mv (.s 15)⟩] [] [0, 3, 4])
def c191_3 : ACode :=
  (.seq (.region false [⟨some 2, none, .cst (.t (.bool true))⟩] [] [2]) .ret)
def c191_4 : ACode :=
  (.cond (.s 24) c191_3 .skip)
def c191_5 : ACode :=
  (.seq (.region true [⟨some 16, none, .mv (.s 0)⟩,
    ⟨some 17, none, .mv (.s 3)⟩,
    ⟨some 18, none, .ia 1 (.s 16) (.s 17)⟩,
    ⟨some 19, none, .ld false 1 (.s 18)⟩,
    ⟨some 20, none, .mv (.s 0)⟩,
    ⟨some 21, none, .mv (.s 4)⟩,
    ⟨some 22, none, .ia 1 (.s 20) (.s 21)⟩,
    ⟨some 23, none, .ld false 1 (.s 22)⟩,
    ⟨some 24, none, .bin .eql (.s 19) (.s 23)⟩] [[], [], [0, 1], [2], [], [], [4, 5], [6], [3, 7]] [0, 3, 4, 24]) c191_4)
def c191_6 : ACode :=
  (.seq (.block 3 c191_5) c191_2)
def c191_7 : ACode :=
  (.cond (.s 13) .skip (.exit 2))
def c191_8 : ACode :=
  (.seq (.seq (.region false [⟨some 11, none, .mv (.s 4)⟩,
    ⟨some 12, none, .mv (.s 3)⟩,
    ⟨some 13, none, .bin .lss (.s 11) (.s 12)⟩] [] [0, 3, 4, 13]) c191_7) c191_6)
def c191_9 : ACode :=
  (.loop c191_8)
def c191_10 : ACode :=
  (.block 2 c191_9)
def c191_11 : ACode :=
  (.seq (.region false [⟨some 4, none, .cst (.t (.int .i64 0))⟩] [] [0, 3, 4]) c191_10)
def c191_12 : ACode :=
  (.seq (.block 1 c191_11) c191_1)
def c191_13 : ACode :=
  (.cond (.s 8) .skip (.exit 0))
def c191_14 : ACode :=
  (.seq (.seq (.region false [⟨some 5, none, .mv (.s 3)⟩,
    ⟨some 6, none, .mv (.s 0)⟩,
    ⟨some 7, none, .len (.s 6)⟩,
    ⟨some 8, none, .bin .lss (.s 5) (.s 7)⟩] [] [0, 3, 8]) c191_13) c191_12)
def c191_15 : ACode :=
  (.loop c191_14)
def c191_16 : ACode :=
  (.block 0 c191_15)
def c191_17 : ACode :=
  (.seq (.seq (.region false [⟨some 3, none, .cst (.t (.int .i64 0))⟩] [] [0, 3]) c191_16) c191_0)
def c191 : ACode :=
  (.seq (.region false [⟨some 2, none, .cst (.t (.bool false))⟩] [] [0]) c191_17)
def r191 : List ARes := [.tmp 2]
def n191 : Nat := 25

end Go.GB.C11


/-
  GbY: calls of functions that are handed objects: the whole store goes along.
-/
namespace Go.GB
section
variable {P : Program}

/-- the labels behind a call that was handed the names below m -/
def L.backFrom (Λ : L) (m m' : Nat) (Λ' : L) : L where
  lab := fun b => if Λ.high m b then Λ.lab b else Λ'.lab b
  fro := fun k => if k < m' then Λ'.fro k else Λ.fro k
  nxt := Λ.nxt
  w := Λ'.w

theorem FnOk.same {f : FuncId} {vs : List V} {m : Nat} {sto : List (Nat × AObj)} {out : Out} (h : FnOk P f vs ⟨sto, m⟩ out) (hrd : out.rd = true) (hb : V.bds m vs = true) (hs : stoBd m sto = true) (hob : ∀ k o, (k, o) ∈ out.ob → aget sto k ≠ none ∨ (m ≤ k ∧ k < m + out.n)) : FnAt P f vs m sto out := by
  refine ⟨h.1, hob, fun Λ args hr hle hfree hsz hargs => ?_⟩
  refine (h.2 (Λ.hideFrom m) args (hr.hf hs) rfl hsz fun j v y h1 h2 => (hargs j v y h1 h2).hf (V.bds_at hb j y h2)).mono fun e w' he => ?_
  obtain ⟨v, Λ', rfl, rfl, k1, k2, k3, k4⟩ := he
  simp only at k2 k3
  have hlt : ∀ {b : Nat}, Λ.high m b = true → b < Λ.w.heap.size := by
    intro b hh
    rcases Nat.lt_or_ge b Λ.w.heap.size with h | h
    · exact h
    · unfold L.high at hh; rw [hr.new b h] at hh; simp at hh
  have hH : ∀ {b : Nat}, Λ.high m b = true → (Λ.backFrom m (m + out.n) Λ').lab b = Λ.lab b := fun h => by simp [L.backFrom, h]
  have hL : ∀ {b : Nat}, Λ.high m b = false → (Λ.backFrom m (m + out.n) Λ').lab b = Λ'.lab b := fun h => by simp [L.backFrom, h]
  have hheap : ∀ {b : Nat}, Λ.high m b = true → ∃ fr, Λ'.lab b = .fix (some fr) ∧ Λ'.w.heap[b]? = Λ.w.heap[b]? ∧ ((∃ k, Λ.lab b = .obj k ∧ m ≤ k ∧ fr = 0) ∨ ∃ k, Λ.lab b = .arr k fr ∧ m ≤ k) := by
    intro b hh
    obtain ⟨fr, e1, e2⟩ := hf_high hh
    obtain ⟨g1, g2⟩ := k1.fr.fix b (hlt hh) _ e1
    exact ⟨fr, g1, g2, e2⟩
  have hlow : ∀ {b k : Nat}, k < m → (Λ.lab b = .obj k ∨ ∃ n, Λ.lab b = .arr k n) → Λ.high m b = false := by
    intro b k hk hb
    unfold L.high
    rcases hb with hb | ⟨n, hb⟩ <;> rw [hb] <;> simp <;> omega
  have hkp : Kp Λ (Λ.backFrom m (m + out.n) Λ') := by
    refine ⟨⟨k1.fr.os, k1.fr.tape, k1.fr.output, k1.fr.size, fun b hb fr hl => ?_, fun b hb k fr hl o ho => ?_⟩, Nat.le_refl _, fun b k _ hl => ?_, fun b k n _ hb hl hf => ?_, fun k hk => ?_⟩
    · have hh : Λ.high m b = false := by unfold L.high; rw [hl]
      obtain ⟨g1, g2⟩ := k1.fr.fix b hb fr (by rw [hf_low hh]; exact hl)
      exact ⟨by rw [hL hh]; exact g1, g2⟩
    · cases hh : Λ.high m b with
      | true =>
        obtain ⟨fr', g1, g2, g3⟩ := hheap hh
        exact ⟨by unfold Rd; rw [hH hh, hl]; exact ho, cell?_heap g2⟩
      | false =>
        obtain ⟨g1, g2⟩ := k1.fr.arr b hb k fr (by rw [hf_low hh]; exact hl) o ho
        exact ⟨by unfold Rd; rw [hL hh]; exact g1, g2⟩
    · cases hh : Λ.high m b with
      | true => rw [hH hh]; exact hl
      | false =>
        have hk : k < m := by unfold L.high at hh; rw [hl] at hh; simpa using hh
        rw [hL hh]; exact k1.obj b k hk (hf_obj hl hk)
    · cases hh : Λ.high m b with
      | true =>
        obtain ⟨fr', g1, g2, g3⟩ := hheap hh
        exact ⟨by rw [hH hh]; exact hl, g2⟩
      | false =>
        have hk : k < m := by unfold L.high at hh; rw [hl] at hh; simpa using hh
        have e1 : (Λ.hideFrom m).fro k = Λ.fro k := by simp [L.hideFrom, hk]
        have e2 : (Λ.backFrom m (m + out.n) Λ').fro k = Λ'.fro k := by simp [L.backFrom]; omega
        obtain ⟨g1, g2⟩ := k1.own b k n hk hb (hf_arr hl hk) (by rw [← e2, hf, e1])
        exact ⟨by rw [hL hh]; exact g1, g2⟩
    · simp only [L.backFrom]
      by_cases h1 : k < m
      · have := k1.fro k h1
        have e1 : (Λ.hideFrom m).fro k = Λ.fro k := by simp [L.hideFrom, h1]
        rw [if_pos (by omega)]; omega
      · by_cases h2 : k < m + out.n
        · rw [if_pos h2, (hfree k (by omega) h2).2.1.fro]; omega
        · rw [if_neg h2]; exact Nat.le_refl _
  -- values of the callee, seen again by the caller
  have hobj : ∀ {b k : Nat}, Λ'.lab b = .obj k → (Λ.backFrom m (m + out.n) Λ').lab b = .obj k := by
    intro b k hb
    cases hh : Λ.high m b with
    | true => obtain ⟨fr, g1, _⟩ := hheap hh; rw [g1] at hb; simp at hb
    | false => rw [hL hh]; exact hb
  have harr : ∀ {b k n : Nat}, Λ'.lab b = .arr k n → (Λ.backFrom m (m + out.n) Λ').lab b = .arr k n := by
    intro b k n hb
    cases hh : Λ.high m b with
    | true => obtain ⟨fr, g1, _⟩ := hheap hh; rw [g1] at hb; simp at hb
    | false => rw [hL hh]; exact hb
  have hrep : ∀ {u : Value} {y : T}, RepT Λ'.lab Λ'.w u y → RepT (Λ.backFrom m (m + out.n) Λ').lab (Λ.backFrom m (m + out.n) Λ').w u y := by
    intro u y hy
    refine hy.keep fun b o _ _ hrd => ⟨?_, rfl⟩
    cases hh : Λ.high m b with
    | true =>
      obtain ⟨fr, g1, _, g3⟩ := hheap hh
      unfold Rd at hrd ⊢
      rw [g1] at hrd
      rw [hH hh]
      rcases g3 with ⟨k, e, _, rfl⟩ | ⟨k, e, _⟩
      · omega
      · rw [e]; exact hrd
    | false => unfold Rd; rw [hL hh]; exact hrd
  have hfro : ∀ {k : Nat}, k < Λ'.nxt → (Λ.backFrom m (m + out.n) Λ').fro k = Λ'.fro k := by
    intro k hk; rw [k2] at hk; simp [L.backFrom, hk]
  have hval : ∀ {u : Value} {y : V}, RelV Λ' u y → RelV (Λ.backFrom m (m + out.n) Λ') u y := by
    intro u y hy
    induction hy with
    | t h => exact .t (hrep h)
    | nils => exact .nils
    | @own v k sz xs h hsz hl hn ho =>
      refine .own (hrep h) hsz (by show k < Λ.nxt; omega) (by rw [hfro hl]; exact hn) fun he => ?_
      rcases ho (by rw [← hfro hl]; exact he) with ho | ⟨b, cap, arr, e, hv, hb', hh, hc, hn'⟩
      · exact .inl ho
      · exact .inr ⟨b, cap, arr, e, hv, harr hb', hh, hc, hn'⟩
    | slc hl hc h => exact .slc (by show _ < Λ.nxt; omega) hc (hobj h)
    | agg hs _ ih => exact .agg hs ih
    | tup hs _ ih => exact .tup hs ih
    | ptr hl h => exact .ptr (by show _ < Λ.nxt; omega) (hobj h)
    | mp hl h => exact .mp (by show _ < Λ.nxt; omega) (hobj h)
    | fn hs h => exact .fn hs fun j v c h1 h2 => let ⟨b, e1, e2, e3⟩ := h j v c h1 h2; ⟨b, e1, hobj e2, by show _ < Λ.nxt; omega⟩
    | gd _ h' ih => exact .gd ih h'
    | top => exact .top
    | ub h h' => exact .ub h h'
  have hname : ∀ {b k : Nat}, Λ.high m b = true → ((Λ.backFrom m (m + out.n) Λ').lab b = .obj k ∨ ∃ n, (Λ.backFrom m (m + out.n) Λ').lab b = .arr k n) → m + out.n ≤ k ∧ (Λ.lab b = .obj k ∨ ∃ n, Λ.lab b = .arr k n) := by
    intro b k hh hb
    rw [hH hh] at hb
    refine ⟨?_, hb⟩
    have hge : m ≤ k := by unfold L.high at hh; rcases hb with hb | ⟨n, hb⟩ <;> rw [hb] at hh <;> simpa using hh
    rcases Nat.lt_or_ge k (m + out.n) with h | h
    · have := (hfree k hge h).2.1
      rcases hb with hb | ⟨n, hb⟩
      · exact absurd hb (this.obj b)
      · exact absurd hb (this.arr b n)
    · exact h
  have hlowname : ∀ {b k : Nat}, Λ.high m b = false → ((Λ.backFrom m (m + out.n) Λ').lab b = .obj k ∨ ∃ n, (Λ.backFrom m (m + out.n) Λ').lab b = .arr k n) → k < m + out.n ∧ (Λ'.lab b = .obj k ∨ ∃ n, Λ'.lab b = .arr k n) := by
    intro b k hh hb
    rw [hL hh] at hb
    have := k3.bnd b k hb
    exact ⟨by omega, hb⟩
  refine ⟨v, Λ.backFrom m (m + out.n) Λ', rfl, rfl, hkp, rfl, ?_, hval k4, fun k hk hn hcase => ?_⟩
  · refine ⟨fun k o ho => ?_, fun b b' k h1 h2 => ?_, fun b hb => ?_, fun b k hb => ?_, fun k hk => ?_⟩
    · obtain ⟨g1, g2⟩ := k3.sto k o ho
      refine ⟨by show k < Λ.nxt; omega, ?_⟩
      cases o with
      | cells cs =>
        obtain ⟨b, arr, e, e1, e2, e3, e4⟩ := g2
        exact ⟨b, arr, e, hobj e1, e2, e3, fun j v c a1 a2 => hval (e4 j v c a1 a2)⟩
      | map kag es sx =>
        obtain ⟨b, ents, clock, e1, e2, e3⟩ := g2
        exact ⟨b, ents, clock, hobj e1, e2, e3.keep (fun _ _ h => hrep h) (fun _ _ _ _ h => hval h)⟩
      | arr n => unfold RelO at *; rw [hfro g1]; exact g2
      | iter q s seen c =>
        obtain ⟨b, bm, e1, e2, e3, e4⟩ := g2
        exact ⟨b, bm, hobj e1, e2, hobj e3, by show q < Λ.nxt; omega⟩
    · cases hh : Λ.high m b with
      | true =>
        obtain ⟨q1, q2⟩ := hname hh (.inl h1)
        cases hh' : Λ.high m b' with
        | true =>
          rw [hH hh] at h1; rw [hH hh'] at h2
          exact hr.inj b b' k h1 h2
        | false => have := (hlowname hh' (.inl h2)).1; omega
      | false =>
        have q := (hlowname hh (.inl h1)).1
        cases hh' : Λ.high m b' with
        | true => have := (hname hh' (.inl h2)).1; omega
        | false => rw [hL hh] at h1; rw [hL hh'] at h2; exact k3.inj b b' k h1 h2
    · have hge : Λ.w.heap.size ≤ b := Nat.le_trans k1.fr.size hb
      have hh : Λ.high m b = false := by unfold L.high; rw [hr.new b hge]
      rw [hL hh]; exact k3.new b hb
    · show k < Λ.nxt
      cases hh : Λ.high m b with
      | true => exact hr.bnd b k (hname hh hb).2
      | false => have := (hlowname hh hb).1; omega
    · have hk' : Λ.nxt ≤ k := hk
      simp only [L.backFrom]
      rw [if_neg (by omega)]; exact hr.frz k hk'
  · rcases hcase with hge | ⟨hlt', hrd'⟩
    · refine ⟨fun b hb => ?_, fun b n hb => ?_, ?_⟩
      · cases hh : Λ.high m b with
        | true => rw [hH hh] at hb; exact hk.obj b hb
        | false => have := (hlowname hh (.inl hb)).1; omega
      · cases hh : Λ.high m b with
        | true => rw [hH hh] at hb; exact hk.arr b n hb
        | false => have := (hlowname hh (.inr ⟨n, hb⟩)).1; omega
      · simp only [L.backFrom]; rw [if_neg (by omega)]; exact hk.fro
    · rw [hrd] at hrd'; cases hrd'

/-- a call that is handed the whole store and leaves it as it is -/
theorem callSame {f : FuncId} {vs : List V} {x : V} {base : Nat} {sto : List (Nat × AObj)} {K : Out → Prop} (h : FnOk P f vs ⟨sto, base⟩ { v := x, rd := true }) (hb : V.bds base vs = true) (hs : stoBd base sto = true) (hk : K { v := x, rd := true }) : FnEv P f vs base sto K :=
  ⟨_, by simp only [if_true]; exact h.same rfl hb hs (by simp), hk⟩

end
end Go.GB


/-
  GbYe: objects that are lists, and maps of a type, without names in them.
-/
namespace Go.GB
def mE {κ ν : Type} (ek : κ → List T) (ev : ν → T) (l : List (κ × ν)) : List (List T × V) := l.map fun e => (ek e.1, .t (ev e.2))
def cE {ν : Type} (ev : ν → T) (l : List ν) : List V := l.map fun x => .t (ev x)
theorem V.bds_cE {ν : Type} (m : Nat) (ev : ν → T) : ∀ (l : List ν), V.bds m (cE ev l) = true
  | [] => rfl
  | x :: r => by have := V.bds_cE m ev r; simp only [cE] at this; simp [cE, V.bds, V.bd, this]
theorem LeXs.cE {ν : Type} {m m' : Nat} {ev : ν → T} {l l' : List ν} (h : l = l') : LeXs m m' (cE ev l) (cE ev l') := h ▸ .same (V.bds_cE m ev l)
theorem LeO.cE {ν : Type} {m m' : Nat} {ev : ν → T} {l l' : List ν} (h : l = l') : LeO m m' (.cells (cE ev l)) (.cells (cE ev l')) := .cells (.cE h)
theorem LeO.mE {κ ν : Type} {m m' : Nat} {kag : Bool} {ek : κ → List T} {ev : ν → T} {l l' : List (κ × ν)} {sx sx' : Option (Nat × List Nat)} (h : l = l') (hs : sx' = none ∨ sx' = sx) : LeO m m' (.map kag (mE ek ev l) sx) (.map kag (mE ek ev l') sx') := by
  subst h
  have := V.bds_cE m (fun e : κ × ν => ev e.2) l
  simp only [Go.GB.cE] at this
  exact .map rfl (by simp only [Go.GB.mE, List.map_map, Function.comp_def]; exact .same this) hs

end Go.GB

