/-
  YtifhefgdimgkiaaP3: lemmas of this proof (part 3). No conditions.
-/
import Derived.Test.YtifhefgdimgkiaaP2

/-
  C26Code: the code of chapter 26's functions as abstract code (printed by program).
-/
namespace Go.GB.C26
open Go.GB
/- 3 supergraph supergraphlaw26.ReachGraphs -/
def c3_0 : ACode :=
  (.seq (.region true [⟨some 11, none, .ld true 4 (.s 3)⟩,
    ⟨some 12, none, .mv (.s 1)⟩,
    ⟨some 13, none, .mv (.s 2)⟩,
    ⟨some 14, none, .call 12 [(.s 11), (.s 12), (.s 13)]⟩,
    ⟨some 15, none, .ld true 4 (.s 3)⟩,
    ⟨some 16, none, .mv (.s 1)⟩,
    ⟨some 17, none, .mv (.s 2)⟩,
    ⟨some 18, none, .call 13 [(.s 15), (.s 16), (.s 17)]⟩,
    ⟨some 19, none, .call 11 [(.s 14), (.s 18)]⟩,
    ⟨some 20, none, .mv (.s 19)⟩,
    ⟨some 21, some (20, true), .call 10 []⟩,
    ⟨some 22, none, .pick (.s 20) (.s 21) (.c (.t (.bool false)))⟩,
    ⟨some 6, none, .mv (.s 22)⟩] [[], [], [], [0, 1, 2], [], [], [], [4, 5, 6, 3], [3, 7, 7], [8, 8], [9, 9], [9, 10], [11, 10, 0, 1, 2, 3, 4, 5, 6, 7, 8, 9, 10, 11]] [6]) .ret)
def c3_1 : ACode :=
  (.seq (.region false [⟨some 10, none, .call 10 []⟩,
    ⟨some 6, none, .mv (.s 10)⟩] [] [6]) .ret)
def c3_2 : ACode :=
  (.cond (.s 9) c3_1 .skip)
def c3_3 : ACode :=
  (.seq (.seq (.region false [⟨some 7, none, .ld true 4 (.s 3)⟩,
    ⟨some 8, none, .mv (.s 2)⟩,
    ⟨some 9, none, .call 9 [(.s 7), (.s 8)]⟩] [] [1, 2, 3, 9]) c3_2) c3_0)
def c3 : ACode :=
  (.seq (.region false [⟨some 3, none, .box 4 (.s 0)⟩,
    ⟨some 6, none, .cst (.t (.bool false))⟩] [] [1, 2, 3]) c3_3)
def r3 : List ARes := [.tmp 6]
def n3 : Nat := 23
/- 4 supergraph supergraphlaw26.ReachGrows -/
def c4_0 : ACode :=
  (.seq (.region false [⟨some 177, none, .mv (.s 16)⟩,
    ⟨some 178, none, .un .not (.s 177)⟩,
    ⟨some 179, none, .mv (.s 178)⟩,
    ⟨some 180, some (179, false), .mv (.s 18)⟩,
    ⟨some 181, some (179, false), .mv (.s 180)⟩,
    ⟨some 182, some (181, true), .mv (.s 17)⟩,
    ⟨some 183, some (181, true), .mv (.s 15)⟩,
    ⟨some 184, some (181, true), .bin .leq (.s 182) (.s 183)⟩,
    ⟨some 185, some (179, false), .pick (.s 181) (.s 184) (.c (.t (.bool false)))⟩,
    ⟨some 186, none, .pick (.s 179) (.c (.t (.bool true))) (.s 185)⟩,
    ⟨some 187, none, .mv (.s 186)⟩,
    ⟨some 188, some (187, true), .call 10 []⟩,
    ⟨some 189, none, .pick (.s 187) (.s 188) (.c (.t (.bool false)))⟩,
    ⟨some 6, none, .mv (.s 189)⟩] [] [6]) .ret)
def c4_1 : ACode :=
  (.seq (.region false [⟨some 168, none, .ld true 4 (.s 3)⟩,
    ⟨some 169, none, .fa 0 (.s 4)⟩,
    ⟨some 170, none, .ld false 1 (.s 169)⟩,
    ⟨some 171, none, .mv (.s 7)⟩,
    ⟨some 172, none, .fa 2 (.s 4)⟩,
    ⟨some 173, none, .ld false 1 (.s 172)⟩,
    ⟨some 174, none, .call 14 [(.s 168), (.s 170), (.s 171), (.s 173)]⟩,
    ⟨some 167, none, .mv (.s 174)⟩,
    ⟨some 175, none, .ext (.s 167) 0⟩,
    ⟨some 176, none, .ext (.s 167) 1⟩,
    ⟨some 17, none, .mv (.s 175)⟩,
    ⟨some 18, none, .mv (.s 176)⟩] [] [15, 16, 17, 18]) c4_0)
def c4_2 : ACode :=
  (.seq (.region false [⟨some 157, none, .ld true 4 (.s 3)⟩,
    ⟨some 158, none, .fa 0 (.s 4)⟩,
    ⟨some 159, none, .ld false 1 (.s 158)⟩,
    ⟨some 160, none, .fa 1 (.s 4)⟩,
    ⟨some 161, none, .ld false 1 (.s 160)⟩,
    ⟨some 162, none, .fa 2 (.s 4)⟩,
    ⟨some 163, none, .ld false 1 (.s 162)⟩,
    ⟨some 164, none, .call 14 [(.s 157), (.s 159), (.s 161), (.s 163)]⟩,
    ⟨some 156, none, .mv (.s 164)⟩,
    ⟨some 165, none, .ext (.s 156) 0⟩,
    ⟨some 166, none, .ext (.s 156) 1⟩,
    ⟨some 15, none, .mv (.s 165)⟩,
    ⟨some 16, none, .mv (.s 166)⟩] [] [3, 4, 7, 15, 16]) c4_1)
def c4_3 : ACode :=
  (.region false [⟨some 105, none, .mv (.s 14)⟩,
    ⟨some 106, none, .bin .add (.s 105) (.c (.t (.int .i64 1)))⟩,
    ⟨some 14, none, .mv (.s 106)⟩] [] [3, 4, 7, 11, 12, 13, 14])
def c4_4 : ACode :=
  (.seq (.region false [⟨some 6, none, .cst (.t (.bool false))⟩] [] [6]) .ret)
def c4_5 : ACode :=
  (.cond (.s 155) c4_4 .skip)
def c4_6 : ACode :=
  (.seq (.region true [⟨some 107, none, .mv (.s 11)⟩,
    ⟨some 108, none, .mv (.s 14)⟩,
    ⟨some 109, none, .ia 1 (.s 107) (.s 108)⟩,
    ⟨some 110, none, .ld false 1 (.s 109)⟩,
    ⟨some 111, none, .bin .gtr (.s 110) (.c (.t (.int .i64 0)))⟩,
    ⟨some 112, none, .mv (.s 111)⟩,
    ⟨some 113, some (112, true), .mv (.s 12)⟩,
    ⟨some 114, some (112, true), .mv (.s 14)⟩,
    ⟨some 115, some (112, true), .ia 1 (.s 113) (.s 114)⟩,
    ⟨some 116, some (112, true), .ld false 1 (.s 115)⟩,
    ⟨some 117, some (112, true), .bin .lss (.s 116) (.c (.t (.int .i64 1)))⟩,
    ⟨some 118, some (112, true), .mv (.s 117)⟩,
    ⟨some 119, some (118, false), .mv (.s 12)⟩,
    ⟨some 120, some (118, false), .mv (.s 14)⟩,
    ⟨some 121, some (118, false), .ia 1 (.s 119) (.s 120)⟩,
    ⟨some 122, some (118, false), .ld false 1 (.s 121)⟩,
    ⟨some 123, some (118, false), .mv (.s 11)⟩,
    ⟨some 124, some (118, false), .mv (.s 14)⟩,
    ⟨some 125, some (118, false), .ia 1 (.s 123) (.s 124)⟩,
    ⟨some 126, some (118, false), .ld false 1 (.s 125)⟩,
    ⟨some 127, some (118, false), .bin .gtr (.s 122) (.s 126)⟩,
    ⟨some 128, some (112, true), .pick (.s 118) (.c (.t (.bool true))) (.s 127)⟩,
    ⟨some 129, some (112, true), .mv (.s 128)⟩,
    ⟨some 130, some (129, false), .mv (.s 13)⟩,
    ⟨some 131, some (129, false), .mv (.s 14)⟩,
    ⟨some 132, some (129, false), .ia 1 (.s 130) (.s 131)⟩,
    ⟨some 133, some (129, false), .ld false 1 (.s 132)⟩,
    ⟨some 134, some (129, false), .mv (.s 11)⟩,
    ⟨some 135, some (129, false), .mv (.s 14)⟩,
    ⟨some 136, some (129, false), .ia 1 (.s 134) (.s 135)⟩,
    ⟨some 137, some (129, false), .ld false 1 (.s 136)⟩,
    ⟨some 138, some (129, false), .bin .add (.s 137) (.c (.t (.int .i64 1)))⟩,
    ⟨some 139, some (129, false), .bin .neq (.s 133) (.s 138)⟩,
    ⟨some 140, some (112, true), .pick (.s 129) (.c (.t (.bool true))) (.s 139)⟩,
    ⟨some 141, none, .pick (.s 112) (.s 140) (.c (.t (.bool false)))⟩,
    ⟨some 142, none, .mv (.s 141)⟩,
    ⟨some 143, some (142, false), .mv (.s 11)⟩,
    ⟨some 144, some (142, false), .mv (.s 14)⟩,
    ⟨some 145, some (142, false), .ia 1 (.s 143) (.s 144)⟩,
    ⟨some 146, some (142, false), .ld false 1 (.s 145)⟩,
    ⟨some 147, some (142, false), .bin .eql (.s 146) (.c (.t (.int .i64 0)))⟩,
    ⟨some 148, some (142, false), .mv (.s 147)⟩,
    ⟨some 149, some (148, true), .mv (.s 13)⟩,
    ⟨some 150, some (148, true), .mv (.s 14)⟩,
    ⟨some 151, some (148, true), .ia 1 (.s 149) (.s 150)⟩,
    ⟨some 152, some (148, true), .ld false 1 (.s 151)⟩,
    ⟨some 153, some (148, true), .bin .neq (.s 152) (.c (.t (.int .i64 0)))⟩,
    ⟨some 154, some (142, false), .pick (.s 148) (.s 153) (.c (.t (.bool false)))⟩,
    ⟨some 155, none, .pick (.s 142) (.c (.t (.bool true))) (.s 154)⟩] [[], [], [0, 1], [2], [3], [4], [5], [5], [6, 7, 5], [8, 5], [9, 5], [10, 5, 5], [11], [11], [12, 13, 11], [14, 11], [11], [11], [16, 17, 11], [18, 11], [15, 19, 11], [11, 20, 5], [21, 11, 5], [22], [22], [23, 24, 22], [25, 22], [22], [22], [27, 28, 22], [29, 22], [30, 22], [26, 31, 22], [22, 32, 5], [5, 33], [34, 22], [35], [35], [36, 37, 35], [38, 35], [39, 35], [40, 35, 35], [41], [41], [42, 43, 41], [44, 41], [45, 41], [41, 46, 35], [35, 47]] [3, 4, 7, 11, 12, 13, 14, 155]) c4_5)
def c4_7 : ACode :=
  (.seq (.block 3 c4_6) c4_3)
def c4_8 : ACode :=
  (.cond (.s 104) .skip (.exit 2))
def c4_9 : ACode :=
  (.seq (.seq (.region false [⟨some 101, none, .mv (.s 14)⟩,
    ⟨some 102, none, .mv (.s 11)⟩,
    ⟨some 103, none, .len (.s 102)⟩,
    ⟨some 104, none, .bin .lss (.s 101) (.s 103)⟩] [] [3, 4, 7, 11, 12, 13, 14, 104]) c4_8) c4_7)
def c4_10 : ACode :=
  (.loop c4_9)
def c4_11 : ACode :=
  (.block 2 c4_10)
def c4_12 : ACode :=
  (.seq (.seq (.region false [⟨some 14, none, .cst (.t (.int .i64 0))⟩] [] [3, 4, 7, 11, 12, 13, 14]) c4_11) c4_2)
def c4_13 : ACode :=
  (.seq (.region false [⟨some 6, none, .cst (.t (.bool false))⟩] [] [6]) .ret)
def c4_14 : ACode :=
  (.cond (.s 100) c4_13 .skip)
def c4_15 : ACode :=
  (.seq (.seq (.region false [⟨some 81, none, .mv (.s 11)⟩,
    ⟨some 82, none, .len (.s 81)⟩,
    ⟨some 83, none, .fa 0 (.s 3)⟩,
    ⟨some 84, none, .ld false 1 (.s 83)⟩,
    ⟨some 85, none, .len (.s 84)⟩,
    ⟨some 86, none, .bin .neq (.s 82) (.s 85)⟩,
    ⟨some 87, none, .mv (.s 86)⟩,
    ⟨some 88, some (87, false), .mv (.s 12)⟩,
    ⟨some 89, some (87, false), .len (.s 88)⟩,
    ⟨some 90, some (87, false), .mv (.s 11)⟩,
    ⟨some 91, some (87, false), .len (.s 90)⟩,
    ⟨some 92, some (87, false), .bin .neq (.s 89) (.s 91)⟩,
    ⟨some 93, none, .pick (.s 87) (.c (.t (.bool true))) (.s 92)⟩,
    ⟨some 94, none, .mv (.s 93)⟩,
    ⟨some 95, some (94, false), .mv (.s 13)⟩,
    ⟨some 96, some (94, false), .len (.s 95)⟩,
    ⟨some 97, some (94, false), .mv (.s 11)⟩,
    ⟨some 98, some (94, false), .len (.s 97)⟩,
    ⟨some 99, some (94, false), .bin .neq (.s 96) (.s 98)⟩,
    ⟨some 100, none, .pick (.s 94) (.c (.t (.bool true))) (.s 99)⟩] [] [3, 4, 7, 11, 12, 13, 100]) c4_14) c4_12)
def c4_16 : ACode :=
  (.seq (.region true [⟨some 65, none, .ld true 4 (.s 3)⟩,
    ⟨some 66, none, .fa 0 (.s 4)⟩,
    ⟨some 67, none, .ld false 1 (.s 66)⟩,
    ⟨some 68, none, .fa 1 (.s 4)⟩,
    ⟨some 69, none, .ld false 1 (.s 68)⟩,
    ⟨some 70, none, .call 12 [(.s 65), (.s 67), (.s 69)]⟩,
    ⟨some 71, none, .ld true 4 (.s 3)⟩,
    ⟨some 72, none, .fa 0 (.s 4)⟩,
    ⟨some 73, none, .ld false 1 (.s 72)⟩,
    ⟨some 74, none, .mv (.s 7)⟩,
    ⟨some 75, none, .call 12 [(.s 71), (.s 73), (.s 74)]⟩,
    ⟨some 76, none, .ld true 4 (.s 3)⟩,
    ⟨some 77, none, .fa 0 (.s 4)⟩,
    ⟨some 78, none, .ld false 1 (.s 77)⟩,
    ⟨some 79, none, .mv (.s 8)⟩,
    ⟨some 80, none, .call 12 [(.s 76), (.s 78), (.s 79)]⟩,
    ⟨some 11, none, .mv (.s 70)⟩,
    ⟨some 12, none, .mv (.s 75)⟩,
    ⟨some 13, none, .mv (.s 80)⟩] [[], [], [1], [], [3], [0, 2, 4], [], [], [7], [], [6, 8, 9, 5], [], [], [12], [], [11, 13, 14, 10], [5, 15, 0, 1, 2, 3, 4, 5], [10, 16, 0, 1, 2, 3, 4, 5, 6, 7, 8, 9, 10, 16], [15, 17, 0, 1, 2, 3, 4, 5, 6, 7, 8, 9, 10, 11, 12, 13, 14, 15, 16, 17]] [3, 4, 7, 11, 12, 13]) c4_15)
def c4_17 : ACode :=
  (.region false [⟨some 41, none, .mv (.s 9)⟩,
    ⟨some 42, none, .bin .add (.s 41) (.c (.t (.int .i64 1)))⟩,
    ⟨some 9, none, .mv (.s 42)⟩] [] [3, 4, 7, 8, 9])
def c4_18 : ACode :=
  (.region false [⟨some 61, none, .mv (.s 8)⟩,
    ⟨some 62, none, .ld true 3 (.s 10)⟩,
    ⟨some 63, none, .bsl false 3 [[.int .i64 0, .int .i64 0, .lst []]] [(0, (.s 62))]⟩,
    ⟨some 64, none, .app 3 40 (.s 61) (.s 63)⟩,
    ⟨some 8, none, .mv (.s 64)⟩] [] [3, 4, 7, 8, 9])
def c4_19 : ACode :=
  (.seq (.region false [⟨some 57, none, .fa 1 (.s 10)⟩,
    ⟨some 58, none, .ld false 1 (.s 57)⟩,
    ⟨some 59, none, .bin .add (.s 58) (.c (.t (.int .i64 1)))⟩,
    ⟨some 60, none, .fa 1 (.s 10)⟩,
    ⟨none, none, .st 1 (.s 60) (.s 59)⟩] [] [3, 4, 7, 8, 9, 10]) c4_18)
def c4_20 : ACode :=
  (.seq (.region false [⟨some 56, none, .call 10 []⟩,
    ⟨some 6, none, .mv (.s 56)⟩] [] [6]) .ret)
def c4_21 : ACode :=
  (.cond (.s 55) c4_20 .skip)
def c4_22 : ACode :=
  (.seq (.seq (.region false [⟨some 48, none, .fa 1 (.s 10)⟩,
    ⟨some 49, none, .ld false 1 (.s 48)⟩,
    ⟨some 50, none, .bin .lss (.s 49) (.c (.t (.int .i64 1)))⟩,
    ⟨some 51, none, .mv (.s 50)⟩,
    ⟨some 52, some (51, false), .fa 1 (.s 10)⟩,
    ⟨some 53, some (51, false), .ld false 1 (.s 52)⟩,
    ⟨some 54, some (51, false), .bin .geq (.s 53) (.c (.t (.int .i64 1099511627776)))⟩,
    ⟨some 55, none, .pick (.s 51) (.c (.t (.bool true))) (.s 54)⟩] [] [3, 4, 7, 8, 9, 10, 55]) c4_21) c4_19)
def c4_23 : ACode :=
  (.seq (.region false [⟨some 43, none, .fa 1 (.s 4)⟩,
    ⟨some 44, none, .ld false 1 (.s 43)⟩,
    ⟨some 45, none, .mv (.s 9)⟩,
    ⟨some 46, none, .ia 3 (.s 44) (.s 45)⟩,
    ⟨some 47, none, .ld true 3 (.s 46)⟩,
    ⟨some 10, none, .alloc [.t (.int .i64 0), .t (.int .i64 0), .nils]⟩,
    ⟨none, none, .st 3 (.s 10) (.s 47)⟩] [] [3, 4, 7, 8, 9, 10]) c4_22)
def c4_24 : ACode :=
  (.seq (.block 1 c4_23) c4_17)
def c4_25 : ACode :=
  (.cond (.s 40) .skip (.exit 0))
def c4_26 : ACode :=
  (.seq (.seq (.region false [⟨some 36, none, .mv (.s 9)⟩,
    ⟨some 37, none, .fa 1 (.s 4)⟩,
    ⟨some 38, none, .ld false 1 (.s 37)⟩,
    ⟨some 39, none, .len (.s 38)⟩,
    ⟨some 40, none, .bin .lss (.s 36) (.s 39)⟩] [] [3, 4, 7, 8, 9, 40]) c4_25) c4_24)
def c4_27 : ACode :=
  (.loop c4_26)
def c4_28 : ACode :=
  (.block 0 c4_27)
def c4_29 : ACode :=
  (.seq (.seq (.region false [⟨some 9, none, .cst (.t (.int .i64 0))⟩] [] [3, 4, 7, 8, 9]) c4_28) c4_16)
def c4_30 : ACode :=
  (.seq (.region false [⟨some 33, none, .mv (.s 7)⟩,
    ⟨some 34, none, .mv (.s 2)⟩,
    ⟨some 35, none, .app 3 40 (.s 33) (.s 34)⟩,
    ⟨some 7, none, .mv (.s 35)⟩] [] [3, 4, 7, 8]) c4_29)
def c4_31 : ACode :=
  (.seq (.region false [⟨some 29, none, .mv (.s 7)⟩,
    ⟨some 30, none, .fa 1 (.s 4)⟩,
    ⟨some 31, none, .ld false 1 (.s 30)⟩,
    ⟨some 32, none, .app 3 40 (.s 29) (.s 31)⟩,
    ⟨some 7, none, .mv (.s 32)⟩] [] [2, 3, 4, 7, 8]) c4_30)
def c4_32 : ACode :=
  (.seq (.region false [⟨some 7, none, .cst (.nils)⟩,
    ⟨some 8, none, .cst (.nils)⟩] [] [2, 3, 4, 7, 8]) c4_31)
def c4_33 : ACode :=
  (.seq (.region false [⟨some 28, none, .call 10 []⟩,
    ⟨some 6, none, .mv (.s 28)⟩] [] [6]) .ret)
def c4_34 : ACode :=
  (.cond (.s 27) c4_33 .skip)
def c4_35 : ACode :=
  (.seq (.seq (.region false [⟨some 19, none, .ld true 4 (.s 3)⟩,
    ⟨some 20, none, .fa 1 (.s 4)⟩,
    ⟨some 21, none, .ld false 1 (.s 20)⟩,
    ⟨some 22, none, .call 9 [(.s 19), (.s 21)]⟩,
    ⟨some 23, none, .mv (.s 22)⟩,
    ⟨some 24, some (23, false), .mv (.s 2)⟩,
    ⟨some 25, some (23, false), .len (.s 24)⟩,
    ⟨some 26, some (23, false), .bin .gtr (.s 25) (.c (.t (.int .i64 20)))⟩,
    ⟨some 27, none, .pick (.s 23) (.c (.t (.bool true))) (.s 26)⟩] [] [2, 3, 4, 27]) c4_34) c4_32)
def c4 : ACode :=
  (.seq (.region false [⟨some 3, none, .box 4 (.s 0)⟩,
    ⟨some 4, none, .box 3 (.s 1)⟩,
    ⟨some 6, none, .cst (.t (.bool false))⟩] [] [2, 3, 4]) c4_35)
def r4 : List ARes := [.tmp 6]
def n4 : Nat := 190
/- 5 supergraph supergraphlaw26.ReachOrders -/
def c5_0 : ACode :=
  (.seq (.region true [⟨some 100, none, .mv (.s 10)⟩,
    ⟨some 101, none, .mv (.s 12)⟩,
    ⟨some 102, none, .bin .eql (.s 100) (.s 101)⟩,
    ⟨some 103, none, .mv (.s 102)⟩,
    ⟨some 104, some (103, true), .mv (.s 11)⟩,
    ⟨some 105, some (103, true), .mv (.s 13)⟩,
    ⟨some 106, some (103, true), .eqb false (.s 104) (.s 105)⟩,
    ⟨some 107, none, .pick (.s 103) (.s 106) (.c (.t (.bool false)))⟩,
    ⟨some 108, none, .mv (.s 107)⟩,
    ⟨some 109, some (108, true), .ld true 4 (.s 2)⟩,
    ⟨some 110, some (108, true), .fa 0 (.s 3)⟩,
    ⟨some 111, some (108, true), .ld false 1 (.s 110)⟩,
    ⟨some 112, some (108, true), .fa 1 (.s 3)⟩,
    ⟨some 113, some (108, true), .ld false 1 (.s 112)⟩,
    ⟨some 114, some (108, true), .call 12 [(.s 109), (.s 111), (.s 113)]⟩,
    ⟨some 115, some (108, true), .ld true 4 (.s 5)⟩,
    ⟨some 116, some (108, true), .fa 0 (.s 3)⟩,
    ⟨some 117, some (108, true), .ld false 1 (.s 116)⟩,
    ⟨some 118, some (108, true), .mv (.s 8)⟩,
    ⟨some 119, some (108, true), .call 12 [(.s 115), (.s 117), (.s 118)]⟩,
    ⟨some 120, some (108, true), .call 11 [(.s 114), (.s 119)]⟩,
    ⟨some 121, none, .pick (.s 108) (.s 120) (.c (.t (.bool false)))⟩,
    ⟨some 122, none, .mv (.s 121)⟩,
    ⟨some 123, some (122, true), .call 10 []⟩,
    ⟨some 124, none, .pick (.s 122) (.s 123) (.c (.t (.bool false)))⟩,
    ⟨some 4, none, .mv (.s 124)⟩] [[], [], [0, 1], [2], [3], [3], [4, 5, 3], [3, 6], [7, 3], [8], [8], [10, 8], [8], [12, 8], [9, 11, 13, 8, 8], [8], [8], [16, 8], [8], [15, 17, 18, 14, 8], [14, 19, 19, 8], [8, 20], [21, 20], [22, 22], [22, 23], [24, 23, 0, 1, 2, 3, 4, 5, 6, 7, 8, 9, 10, 11, 12, 13, 14, 15, 16, 17, 18, 19, 20, 21, 22, 23, 24]] [4]) .ret)
def c5_1 : ACode :=
  (.seq (.region false [⟨some 91, none, .ld true 4 (.s 5)⟩,
    ⟨some 92, none, .fa 0 (.s 3)⟩,
    ⟨some 93, none, .ld false 1 (.s 92)⟩,
    ⟨some 94, none, .mv (.s 8)⟩,
    ⟨some 95, none, .fa 2 (.s 3)⟩,
    ⟨some 96, none, .ld false 1 (.s 95)⟩,
    ⟨some 97, none, .call 14 [(.s 91), (.s 93), (.s 94), (.s 96)]⟩,
    ⟨some 90, none, .mv (.s 97)⟩,
    ⟨some 98, none, .ext (.s 90) 0⟩,
    ⟨some 99, none, .ext (.s 90) 1⟩,
    ⟨some 12, none, .mv (.s 98)⟩,
    ⟨some 13, none, .mv (.s 99)⟩] [] [2, 3, 5, 8, 10, 11, 12, 13]) c5_0)
def c5_2 : ACode :=
  (.seq (.region false [⟨some 80, none, .ld true 4 (.s 2)⟩,
    ⟨some 81, none, .fa 0 (.s 3)⟩,
    ⟨some 82, none, .ld false 1 (.s 81)⟩,
    ⟨some 83, none, .fa 1 (.s 3)⟩,
    ⟨some 84, none, .ld false 1 (.s 83)⟩,
    ⟨some 85, none, .fa 2 (.s 3)⟩,
    ⟨some 86, none, .ld false 1 (.s 85)⟩,
    ⟨some 87, none, .call 14 [(.s 80), (.s 82), (.s 84), (.s 86)]⟩,
    ⟨some 79, none, .mv (.s 87)⟩,
    ⟨some 88, none, .ext (.s 79) 0⟩,
    ⟨some 89, none, .ext (.s 79) 1⟩,
    ⟨some 10, none, .mv (.s 88)⟩,
    ⟨some 11, none, .mv (.s 89)⟩] [] [2, 3, 5, 8, 10, 11]) c5_1)
def c5_3 : ACode :=
  (.region false [⟨some 69, none, .mv (.s 9)⟩,
    ⟨some 70, none, .bin .sub (.s 69) (.c (.t (.int .i64 1)))⟩,
    ⟨some 9, none, .mv (.s 70)⟩] [] [2, 3, 5, 8, 9])
def c5_4 : ACode :=
  (.region false [⟨some 71, none, .mv (.s 8)⟩,
    ⟨some 72, none, .fa 1 (.s 3)⟩,
    ⟨some 73, none, .ld false 1 (.s 72)⟩,
    ⟨some 74, none, .mv (.s 9)⟩,
    ⟨some 75, none, .ia 3 (.s 73) (.s 74)⟩,
    ⟨some 76, none, .ld true 3 (.s 75)⟩,
    ⟨some 77, none, .bsl false 3 [[.int .i64 0, .int .i64 0, .lst []]] [(0, (.s 76))]⟩,
    ⟨some 78, none, .app 3 40 (.s 71) (.s 77)⟩,
    ⟨some 8, none, .mv (.s 78)⟩] [] [2, 3, 5, 8, 9])
def c5_5 : ACode :=
  (.seq (.block 5 c5_4) c5_3)
def c5_6 : ACode :=
  (.cond (.s 68) .skip (.exit 4))
def c5_7 : ACode :=
  (.seq (.seq (.region false [⟨some 67, none, .mv (.s 9)⟩,
    ⟨some 68, none, .bin .geq (.s 67) (.c (.t (.int .i64 0)))⟩] [] [2, 3, 5, 8, 9, 68]) c5_6) c5_5)
def c5_8 : ACode :=
  (.loop c5_7)
def c5_9 : ACode :=
  (.block 4 c5_8)
def c5_10 : ACode :=
  (.seq (.seq (.region false [⟨some 63, none, .fa 1 (.s 3)⟩,
    ⟨some 64, none, .ld false 1 (.s 63)⟩,
    ⟨some 65, none, .len (.s 64)⟩,
    ⟨some 66, none, .bin .sub (.s 65) (.c (.t (.int .i64 1)))⟩,
    ⟨some 9, none, .mv (.s 66)⟩] [] [2, 3, 5, 8, 9]) c5_9) c5_2)
def c5_11 : ACode :=
  (.seq (.region false [⟨some 8, none, .cst (.nils)⟩] [] [2, 3, 5, 8]) c5_10)
def c5_12 : ACode :=
  (.region false [⟨some 51, none, .mv (.s 7)⟩,
    ⟨some 52, none, .bin .sub (.s 51) (.c (.t (.int .i64 1)))⟩,
    ⟨some 7, none, .mv (.s 52)⟩] [] [2, 3, 5, 7])
def c5_13 : ACode :=
  (.region true [⟨some 53, none, .fa 2 (.s 5)⟩,
    ⟨some 54, none, .ld false 1 (.s 53)⟩,
    ⟨some 55, none, .fa 2 (.s 2)⟩,
    ⟨some 56, none, .ld false 1 (.s 55)⟩,
    ⟨some 57, none, .mv (.s 7)⟩,
    ⟨some 58, none, .ia 3 (.s 56) (.s 57)⟩,
    ⟨some 59, none, .ld true 3 (.s 58)⟩,
    ⟨some 60, none, .bsl false 3 [[.str [], .int .i64 0, .lst []]] [(0, (.s 59))]⟩,
    ⟨some 61, none, .app 3 48 (.s 54) (.s 60)⟩,
    ⟨some 62, none, .fa 2 (.s 5)⟩,
    ⟨none, none, .st 1 (.s 62) (.s 61)⟩] [[], [0], [], [2], [], [3, 4], [5], [6], [1, 7], [0, 1, 2, 3, 4, 5, 6, 7, 8], [9, 8, 8, 0, 1, 2, 3, 4, 5, 6, 7, 8]] [2, 3, 5, 7])
def c5_14 : ACode :=
  (.seq (.block 3 c5_13) c5_12)
def c5_15 : ACode :=
  (.cond (.s 50) .skip (.exit 2))
def c5_16 : ACode :=
  (.seq (.seq (.region false [⟨some 49, none, .mv (.s 7)⟩,
    ⟨some 50, none, .bin .geq (.s 49) (.c (.t (.int .i64 0)))⟩] [] [2, 3, 5, 7, 50]) c5_15) c5_14)
def c5_17 : ACode :=
  (.loop c5_16)
def c5_18 : ACode :=
  (.block 2 c5_17)
def c5_19 : ACode :=
  (.seq (.seq (.region false [⟨some 45, none, .fa 2 (.s 2)⟩,
    ⟨some 46, none, .ld false 1 (.s 45)⟩,
    ⟨some 47, none, .len (.s 46)⟩,
    ⟨some 48, none, .bin .sub (.s 47) (.c (.t (.int .i64 1)))⟩,
    ⟨some 7, none, .mv (.s 48)⟩] [] [2, 3, 5, 7]) c5_18) c5_11)
def c5_20 : ACode :=
  (.region false [⟨some 33, none, .mv (.s 6)⟩,
    ⟨some 34, none, .bin .sub (.s 33) (.c (.t (.int .i64 1)))⟩,
    ⟨some 6, none, .mv (.s 34)⟩] [] [2, 3, 5, 6])
def c5_21 : ACode :=
  (.region true [⟨some 35, none, .fa 3 (.s 5)⟩,
    ⟨some 36, none, .ld false 1 (.s 35)⟩,
    ⟨some 37, none, .fa 3 (.s 2)⟩,
    ⟨some 38, none, .ld false 1 (.s 37)⟩,
    ⟨some 39, none, .mv (.s 6)⟩,
    ⟨some 40, none, .ia 6 (.s 38) (.s 39)⟩,
    ⟨some 41, none, .ld true 6 (.s 40)⟩,
    ⟨some 42, none, .bsl false 6 [[.str [], .str [], .int .i64 0, .bool false, .lst [], .lst []]] [(0, (.s 41))]⟩,
    ⟨some 43, none, .app 6 96 (.s 36) (.s 42)⟩,
    ⟨some 44, none, .fa 3 (.s 5)⟩,
    ⟨none, none, .st 1 (.s 44) (.s 43)⟩] [[], [0], [], [2], [], [3, 4], [5], [6], [1, 7], [0, 1, 2, 3, 4, 5, 6, 7, 8], [9, 8, 8, 0, 1, 2, 3, 4, 5, 6, 7, 8]] [2, 3, 5, 6])
def c5_22 : ACode :=
  (.seq (.block 1 c5_21) c5_20)
def c5_23 : ACode :=
  (.cond (.s 32) .skip (.exit 0))
def c5_24 : ACode :=
  (.seq (.seq (.region false [⟨some 31, none, .mv (.s 6)⟩,
    ⟨some 32, none, .bin .geq (.s 31) (.c (.t (.int .i64 0)))⟩] [] [2, 3, 5, 6, 32]) c5_23) c5_22)
def c5_25 : ACode :=
  (.loop c5_24)
def c5_26 : ACode :=
  (.block 0 c5_25)
def c5_27 : ACode :=
  (.seq (.seq (.region false [⟨some 27, none, .fa 3 (.s 2)⟩,
    ⟨some 28, none, .ld false 1 (.s 27)⟩,
    ⟨some 29, none, .len (.s 28)⟩,
    ⟨some 30, none, .bin .sub (.s 29) (.c (.t (.int .i64 1)))⟩,
    ⟨some 6, none, .mv (.s 30)⟩] [] [2, 3, 5, 6]) c5_26) c5_19)
def c5_28 : ACode :=
  (.seq (.region false [⟨some 24, none, .fa 0 (.s 2)⟩,
    ⟨some 25, none, .ld false 1 (.s 24)⟩,
    ⟨some 26, none, .build [.nils, .nils, .nils, .nils] [(0, 1, (.s 25))]⟩,
    ⟨some 5, none, .alloc [.nils, .nils, .nils, .nils]⟩,
    ⟨none, none, .st 4 (.s 5) (.s 26)⟩] [] [2, 3, 5]) c5_27)
def c5_29 : ACode :=
  (.seq (.region false [⟨some 23, none, .call 10 []⟩,
    ⟨some 4, none, .mv (.s 23)⟩] [] [4]) .ret)
def c5_30 : ACode :=
  (.cond (.s 22) c5_29 .skip)
def c5_31 : ACode :=
  (.seq (.seq (.region false [⟨some 14, none, .ld true 4 (.s 2)⟩,
    ⟨some 15, none, .fa 1 (.s 3)⟩,
    ⟨some 16, none, .ld false 1 (.s 15)⟩,
    ⟨some 17, none, .call 9 [(.s 14), (.s 16)]⟩,
    ⟨some 18, none, .mv (.s 17)⟩,
    ⟨some 19, some (18, false), .fa 3 (.s 2)⟩,
    ⟨some 20, some (18, false), .ld false 1 (.s 19)⟩,
    ⟨some 21, some (18, false), .call 15 [(.s 20)]⟩,
    ⟨some 22, none, .pick (.s 18) (.c (.t (.bool true))) (.s 21)⟩] [] [2, 3, 22]) c5_30) c5_28)
def c5 : ACode :=
  (.seq (.region false [⟨some 2, none, .box 4 (.s 0)⟩,
    ⟨some 3, none, .box 3 (.s 1)⟩,
    ⟨some 4, none, .cst (.t (.bool false))⟩] [] [2, 3]) c5_31)
def r5 : List ARes := [.tmp 4]
def n5 : Nat := 125
/- 6 supergraph supergraphlaw26.ReachLevels -/
def c6_0 : ACode :=
  (.seq (.region false [⟨some 70, none, .call 10 []⟩,
    ⟨some 6, none, .mv (.s 70)⟩] [] [6]) .ret)
def c6_1 : ACode :=
  (.region false [⟨some 31, none, .mv (.s 9)⟩,
    ⟨some 32, none, .bin .add (.s 31) (.c (.t (.int .i64 1)))⟩,
    ⟨some 9, none, .mv (.s 32)⟩] [] [7, 8, 9])
def c6_2 : ACode :=
  (.seq (.region false [⟨some 6, none, .cst (.t (.bool false))⟩] [] [6]) .ret)
def c6_3 : ACode :=
  (.cond (.s 69) c6_2 .skip)
def c6_4 : ACode :=
  (.seq (.region true [⟨some 33, none, .mv (.s 7)⟩,
    ⟨some 34, none, .mv (.s 9)⟩,
    ⟨some 35, none, .ia 3 (.s 33) (.s 34)⟩,
    ⟨some 36, none, .fa 0 (.s 35)⟩,
    ⟨some 37, none, .ld false 1 (.s 36)⟩,
    ⟨some 38, none, .mv (.s 8)⟩,
    ⟨some 39, none, .mv (.s 9)⟩,
    ⟨some 40, none, .ia 3 (.s 38) (.s 39)⟩,
    ⟨some 41, none, .fa 0 (.s 40)⟩,
    ⟨some 42, none, .ld false 1 (.s 41)⟩,
    ⟨some 43, none, .bin .neq (.s 37) (.s 42)⟩,
    ⟨some 44, none, .mv (.s 43)⟩,
    ⟨some 45, some (44, false), .mv (.s 7)⟩,
    ⟨some 46, some (44, false), .mv (.s 9)⟩,
    ⟨some 47, some (44, false), .ia 3 (.s 45) (.s 46)⟩,
    ⟨some 48, some (44, false), .fa 1 (.s 47)⟩,
    ⟨some 49, some (44, false), .ld false 1 (.s 48)⟩,
    ⟨some 50, some (44, false), .mv (.s 8)⟩,
    ⟨some 51, some (44, false), .mv (.s 9)⟩,
    ⟨some 52, some (44, false), .ia 3 (.s 50) (.s 51)⟩,
    ⟨some 53, some (44, false), .fa 1 (.s 52)⟩,
    ⟨some 54, some (44, false), .ld false 1 (.s 53)⟩,
    ⟨some 55, some (44, false), .bin .neq (.s 49) (.s 54)⟩,
    ⟨some 56, none, .pick (.s 44) (.c (.t (.bool true))) (.s 55)⟩,
    ⟨some 57, none, .mv (.s 56)⟩,
    ⟨some 58, some (57, false), .mv (.s 7)⟩,
    ⟨some 59, some (57, false), .mv (.s 9)⟩,
    ⟨some 60, some (57, false), .ia 3 (.s 58) (.s 59)⟩,
    ⟨some 61, some (57, false), .fa 2 (.s 60)⟩,
    ⟨some 62, some (57, false), .ld false 1 (.s 61)⟩,
    ⟨some 63, some (57, false), .mv (.s 8)⟩,
    ⟨some 64, some (57, false), .mv (.s 9)⟩,
    ⟨some 65, some (57, false), .ia 3 (.s 63) (.s 64)⟩,
    ⟨some 66, some (57, false), .fa 2 (.s 65)⟩,
    ⟨some 67, some (57, false), .ld false 1 (.s 66)⟩,
    ⟨some 68, some (57, false), .bin .neq (.s 62) (.s 67)⟩,
    ⟨some 69, none, .pick (.s 57) (.c (.t (.bool true))) (.s 68)⟩] [[], [], [0, 1], [2], [3], [], [], [5, 6], [7], [8], [4, 9], [10], [11], [11], [12, 13, 11], [14, 11], [15, 11], [11], [11], [17, 18, 11], [19, 11], [20, 11], [16, 21, 11], [11, 22], [23, 11], [24], [24], [25, 26, 24], [27, 24], [28, 24], [24], [24], [30, 31, 24], [32, 24], [33, 24], [29, 34, 24], [24, 35]] [7, 8, 9, 69]) c6_3)
def c6_5 : ACode :=
  (.seq (.block 1 c6_4) c6_1)
def c6_6 : ACode :=
  (.cond (.s 30) .skip (.exit 0))
def c6_7 : ACode :=
  (.seq (.seq (.region false [⟨some 27, none, .mv (.s 9)⟩,
    ⟨some 28, none, .mv (.s 7)⟩,
    ⟨some 29, none, .len (.s 28)⟩,
    ⟨some 30, none, .bin .lss (.s 27) (.s 29)⟩] [] [7, 8, 9, 30]) c6_6) c6_5)
def c6_8 : ACode :=
  (.loop c6_7)
def c6_9 : ACode :=
  (.block 0 c6_8)
def c6_10 : ACode :=
  (.seq (.seq (.region false [⟨some 9, none, .cst (.t (.int .i64 0))⟩] [] [7, 8, 9]) c6_9) c6_0)
def c6_11 : ACode :=
  (.seq (.region false [⟨some 6, none, .cst (.t (.bool false))⟩] [] [6]) .ret)
def c6_12 : ACode :=
  (.cond (.s 26) c6_11 .skip)
def c6_13 : ACode :=
  (.seq (.seq (.region false [⟨some 22, none, .mv (.s 7)⟩,
    ⟨some 23, none, .len (.s 22)⟩,
    ⟨some 24, none, .mv (.s 8)⟩,
    ⟨some 25, none, .len (.s 24)⟩,
    ⟨some 26, none, .bin .neq (.s 23) (.s 25)⟩] [] [7, 8, 26]) c6_12) c6_10)
def c6_14 : ACode :=
  (.seq (.region true [⟨some 14, none, .ld true 4 (.s 3)⟩,
    ⟨some 15, none, .mv (.s 1)⟩,
    ⟨some 16, none, .mv (.s 2)⟩,
    ⟨some 17, none, .call 16 [(.s 14), (.s 15), (.s 16)]⟩,
    ⟨some 18, none, .ld true 4 (.s 3)⟩,
    ⟨some 19, none, .mv (.s 1)⟩,
    ⟨some 20, none, .mv (.s 2)⟩,
    ⟨some 21, none, .call 17 [(.s 18), (.s 19), (.s 20)]⟩,
    ⟨some 7, none, .mv (.s 17)⟩,
    ⟨some 8, none, .mv (.s 21)⟩] [[], [], [], [0, 1, 2], [], [], [], [4, 5, 6, 3], [3, 7, 0, 1, 2, 3], [7, 8, 0, 1, 2, 3, 4, 5, 6, 7, 8]] [7, 8]) c6_13)
def c6_15 : ACode :=
  (.seq (.region false [⟨some 13, none, .call 10 []⟩,
    ⟨some 6, none, .mv (.s 13)⟩] [] [6]) .ret)
def c6_16 : ACode :=
  (.cond (.s 12) c6_15 .skip)
def c6_17 : ACode :=
  (.seq (.seq (.region false [⟨some 10, none, .ld true 4 (.s 3)⟩,
    ⟨some 11, none, .mv (.s 2)⟩,
    ⟨some 12, none, .call 9 [(.s 10), (.s 11)]⟩] [] [1, 2, 3, 12]) c6_16) c6_14)
def c6 : ACode :=
  (.seq (.region false [⟨some 3, none, .box 4 (.s 0)⟩,
    ⟨some 6, none, .cst (.t (.bool false))⟩] [] [1, 2, 3]) c6_17)
def r6 : List ARes := [.tmp 6]
def n6 : Nat := 71
/- 7 supergraph supergraphlaw26.ReachLeast -/
def c7_0 : ACode :=
  (.seq (.region false [⟨some 108, none, .mv (.s 10)⟩,
    ⟨some 109, none, .mv (.s 5)⟩,
    ⟨some 110, none, .bin .eql (.s 108) (.s 109)⟩,
    ⟨some 111, none, .mv (.s 110)⟩,
    ⟨some 112, some (111, true), .mv (.s 11)⟩,
    ⟨some 113, some (111, true), .mv (.s 5)⟩,
    ⟨some 114, some (111, true), .bin .gtr (.s 113) (.c (.t (.int .i64 0)))⟩,
    ⟨some 115, some (111, true), .eqb false (.s 112) (.s 114)⟩,
    ⟨some 116, none, .pick (.s 111) (.s 115) (.c (.t (.bool false)))⟩,
    ⟨some 117, none, .mv (.s 116)⟩,
    ⟨some 118, some (117, true), .call 10 []⟩,
    ⟨some 119, none, .pick (.s 117) (.s 118) (.c (.t (.bool false)))⟩,
    ⟨some 4, none, .mv (.s 119)⟩] [] [4]) .ret)
def c7_1 : ACode :=
  (.seq (.region false [⟨some 98, none, .ld true 4 (.s 2)⟩,
    ⟨some 99, none, .fa 0 (.s 3)⟩,
    ⟨some 100, none, .ld false 1 (.s 99)⟩,
    ⟨some 101, none, .fa 1 (.s 3)⟩,
    ⟨some 102, none, .ld false 1 (.s 101)⟩,
    ⟨some 103, none, .fa 2 (.s 3)⟩,
    ⟨some 104, none, .ld false 1 (.s 103)⟩,
    ⟨some 105, none, .call 14 [(.s 98), (.s 100), (.s 102), (.s 104)]⟩,
    ⟨some 97, none, .mv (.s 105)⟩,
    ⟨some 106, none, .ext (.s 97) 0⟩,
    ⟨some 107, none, .ext (.s 97) 1⟩,
    ⟨some 10, none, .mv (.s 106)⟩,
    ⟨some 11, none, .mv (.s 107)⟩] [] [5, 10, 11]) c7_0)
def c7_2 : ACode :=
  (.region false [⟨some 74, none, .mv (.s 9)⟩,
    ⟨some 75, none, .bin .add (.s 74) (.c (.t (.int .i64 1)))⟩,
    ⟨some 9, none, .mv (.s 75)⟩] [] [2, 3, 5, 8, 9])
def c7_3 : ACode :=
  (.region false [⟨some 93, none, .mv (.s 8)⟩,
    ⟨some 94, none, .mv (.s 9)⟩,
    ⟨some 95, none, .ia 1 (.s 93) (.s 94)⟩,
    ⟨some 96, none, .ld false 1 (.s 95)⟩,
    ⟨some 5, none, .mv (.s 96)⟩] [] [2, 3, 5, 8, 9])
def c7_4 : ACode :=
  (.cond (.s 92) c7_3 .skip)
def c7_5 : ACode :=
  (.seq (.region false [⟨some 76, none, .mv (.s 8)⟩,
    ⟨some 77, none, .mv (.s 9)⟩,
    ⟨some 78, none, .ia 1 (.s 76) (.s 77)⟩,
    ⟨some 79, none, .ld false 1 (.s 78)⟩,
    ⟨some 80, none, .bin .gtr (.s 79) (.c (.t (.int .i64 0)))⟩,
    ⟨some 81, none, .mv (.s 80)⟩,
    ⟨some 82, some (81, true), .mv (.s 5)⟩,
    ⟨some 83, some (81, true), .bin .eql (.s 82) (.c (.t (.int .i64 0)))⟩,
    ⟨some 84, some (81, true), .mv (.s 83)⟩,
    ⟨some 85, some (84, false), .mv (.s 8)⟩,
    ⟨some 86, some (84, false), .mv (.s 9)⟩,
    ⟨some 87, some (84, false), .ia 1 (.s 85) (.s 86)⟩,
    ⟨some 88, some (84, false), .ld false 1 (.s 87)⟩,
    ⟨some 89, some (84, false), .mv (.s 5)⟩,
    ⟨some 90, some (84, false), .bin .lss (.s 88) (.s 89)⟩,
    ⟨some 91, some (81, true), .pick (.s 84) (.c (.t (.bool true))) (.s 90)⟩,
    ⟨some 92, none, .pick (.s 81) (.s 91) (.c (.t (.bool false)))⟩] [] [2, 3, 5, 8, 9, 92]) c7_4)
def c7_6 : ACode :=
  (.seq (.block 3 c7_5) c7_2)
def c7_7 : ACode :=
  (.cond (.s 73) .skip (.exit 2))
def c7_8 : ACode :=
  (.seq (.seq (.region false [⟨some 70, none, .mv (.s 9)⟩,
    ⟨some 71, none, .mv (.s 8)⟩,
    ⟨some 72, none, .len (.s 71)⟩,
    ⟨some 73, none, .bin .lss (.s 70) (.s 72)⟩] [] [2, 3, 5, 8, 9, 73]) c7_7) c7_6)
def c7_9 : ACode :=
  (.loop c7_8)
def c7_10 : ACode :=
  (.block 2 c7_9)
def c7_11 : ACode :=
  (.seq (.region false [⟨some 9, none, .cst (.t (.int .i64 0))⟩] [] [2, 3, 5, 8, 9]) c7_10)
def c7_12 : ACode :=
  (.seq (.region false [⟨some 64, none, .ld true 4 (.s 2)⟩,
    ⟨some 65, none, .fa 0 (.s 3)⟩,
    ⟨some 66, none, .ld false 1 (.s 65)⟩,
    ⟨some 67, none, .fa 1 (.s 3)⟩,
    ⟨some 68, none, .ld false 1 (.s 67)⟩,
    ⟨some 69, none, .call 12 [(.s 64), (.s 66), (.s 68)]⟩,
    ⟨some 8, none, .mv (.s 69)⟩] [] [2, 3, 5, 8]) c7_11)
def c7_13 : ACode :=
  (.seq (.region false [⟨some 5, none, .cst (.t (.int .i64 0))⟩] [] [2, 3, 5]) c7_12)
def c7_14 : ACode :=
  (.cond (.s 63) c7_13 .skip)
def c7_15 : ACode :=
  (.seq (.seq (.region false [⟨some 61, none, .fa 2 (.s 3)⟩,
    ⟨some 62, none, .ld false 1 (.s 61)⟩,
    ⟨some 63, none, .bin .eql (.s 62) (.c (.t (.str [95, 95, 116, 121, 112, 101, 110, 97, 109, 101])))⟩] [] [2, 3, 5, 63]) c7_14) c7_1)
def c7_16 : ACode :=
  (.region false [⟨some 27, none, .mv (.s 7)⟩,
    ⟨some 28, none, .bin .add (.s 27) (.c (.t (.int .i64 1)))⟩,
    ⟨some 7, none, .mv (.s 28)⟩] [] [2, 3, 5, 6, 7])
def c7_17 : ACode :=
  (.region false [⟨some 56, none, .mv (.s 6)⟩,
    ⟨some 57, none, .mv (.s 7)⟩,
    ⟨some 58, none, .ia 3 (.s 56) (.s 57)⟩,
    ⟨some 59, none, .fa 2 (.s 58)⟩,
    ⟨some 60, none, .ld false 1 (.s 59)⟩,
    ⟨some 5, none, .mv (.s 60)⟩] [] [2, 3, 5, 6, 7])
def c7_18 : ACode :=
  (.cond (.s 55) c7_17 .skip)
def c7_19 : ACode :=
  (.seq (.region true [⟨some 35, none, .mv (.s 6)⟩,
    ⟨some 36, none, .mv (.s 7)⟩,
    ⟨some 37, none, .ia 3 (.s 35) (.s 36)⟩,
    ⟨some 38, none, .fa 0 (.s 37)⟩,
    ⟨some 39, none, .ld false 1 (.s 38)⟩,
    ⟨some 40, none, .fa 2 (.s 3)⟩,
    ⟨some 41, none, .ld false 1 (.s 40)⟩,
    ⟨some 42, none, .bin .eql (.s 39) (.s 41)⟩,
    ⟨some 43, none, .mv (.s 42)⟩,
    ⟨some 44, some (43, true), .mv (.s 5)⟩,
    ⟨some 45, some (43, true), .bin .eql (.s 44) (.c (.t (.int .i64 0)))⟩,
    ⟨some 46, some (43, true), .mv (.s 45)⟩,
    ⟨some 47, some (46, false), .mv (.s 6)⟩,
    ⟨some 48, some (46, false), .mv (.s 7)⟩,
    ⟨some 49, some (46, false), .ia 3 (.s 47) (.s 48)⟩,
    ⟨some 50, some (46, false), .fa 2 (.s 49)⟩,
    ⟨some 51, some (46, false), .ld false 1 (.s 50)⟩,
    ⟨some 52, some (46, false), .mv (.s 5)⟩,
    ⟨some 53, some (46, false), .bin .lss (.s 51) (.s 52)⟩,
    ⟨some 54, some (43, true), .pick (.s 46) (.c (.t (.bool true))) (.s 53)⟩,
    ⟨some 55, none, .pick (.s 43) (.s 54) (.c (.t (.bool false)))⟩] [[], [], [0, 1], [2], [3], [], [5], [4, 6], [7], [8], [9, 8], [10, 8, 8], [11], [11], [12, 13, 11], [14, 11], [15, 11], [11], [16, 17, 11], [11, 18, 8], [8, 19]] [2, 3, 5, 6, 7, 55]) c7_18)
def c7_20 : ACode :=
  (.seq (.region false [⟨some 4, none, .cst (.t (.bool false))⟩] [] [4]) .ret)
def c7_21 : ACode :=
  (.cond (.s 34) c7_20 .skip)
def c7_22 : ACode :=
  (.seq (.seq (.region false [⟨some 29, none, .mv (.s 6)⟩,
    ⟨some 30, none, .mv (.s 7)⟩,
    ⟨some 31, none, .ia 3 (.s 29) (.s 30)⟩,
    ⟨some 32, none, .fa 2 (.s 31)⟩,
    ⟨some 33, none, .ld false 1 (.s 32)⟩,
    ⟨some 34, none, .bin .lss (.s 33) (.c (.t (.int .i64 1)))⟩] [] [2, 3, 5, 6, 7, 34]) c7_21) c7_19)
def c7_23 : ACode :=
  (.seq (.block 1 c7_22) c7_16)
def c7_24 : ACode :=
  (.cond (.s 26) .skip (.exit 0))
def c7_25 : ACode :=
  (.seq (.seq (.region false [⟨some 23, none, .mv (.s 7)⟩,
    ⟨some 24, none, .mv (.s 6)⟩,
    ⟨some 25, none, .len (.s 24)⟩,
    ⟨some 26, none, .bin .lss (.s 23) (.s 25)⟩] [] [2, 3, 5, 6, 7, 26]) c7_24) c7_23)
def c7_26 : ACode :=
  (.loop c7_25)
def c7_27 : ACode :=
  (.block 0 c7_26)
def c7_28 : ACode :=
  (.seq (.seq (.region false [⟨some 7, none, .cst (.t (.int .i64 0))⟩] [] [2, 3, 5, 6, 7]) c7_27) c7_15)
def c7_29 : ACode :=
  (.seq (.region false [⟨some 17, none, .ld true 4 (.s 2)⟩,
    ⟨some 18, none, .fa 0 (.s 3)⟩,
    ⟨some 19, none, .ld false 1 (.s 18)⟩,
    ⟨some 20, none, .fa 1 (.s 3)⟩,
    ⟨some 21, none, .ld false 1 (.s 20)⟩,
    ⟨some 22, none, .call 16 [(.s 17), (.s 19), (.s 21)]⟩,
    ⟨some 6, none, .mv (.s 22)⟩] [] [2, 3, 5, 6]) c7_28)
def c7_30 : ACode :=
  (.seq (.region false [⟨some 5, none, .cst (.t (.int .i64 0))⟩] [] [2, 3, 5]) c7_29)
def c7_31 : ACode :=
  (.seq (.region false [⟨some 16, none, .call 10 []⟩,
    ⟨some 4, none, .mv (.s 16)⟩] [] [4]) .ret)
def c7_32 : ACode :=
  (.cond (.s 15) c7_31 .skip)
def c7_33 : ACode :=
  (.seq (.seq (.region false [⟨some 12, none, .ld true 4 (.s 2)⟩,
    ⟨some 13, none, .fa 1 (.s 3)⟩,
    ⟨some 14, none, .ld false 1 (.s 13)⟩,
    ⟨some 15, none, .call 9 [(.s 12), (.s 14)]⟩] [] [2, 3, 15]) c7_32) c7_30)
def c7 : ACode :=
  (.seq (.region false [⟨some 2, none, .box 4 (.s 0)⟩,
    ⟨some 3, none, .box 3 (.s 1)⟩,
    ⟨some 4, none, .cst (.t (.bool false))⟩] [] [2, 3]) c7_33)
def r7 : List ARes := [.tmp 4]
def n7 : Nat := 120
/- 8 supergraph supergraphlaw26.ReachGets -/
def c8_0 : ACode :=
  (.seq (.region true [⟨some 36, none, .mv (.s 5)⟩,
    ⟨some 37, none, .mv (.s 7)⟩,
    ⟨some 38, none, .bin .eql (.s 36) (.s 37)⟩,
    ⟨some 39, none, .mv (.s 38)⟩,
    ⟨some 40, some (39, true), .mv (.s 6)⟩,
    ⟨some 41, some (39, true), .mv (.s 8)⟩,
    ⟨some 42, some (39, true), .eqb false (.s 40) (.s 41)⟩,
    ⟨some 43, none, .pick (.s 39) (.s 42) (.c (.t (.bool false)))⟩,
    ⟨some 44, none, .mv (.s 43)⟩,
    ⟨some 45, some (44, true), .ld true 4 (.s 2)⟩,
    ⟨some 46, some (44, true), .fa 0 (.s 3)⟩,
    ⟨some 47, some (44, true), .ld false 1 (.s 46)⟩,
    ⟨some 48, some (44, true), .fa 1 (.s 3)⟩,
    ⟨some 49, some (44, true), .ld false 1 (.s 48)⟩,
    ⟨some 50, some (44, true), .fa 2 (.s 3)⟩,
    ⟨some 51, some (44, true), .ld false 1 (.s 50)⟩,
    ⟨some 52, some (44, true), .call 20 [(.s 45), (.s 47), (.s 49), (.s 51)]⟩,
    ⟨some 53, some (44, true), .ld true 4 (.s 2)⟩,
    ⟨some 54, some (44, true), .fa 0 (.s 3)⟩,
    ⟨some 55, some (44, true), .ld false 1 (.s 54)⟩,
    ⟨some 56, some (44, true), .fa 1 (.s 3)⟩,
    ⟨some 57, some (44, true), .ld false 1 (.s 56)⟩,
    ⟨some 58, some (44, true), .fa 2 (.s 3)⟩,
    ⟨some 59, some (44, true), .ld false 1 (.s 58)⟩,
    ⟨some 60, some (44, true), .call 21 [(.s 53), (.s 55), (.s 57), (.s 59)]⟩,
    ⟨some 61, some (44, true), .call 19 [(.s 52), (.s 60)]⟩,
    ⟨some 62, none, .pick (.s 44) (.s 61) (.c (.t (.bool false)))⟩,
    ⟨some 63, none, .mv (.s 62)⟩,
    ⟨some 64, some (63, true), .ld true 4 (.s 2)⟩,
    ⟨some 65, some (63, true), .fa 0 (.s 3)⟩,
    ⟨some 66, some (63, true), .ld false 1 (.s 65)⟩,
    ⟨some 67, some (63, true), .call 22 [(.s 64), (.s 66)]⟩,
    ⟨some 68, some (63, true), .ld true 4 (.s 2)⟩,
    ⟨some 69, some (63, true), .fa 0 (.s 3)⟩,
    ⟨some 70, some (63, true), .ld false 1 (.s 69)⟩,
    ⟨some 71, some (63, true), .call 23 [(.s 68), (.s 70)]⟩,
    ⟨some 72, some (63, true), .call 19 [(.s 67), (.s 71)]⟩,
    ⟨some 73, none, .pick (.s 63) (.s 72) (.c (.t (.bool false)))⟩,
    ⟨some 74, none, .mv (.s 73)⟩,
    ⟨some 75, some (74, true), .call 10 []⟩,
    ⟨some 76, none, .pick (.s 74) (.s 75) (.c (.t (.bool false)))⟩,
    ⟨some 4, none, .mv (.s 76)⟩] [[], [], [0, 1], [2], [3], [3], [4, 5, 3], [3, 6], [7, 3], [8], [8], [10, 8], [8], [12, 8], [8], [14, 8], [9, 11, 13, 15, 8, 8], [8], [8], [18, 8], [8], [20, 8], [8], [22, 8], [17, 19, 21, 23, 16, 8], [16, 24, 24, 8], [8, 25], [26, 25], [27], [27], [29, 27], [28, 30, 27, 27], [27], [27], [33, 27], [32, 34, 31, 27], [31, 35, 35, 27], [27, 36], [37, 36], [38, 38], [38, 39], [40, 39, 0, 1, 2, 3, 4, 5, 6, 7, 8, 9, 10, 11, 12, 13, 14, 15, 16, 17, 18, 19, 20, 21, 22, 23, 24, 25, 26, 27, 28, 29, 30, 31, 32, 33, 34, 35, 36, 37, 38, 39, 40]] [4]) .ret)
def c8_1 : ACode :=
  (.seq (.region false [⟨some 26, none, .ld true 4 (.s 2)⟩,
    ⟨some 27, none, .fa 0 (.s 3)⟩,
    ⟨some 28, none, .ld false 1 (.s 27)⟩,
    ⟨some 29, none, .fa 1 (.s 3)⟩,
    ⟨some 30, none, .ld false 1 (.s 29)⟩,
    ⟨some 31, none, .fa 2 (.s 3)⟩,
    ⟨some 32, none, .ld false 1 (.s 31)⟩,
    ⟨some 33, none, .call 18 [(.s 26), (.s 28), (.s 30), (.s 32)]⟩,
    ⟨some 25, none, .mv (.s 33)⟩,
    ⟨some 34, none, .ext (.s 25) 0⟩,
    ⟨some 35, none, .ext (.s 25) 1⟩,
    ⟨some 7, none, .mv (.s 34)⟩,
    ⟨some 8, none, .mv (.s 35)⟩] [] [2, 3, 5, 6, 7, 8]) c8_0)
def c8_2 : ACode :=
  (.seq (.region false [⟨some 15, none, .ld true 4 (.s 2)⟩,
    ⟨some 16, none, .fa 0 (.s 3)⟩,
    ⟨some 17, none, .ld false 1 (.s 16)⟩,
    ⟨some 18, none, .fa 1 (.s 3)⟩,
    ⟨some 19, none, .ld false 1 (.s 18)⟩,
    ⟨some 20, none, .fa 2 (.s 3)⟩,
    ⟨some 21, none, .ld false 1 (.s 20)⟩,
    ⟨some 22, none, .call 14 [(.s 15), (.s 17), (.s 19), (.s 21)]⟩,
    ⟨some 14, none, .mv (.s 22)⟩,
    ⟨some 23, none, .ext (.s 14) 0⟩,
    ⟨some 24, none, .ext (.s 14) 1⟩,
    ⟨some 5, none, .mv (.s 23)⟩,
    ⟨some 6, none, .mv (.s 24)⟩] [] [2, 3, 5, 6]) c8_1)
def c8_3 : ACode :=
  (.seq (.region false [⟨some 13, none, .call 10 []⟩,
    ⟨some 4, none, .mv (.s 13)⟩] [] [4]) .ret)
def c8_4 : ACode :=
  (.cond (.s 12) c8_3 .skip)
def c8_5 : ACode :=
  (.seq (.seq (.region false [⟨some 9, none, .ld true 4 (.s 2)⟩,
    ⟨some 10, none, .fa 1 (.s 3)⟩,
    ⟨some 11, none, .ld false 1 (.s 10)⟩,
    ⟨some 12, none, .call 9 [(.s 9), (.s 11)]⟩] [] [2, 3, 12]) c8_4) c8_2)
def c8 : ACode :=
  (.seq (.region false [⟨some 2, none, .box 4 (.s 0)⟩,
    ⟨some 3, none, .box 3 (.s 1)⟩,
    ⟨some 4, none, .cst (.t (.bool false))⟩] [] [2, 3]) c8_5)
def r8 : List ARes := [.tmp 4]
def n8 : Nat := 77
/- 9 supergraph supergraphref26.Large -/
def c9_0 : ACode :=
  (.seq (.region false [⟨some 4, none, .cst (.t (.bool false))⟩] [] [4]) .ret)
def c9_1 : ACode :=
  (.region false [⟨some 58, none, .mv (.s 6)⟩,
    ⟨some 59, none, .bin .add (.s 58) (.c (.t (.int .i64 1)))⟩,
    ⟨some 6, none, .mv (.s 59)⟩] [] [2, 6])
def c9_2 : ACode :=
  (.seq (.region false [⟨some 4, none, .cst (.t (.bool true))⟩] [] [4]) .ret)
def c9_3 : ACode :=
  (.cond (.s 67) c9_2 .skip)
def c9_4 : ACode :=
  (.seq (.region false [⟨some 60, none, .fa 2 (.s 2)⟩,
    ⟨some 61, none, .ld false 1 (.s 60)⟩,
    ⟨some 62, none, .mv (.s 6)⟩,
    ⟨some 63, none, .ia 3 (.s 61) (.s 62)⟩,
    ⟨some 64, none, .fa 2 (.s 63)⟩,
    ⟨some 65, none, .ld false 1 (.s 64)⟩,
    ⟨some 66, none, .len (.s 65)⟩,
    ⟨some 67, none, .bin .gtr (.s 66) (.c (.t (.int .i64 10)))⟩] [] [2, 6, 67]) c9_3)
def c9_5 : ACode :=
  (.seq (.block 3 c9_4) c9_1)
def c9_6 : ACode :=
  (.cond (.s 57) .skip (.exit 2))
def c9_7 : ACode :=
  (.seq (.seq (.region false [⟨some 53, none, .mv (.s 6)⟩,
    ⟨some 54, none, .fa 2 (.s 2)⟩,
    ⟨some 55, none, .ld false 1 (.s 54)⟩,
    ⟨some 56, none, .len (.s 55)⟩,
    ⟨some 57, none, .bin .lss (.s 53) (.s 56)⟩] [] [2, 6, 57]) c9_6) c9_5)
def c9_8 : ACode :=
  (.loop c9_7)
def c9_9 : ACode :=
  (.block 2 c9_8)
def c9_10 : ACode :=
  (.seq (.seq (.region false [⟨some 6, none, .cst (.t (.int .i64 0))⟩] [] [2, 6]) c9_9) c9_0)
def c9_11 : ACode :=
  (.region false [⟨some 33, none, .mv (.s 5)⟩,
    ⟨some 34, none, .bin .add (.s 33) (.c (.t (.int .i64 1)))⟩,
    ⟨some 5, none, .mv (.s 34)⟩] [] [2, 5])
def c9_12 : ACode :=
  (.seq (.region false [⟨some 4, none, .cst (.t (.bool true))⟩] [] [4]) .ret)
def c9_13 : ACode :=
  (.cond (.s 52) c9_12 .skip)
def c9_14 : ACode :=
  (.seq (.region false [⟨some 35, none, .fa 3 (.s 2)⟩,
    ⟨some 36, none, .ld false 1 (.s 35)⟩,
    ⟨some 37, none, .mv (.s 5)⟩,
    ⟨some 38, none, .ia 6 (.s 36) (.s 37)⟩,
    ⟨some 39, none, .fa 4 (.s 38)⟩,
    ⟨some 40, none, .ld false 1 (.s 39)⟩,
    ⟨some 41, none, .len (.s 40)⟩,
    ⟨some 42, none, .bin .gtr (.s 41) (.c (.t (.int .i64 10)))⟩,
    ⟨some 43, none, .mv (.s 42)⟩,
    ⟨some 44, some (43, false), .fa 3 (.s 2)⟩,
    ⟨some 45, some (43, false), .ld false 1 (.s 44)⟩,
    ⟨some 46, some (43, false), .mv (.s 5)⟩,
    ⟨some 47, some (43, false), .ia 6 (.s 45) (.s 46)⟩,
    ⟨some 48, some (43, false), .fa 5 (.s 47)⟩,
    ⟨some 49, some (43, false), .ld false 1 (.s 48)⟩,
    ⟨some 50, some (43, false), .len (.s 49)⟩,
    ⟨some 51, some (43, false), .bin .gtr (.s 50) (.c (.t (.int .i64 10)))⟩,
    ⟨some 52, none, .pick (.s 43) (.c (.t (.bool true))) (.s 51)⟩] [] [2, 5, 52]) c9_13)
def c9_15 : ACode :=
  (.seq (.block 1 c9_14) c9_11)
def c9_16 : ACode :=
  (.cond (.s 32) .skip (.exit 0))
def c9_17 : ACode :=
  (.seq (.seq (.region false [⟨some 28, none, .mv (.s 5)⟩,
    ⟨some 29, none, .fa 3 (.s 2)⟩,
    ⟨some 30, none, .ld false 1 (.s 29)⟩,
    ⟨some 31, none, .len (.s 30)⟩,
    ⟨some 32, none, .bin .lss (.s 28) (.s 31)⟩] [] [2, 5, 32]) c9_16) c9_15)
def c9_18 : ACode :=
  (.loop c9_17)
def c9_19 : ACode :=
  (.block 0 c9_18)
def c9_20 : ACode :=
  (.seq (.seq (.region false [⟨some 5, none, .cst (.t (.int .i64 0))⟩] [] [2, 5]) c9_19) c9_10)
def c9_21 : ACode :=
  (.seq (.region false [⟨some 4, none, .cst (.t (.bool true))⟩] [] [4]) .ret)
def c9_22 : ACode :=
  (.cond (.s 27) c9_21 .skip)
def c9_23 : ACode :=
  (.seq (.seq (.region false [⟨some 7, none, .fa 0 (.s 2)⟩,
    ⟨some 8, none, .ld false 1 (.s 7)⟩,
    ⟨some 9, none, .len (.s 8)⟩,
    ⟨some 10, none, .bin .gtr (.s 9) (.c (.t (.int .i64 10)))⟩,
    ⟨some 11, none, .mv (.s 10)⟩,
    ⟨some 12, some (11, false), .fa 3 (.s 2)⟩,
    ⟨some 13, some (11, false), .ld false 1 (.s 12)⟩,
    ⟨some 14, some (11, false), .len (.s 13)⟩,
    ⟨some 15, some (11, false), .bin .gtr (.s 14) (.c (.t (.int .i64 120)))⟩,
    ⟨some 16, none, .pick (.s 11) (.c (.t (.bool true))) (.s 15)⟩,
    ⟨some 17, none, .mv (.s 16)⟩,
    ⟨some 18, some (17, false), .fa 2 (.s 2)⟩,
    ⟨some 19, some (17, false), .ld false 1 (.s 18)⟩,
    ⟨some 20, some (17, false), .len (.s 19)⟩,
    ⟨some 21, some (17, false), .bin .gtr (.s 20) (.c (.t (.int .i64 60)))⟩,
    ⟨some 22, none, .pick (.s 17) (.c (.t (.bool true))) (.s 21)⟩,
    ⟨some 23, none, .mv (.s 22)⟩,
    ⟨some 24, some (23, false), .mv (.s 1)⟩,
    ⟨some 25, some (23, false), .len (.s 24)⟩,
    ⟨some 26, some (23, false), .bin .gtr (.s 25) (.c (.t (.int .i64 40)))⟩,
    ⟨some 27, none, .pick (.s 23) (.c (.t (.bool true))) (.s 26)⟩] [] [2, 27]) c9_22) c9_20)
def c9 : ACode :=
  (.seq (.region false [⟨some 2, none, .box 4 (.s 0)⟩,
    ⟨some 4, none, .cst (.t (.bool false))⟩] [] [1, 2]) c9_23)
def r9 : List ARes := [.tmp 4]
def n9 : Nat := 68
/- 10 supergraph supergraphlaw26.exampleHolds -/
def c10_0 : ACode :=
  (.seq (.region false [⟨some 12, none, .mv (.s 3)⟩,
    ⟨some 13, none, .mv (.s 12)⟩,
    ⟨some 14, some (13, true), .mv (.s 2)⟩,
    ⟨some 15, some (13, true), .bin .eql (.s 14) (.c (.t (.int .i64 2)))⟩,
    ⟨some 16, none, .pick (.s 13) (.s 15) (.c (.t (.bool false)))⟩,
    ⟨some 17, none, .mv (.s 16)⟩,
    ⟨some 18, some (17, true), .ld true 4 (.s 1)⟩,
    ⟨some 19, some (17, true), .call 22 [(.s 18), (.c (.t (.str [81, 117, 101, 114, 121])))]⟩,
    ⟨some 20, some (17, true), .build [.t (.int .i64 0), .t (.int .i64 0), .nils] [(0, 1, (.c (.t (.int .i64 0)))), (1, 1, (.c (.t (.int .i64 1))))]⟩,
    ⟨some 21, some (17, true), .bsl true 3 [[.int .i64 0, .int .i64 0, .lst []]] [(0, (.s 20))]⟩,
    ⟨some 22, some (17, true), .call 19 [(.s 19), (.s 21)]⟩,
    ⟨some 23, none, .pick (.s 17) (.s 22) (.c (.t (.bool false)))⟩,
    ⟨some 0, none, .mv (.s 23)⟩] [] [0]) .ret)
def c10_1 : ACode :=
  (.seq (.region false [⟨some 6, none, .ld true 4 (.s 1)⟩,
    ⟨some 7, none, .build [.t (.int .i64 0), .t (.int .i64 0), .nils] [(0, 1, (.c (.t (.int .i64 0)))), (1, 1, (.c (.t (.int .i64 1))))]⟩,
    ⟨some 8, none, .bsl true 3 [[.int .i64 0, .int .i64 0, .lst []]] [(0, (.s 7))]⟩,
    ⟨some 9, none, .call 14 [(.s 6), (.c (.t (.str [85, 115, 101, 114]))), (.s 8), (.c (.t (.str [112, 111, 115, 116, 115])))]⟩,
    ⟨some 5, none, .mv (.s 9)⟩,
    ⟨some 10, none, .ext (.s 5) 0⟩,
    ⟨some 11, none, .ext (.s 5) 1⟩,
    ⟨some 2, none, .mv (.s 10)⟩,
    ⟨some 3, none, .mv (.s 11)⟩] [] [1, 2, 3]) c10_0)
def c10_2 : ACode :=
  (.seq (.region false [⟨some 4, none, .call 24 []⟩,
    ⟨some 1, none, .alloc [.nils, .nils, .nils, .nils]⟩,
    ⟨none, none, .st 4 (.s 1) (.s 4)⟩] [] [1]) c10_1)
def c10 : ACode :=
  (.seq (.region false [⟨some 0, none, .cst (.t (.bool false))⟩] [] []) c10_2)
def r10 : List ARes := [.tmp 0]
def n10 : Nat := 24
/- 11 supergraph supergraphlaw26.numbers -/
def c11_0 : ACode :=
  (.seq (.region false [⟨some 4, none, .cst (.t (.bool true))⟩] [] [4]) .ret)
def c11_1 : ACode :=
  (.region false [⟨some 15, none, .mv (.s 5)⟩,
    ⟨some 16, none, .bin .add (.s 15) (.c (.t (.int .i64 1)))⟩,
    ⟨some 5, none, .mv (.s 16)⟩] [] [0, 1, 5])
def c11_2 : ACode :=
  (.seq (.region false [⟨some 4, none, .cst (.t (.bool false))⟩] [] [4]) .ret)
def c11_3 : ACode :=
  (.cond (.s 25) c11_2 .skip)
def c11_4 : ACode :=
  (.seq (.region true [⟨some 17, none, .mv (.s 0)⟩,
    ⟨some 18, none, .mv (.s 5)⟩,
    ⟨some 19, none, .ia 1 (.s 17) (.s 18)⟩,
    ⟨some 20, none, .ld false 1 (.s 19)⟩,
    ⟨some 21, none, .mv (.s 1)⟩,
    ⟨some 22, none, .mv (.s 5)⟩,
    ⟨some 23, none, .ia 1 (.s 21) (.s 22)⟩,
    ⟨some 24, none, .ld false 1 (.s 23)⟩,
    ⟨some 25, none, .bin .neq (.s 20) (.s 24)⟩] [[], [], [0, 1], [2], [], [], [4, 5], [6], [3, 7]] [0, 1, 5, 25]) c11_3)
def c11_5 : ACode :=
  (.seq (.block 1 c11_4) c11_1)
def c11_6 : ACode :=
  (.cond (.s 14) .skip (.exit 0))
def c11_7 : ACode :=
  (.seq (.seq (.region false [⟨some 11, none, .mv (.s 5)⟩,
    ⟨some 12, none, .mv (.s 0)⟩,
    ⟨some 13, none, .len (.s 12)⟩,
    ⟨some 14, none, .bin .lss (.s 11) (.s 13)⟩] [] [0, 1, 5, 14]) c11_6) c11_5)
def c11_8 : ACode :=
  (.loop c11_7)
def c11_9 : ACode :=
  (.block 0 c11_8)
def c11_10 : ACode :=
  (.seq (.seq (.region false [⟨some 5, none, .cst (.t (.int .i64 0))⟩] [] [0, 1, 5]) c11_9) c11_0)
def c11_11 : ACode :=
  (.seq (.region false [⟨some 4, none, .cst (.t (.bool false))⟩] [] [4]) .ret)
def c11_12 : ACode :=
  (.cond (.s 10) c11_11 .skip)
def c11_13 : ACode :=
  (.seq (.seq (.region false [⟨some 6, none, .mv (.s 0)⟩,
    ⟨some 7, none, .len (.s 6)⟩,
    ⟨some 8, none, .mv (.s 1)⟩,
    ⟨some 9, none, .len (.s 8)⟩,
    ⟨some 10, none, .bin .neq (.s 7) (.s 9)⟩] [] [0, 1, 10]) c11_12) c11_10)
def c11 : ACode :=
  (.seq (.region false [⟨some 4, none, .cst (.t (.bool false))⟩] [] [0, 1]) c11_13)
def r11 : List ARes := [.tmp 4]
def n11 : Nat := 26
/- 12 supergraph reach.Graphs -/
def c12_0 : ACode :=
  (.seq (.region false [⟨some 32, none, .mv (.s 8)⟩,
    ⟨some 6, none, .mv (.s 32)⟩] [] [6]) .ret)
def c12_1 : ACode :=
  (.region false [⟨some 31, none, .bin .add (.s 20) (.c (.t (.int .i64 1)))⟩,
    ⟨some 20, none, .mv (.s 31)⟩] [] [7, 8, 19, 20])
def c12_2 : ACode :=
  (.region false [⟨some 23, none, .mv (.s 8)⟩,
    ⟨some 24, none, .mv (.s 9)⟩,
    ⟨some 25, none, .mv (.s 7)⟩,
    ⟨some 26, none, .mv (.s 9)⟩,
    ⟨some 27, none, .call 26 [(.s 25), (.s 26)]⟩,
    ⟨some 28, none, .nilck (.s 27)⟩,
    ⟨some 29, none, .ld false 1 (.s 28)⟩,
    ⟨some 30, none, .ia 1 (.s 23) (.s 24)⟩,
    ⟨none, none, .st 1 (.s 30) (.s 29)⟩] [] [7, 8, 19, 20])
def c12_3 : ACode :=
  (.seq (.region false [⟨some 22, none, .mv (.s 20)⟩,
    ⟨some 9, none, .mv (.s 22)⟩] [] [7, 8, 9, 19, 20]) c12_2)
def c12_4 : ACode :=
  (.seq (.block 1 c12_3) c12_1)
def c12_5 : ACode :=
  (.seq (.cond (.s 21) .skip (.exit 0)) c12_4)
def c12_6 : ACode :=
  (.seq (.region false [⟨some 21, none, .bin .lss (.s 20) (.s 19)⟩] [] [7, 8, 19, 20, 21]) c12_5)
def c12_7 : ACode :=
  (.loop c12_6)
def c12_8 : ACode :=
  (.block 0 c12_7)
def c12_9 : ACode :=
  (.seq (.seq (.region false [⟨some 18, none, .mv (.s 8)⟩,
    ⟨some 19, none, .len (.s 18)⟩,
    ⟨some 20, none, .cst (.t (.int .i64 0))⟩] [] [7, 8, 19, 20]) c12_8) c12_0)
def c12_10 : ACode :=
  (.seq (.region false [⟨some 14, none, .fa 0 (.s 3)⟩,
    ⟨some 15, none, .ld false 1 (.s 14)⟩,
    ⟨some 16, none, .len (.s 15)⟩,
    ⟨some 17, none, .mksl 1 8 [.t (.int .i64 0)] (.s 16)⟩,
    ⟨some 8, none, .mv (.s 17)⟩] [] [7, 8]) c12_9)
def c12_11 : ACode :=
  (.seq (.region false [⟨some 10, none, .ld true 4 (.s 3)⟩,
    ⟨some 11, none, .mv (.s 1)⟩,
    ⟨some 12, none, .mv (.s 2)⟩,
    ⟨some 13, none, .call 25 [(.s 10), (.s 11), (.s 12)]⟩,
    ⟨some 7, none, .mv (.s 13)⟩] [] [3, 7]) c12_10)
def c12 : ACode :=
  (.seq (.region false [⟨some 3, none, .box 4 (.s 0)⟩,
    ⟨some 6, none, .cst (.nils)⟩] [] [1, 2, 3]) c12_11)
def r12 : List ARes := [.tmp 6]
def n12 : Nat := 33
/- 13 supergraph supergraphref26.Graphs -/
def c13_0 : ACode :=
  (.seq (.region false [⟨some 7, none, .ld true 4 (.s 3)⟩,
    ⟨some 8, none, .mv (.s 1)⟩,
    ⟨some 9, none, .mv (.s 2)⟩,
    ⟨some 10, none, .call 27 [(.s 7), (.s 8), (.s 9)]⟩,
    ⟨some 11, none, .nilck (.s 10)⟩,
    ⟨some 12, none, .fa 5 (.s 11)⟩,
    ⟨some 13, none, .ld false 1 (.s 12)⟩,
    ⟨some 6, none, .mv (.s 13)⟩] [] [6]) .ret)
def c13 : ACode :=
  (.seq (.region false [⟨some 3, none, .box 4 (.s 0)⟩,
    ⟨some 6, none, .cst (.nils)⟩] [] [1, 2, 3]) c13_0)
def r13 : List ARes := [.tmp 6]
def n13 : Nat := 14
/- 14 supergraph reach.Get -/
def c14_0 : ACode :=
  (.seq (.region false [⟨some 17, none, .mv (.s 10)⟩,
    ⟨some 18, none, .mv (.s 10)⟩,
    ⟨some 19, none, .bin .gtr (.s 18) (.c (.t (.int .i64 0)))⟩,
    ⟨some 8, none, .mv (.s 17)⟩,
    ⟨some 9, none, .mv (.s 19)⟩] [] [8, 9]) .ret)
def c14_1 : ACode :=
  (.seq (.region false [⟨some 11, none, .ld true 4 (.s 4)⟩,
    ⟨some 12, none, .mv (.s 1)⟩,
    ⟨some 13, none, .mv (.s 2)⟩,
    ⟨some 14, none, .call 25 [(.s 11), (.s 12), (.s 13)]⟩,
    ⟨some 15, none, .mv (.s 3)⟩,
    ⟨some 16, none, .call 28 [(.s 14), (.s 15)]⟩,
    ⟨some 10, none, .mv (.s 16)⟩] [] [10]) c14_0)
def c14 : ACode :=
  (.seq (.region false [⟨some 4, none, .box 4 (.s 0)⟩,
    ⟨some 8, none, .cst (.t (.int .i64 0))⟩,
    ⟨some 9, none, .cst (.t (.bool false))⟩] [] [1, 2, 3, 4]) c14_1)
def r14 : List ARes := [.tmp 8, .tmp 9]
def n14 : Nat := 20
/- 15 supergraph supergraphlaw26.twice -/
def c15_0 : ACode :=
  (.seq (.region false [⟨some 2, none, .cst (.t (.bool false))⟩] [] [2]) .ret)
def c15_1 : ACode :=
  (.region false [⟨some 9, none, .mv (.s 3)⟩,
    ⟨some 10, none, .bin .add (.s 9) (.c (.t (.int .i64 1)))⟩,
    ⟨some 3, none, .mv (.s 10)⟩] [] [0, 3])
def c15_2 : ACode :=
  (.region false [⟨some 14, none, .mv (.s 4)⟩,
    ⟨some 15, none, .bin .add (.s 14) (.c (.t (.int .i64 1)))⟩,
    ⟨some 4, none, .mv (.s 15)⟩] [] [0, 3, 4])
def c15_3 : ACode :=
  (.seq (.region false [⟨some 2, none, .cst (.t (.bool true))⟩] [] [2]) .ret)
def c15_4 : ACode :=
  (.cond (.s 52) c15_3 .skip)
def c15_5 : ACode :=
  (.seq (.region true [⟨some 16, none, .mv (.s 0)⟩,
    ⟨some 17, none, .mv (.s 3)⟩,
    ⟨some 18, none, .ia 6 (.s 16) (.s 17)⟩,
    ⟨some 19, none, .fa 0 (.s 18)⟩,
    ⟨some 20, none, .ld false 1 (.s 19)⟩,
    ⟨some 21, none, .mv (.s 0)⟩,
    ⟨some 22, none, .mv (.s 4)⟩,
    ⟨some 23, none, .ia 6 (.s 21) (.s 22)⟩,
    ⟨some 24, none, .fa 0 (.s 23)⟩,
    ⟨some 25, none, .ld false 1 (.s 24)⟩,
    ⟨some 26, none, .bin .eql (.s 20) (.s 25)⟩,
    ⟨some 27, none, .mv (.s 26)⟩,
    ⟨some 28, some (27, true), .mv (.s 0)⟩,
    ⟨some 29, some (27, true), .mv (.s 3)⟩,
    ⟨some 30, some (27, true), .ia 6 (.s 28) (.s 29)⟩,
    ⟨some 31, some (27, true), .fa 1 (.s 30)⟩,
    ⟨some 32, some (27, true), .ld false 1 (.s 31)⟩,
    ⟨some 33, some (27, true), .mv (.s 0)⟩,
    ⟨some 34, some (27, true), .mv (.s 4)⟩,
    ⟨some 35, some (27, true), .ia 6 (.s 33) (.s 34)⟩,
    ⟨some 36, some (27, true), .fa 1 (.s 35)⟩,
    ⟨some 37, some (27, true), .ld false 1 (.s 36)⟩,
    ⟨some 38, some (27, true), .bin .eql (.s 32) (.s 37)⟩,
    ⟨some 39, none, .pick (.s 27) (.s 38) (.c (.t (.bool false)))⟩,
    ⟨some 40, none, .mv (.s 39)⟩,
    ⟨some 41, some (40, true), .mv (.s 0)⟩,
    ⟨some 42, some (40, true), .mv (.s 3)⟩,
    ⟨some 43, some (40, true), .ia 6 (.s 41) (.s 42)⟩,
    ⟨some 44, some (40, true), .fa 2 (.s 43)⟩,
    ⟨some 45, some (40, true), .ld false 1 (.s 44)⟩,
    ⟨some 46, some (40, true), .mv (.s 0)⟩,
    ⟨some 47, some (40, true), .mv (.s 4)⟩,
    ⟨some 48, some (40, true), .ia 6 (.s 46) (.s 47)⟩,
    ⟨some 49, some (40, true), .fa 2 (.s 48)⟩,
    ⟨some 50, some (40, true), .ld false 1 (.s 49)⟩,
    ⟨some 51, some (40, true), .bin .eql (.s 45) (.s 50)⟩,
    ⟨some 52, none, .pick (.s 40) (.s 51) (.c (.t (.bool false)))⟩] [[], [], [0, 1], [2], [3], [], [], [5, 6], [7], [8], [4, 9], [10], [11], [11], [12, 13, 11], [14, 11], [15, 11], [11], [11], [17, 18, 11], [19, 11], [20, 11], [16, 21, 11], [11, 22], [23, 11], [24], [24], [25, 26, 24], [27, 24], [28, 24], [24], [24], [30, 31, 24], [32, 24], [33, 24], [29, 34, 24], [24, 35]] [0, 3, 4, 52]) c15_4)
def c15_6 : ACode :=
  (.seq (.block 3 c15_5) c15_2)
def c15_7 : ACode :=
  (.cond (.s 13) .skip (.exit 2))
def c15_8 : ACode :=
  (.seq (.seq (.region false [⟨some 11, none, .mv (.s 4)⟩,
    ⟨some 12, none, .mv (.s 3)⟩,
    ⟨some 13, none, .bin .lss (.s 11) (.s 12)⟩] [] [0, 3, 4, 13]) c15_7) c15_6)
def c15_9 : ACode :=
  (.loop c15_8)
def c15_10 : ACode :=
  (.block 2 c15_9)
def c15_11 : ACode :=
  (.seq (.region false [⟨some 4, none, .cst (.t (.int .i64 0))⟩] [] [0, 3, 4]) c15_10)
def c15_12 : ACode :=
  (.seq (.block 1 c15_11) c15_1)
def c15_13 : ACode :=
  (.cond (.s 8) .skip (.exit 0))
def c15_14 : ACode :=
  (.seq (.seq (.region false [⟨some 5, none, .mv (.s 3)⟩,
    ⟨some 6, none, .mv (.s 0)⟩,
    ⟨some 7, none, .len (.s 6)⟩,
    ⟨some 8, none, .bin .lss (.s 5) (.s 7)⟩] [] [0, 3, 8]) c15_13) c15_12)
def c15_15 : ACode :=
  (.loop c15_14)
def c15_16 : ACode :=
  (.block 0 c15_15)
def c15_17 : ACode :=
  (.seq (.seq (.region false [⟨some 3, none, .cst (.t (.int .i64 0))⟩] [] [0, 3]) c15_16) c15_0)
def c15 : ACode :=
  (.seq (.region false [⟨some 2, none, .cst (.t (.bool false))⟩] [] [0]) c15_17)
def r15 : List ARes := [.tmp 2]
def n15 : Nat := 53
/- 16 supergraph reach.Levels -/
def c16_0 : ACode :=
  (.seq (.region false [⟨some 40, none, .mv (.s 8)⟩,
    ⟨some 6, none, .mv (.s 40)⟩] [] [6]) .ret)
def c16_1 : ACode :=
  (.region false [⟨some 39, none, .bin .add (.s 21) (.c (.t (.int .i64 1)))⟩,
    ⟨some 21, none, .mv (.s 39)⟩] [] [7, 8, 19, 20, 21])
def c16_2 : ACode :=
  (.region false [⟨some 30, none, .mv (.s 8)⟩,
    ⟨some 31, none, .fa 1 (.s 10)⟩,
    ⟨some 32, none, .ld false 1 (.s 31)⟩,
    ⟨some 33, none, .fa 2 (.s 10)⟩,
    ⟨some 34, none, .ld false 1 (.s 33)⟩,
    ⟨some 35, none, .mv (.s 11)⟩,
    ⟨some 36, none, .build [.t (.str []), .t (.int .i64 0), .t (.int .i64 0)] [(0, 1, (.s 32)), (1, 1, (.s 34)), (2, 1, (.s 35))]⟩,
    ⟨some 37, none, .bsl false 3 [[.str [], .int .i64 0, .int .i64 0]] [(0, (.s 36))]⟩,
    ⟨some 38, none, .app 3 32 (.s 30) (.s 37)⟩,
    ⟨some 8, none, .mv (.s 38)⟩] [] [7, 8, 19, 20, 21])
def c16_3 : ACode :=
  (.cond (.s 29) c16_2 .skip)
def c16_4 : ACode :=
  (.seq (.region false [⟨some 28, none, .mv (.s 11)⟩,
    ⟨some 29, none, .bin .gtr (.s 28) (.c (.t (.int .i64 0)))⟩] [] [7, 8, 10, 11, 19, 20, 21, 29]) c16_3)
def c16_5 : ACode :=
  (.seq (.region false [⟨some 25, none, .mv (.s 7)⟩,
    ⟨some 26, none, .ld true 6 (.s 10)⟩,
    ⟨some 27, none, .call 29 [(.s 25), (.s 26)]⟩,
    ⟨some 11, none, .mv (.s 27)⟩] [] [7, 8, 10, 11, 19, 20, 21]) c16_4)
def c16_6 : ACode :=
  (.seq (.region false [⟨some 23, none, .ia 6 (.s 19) (.s 21)⟩,
    ⟨some 24, none, .ld true 6 (.s 23)⟩,
    ⟨some 10, none, .alloc [.t (.str []), .t (.str []), .t (.int .i64 0), .t (.bool false), .nils, .nils]⟩,
    ⟨none, none, .st 6 (.s 10) (.s 24)⟩] [] [7, 8, 10, 19, 20, 21]) c16_5)
def c16_7 : ACode :=
  (.seq (.block 1 c16_6) c16_1)
def c16_8 : ACode :=
  (.seq (.cond (.s 22) .skip (.exit 0)) c16_7)
def c16_9 : ACode :=
  (.seq (.region false [⟨some 22, none, .bin .lss (.s 21) (.s 20)⟩] [] [7, 8, 19, 20, 21, 22]) c16_8)
def c16_10 : ACode :=
  (.loop c16_9)
def c16_11 : ACode :=
  (.block 0 c16_10)
def c16_12 : ACode :=
  (.seq (.seq (.region false [⟨some 16, none, .mv (.s 7)⟩,
    ⟨some 17, none, .nilck (.s 16)⟩,
    ⟨some 18, none, .fa 5 (.s 17)⟩,
    ⟨some 19, none, .ld false 1 (.s 18)⟩,
    ⟨some 20, none, .len (.s 19)⟩,
    ⟨some 21, none, .cst (.t (.int .i64 0))⟩] [] [7, 8, 19, 20, 21]) c16_11) c16_0)
def c16_13 : ACode :=
  (.seq (.region false [⟨some 8, none, .cst (.nils)⟩] [] [7, 8]) c16_12)
def c16_14 : ACode :=
  (.seq (.region false [⟨some 12, none, .ld true 4 (.s 3)⟩,
    ⟨some 13, none, .mv (.s 1)⟩,
    ⟨some 14, none, .mv (.s 2)⟩,
    ⟨some 15, none, .call 25 [(.s 12), (.s 13), (.s 14)]⟩,
    ⟨some 7, none, .mv (.s 15)⟩] [] [7]) c16_13)
def c16 : ACode :=
  (.seq (.region false [⟨some 3, none, .box 4 (.s 0)⟩,
    ⟨some 6, none, .cst (.nils)⟩] [] [1, 2, 3]) c16_14)
def r16 : List ARes := [.tmp 6]
def n16 : Nat := 41
/- 17 supergraph supergraphref26.Levels -/
def c17_0 : ACode :=
  (.seq (.region false [⟨some 58, none, .mv (.s 8)⟩,
    ⟨some 6, none, .mv (.s 58)⟩] [] [6]) .ret)
def c17_1 : ACode :=
  (.region false [⟨some 21, none, .mv (.s 9)⟩,
    ⟨some 22, none, .bin .add (.s 21) (.c (.t (.int .i64 1)))⟩,
    ⟨some 9, none, .mv (.s 22)⟩] [] [7, 8, 9])
def c17_2 : ACode :=
  (.region true [⟨some 31, none, .mv (.s 8)⟩,
    ⟨some 32, none, .mv (.s 7)⟩,
    ⟨some 33, none, .nilck (.s 32)⟩,
    ⟨some 34, none, .fa 1 (.s 33)⟩,
    ⟨some 35, none, .ld false 1 (.s 34)⟩,
    ⟨some 36, none, .mv (.s 9)⟩,
    ⟨some 37, none, .ia 6 (.s 35) (.s 36)⟩,
    ⟨some 38, none, .fa 1 (.s 37)⟩,
    ⟨some 39, none, .ld false 1 (.s 38)⟩,
    ⟨some 40, none, .mv (.s 7)⟩,
    ⟨some 41, none, .nilck (.s 40)⟩,
    ⟨some 42, none, .fa 1 (.s 41)⟩,
    ⟨some 43, none, .ld false 1 (.s 42)⟩,
    ⟨some 44, none, .mv (.s 9)⟩,
    ⟨some 45, none, .ia 6 (.s 43) (.s 44)⟩,
    ⟨some 46, none, .fa 2 (.s 45)⟩,
    ⟨some 47, none, .ld false 1 (.s 46)⟩,
    ⟨some 48, none, .mv (.s 7)⟩,
    ⟨some 49, none, .nilck (.s 48)⟩,
    ⟨some 50, none, .fa 4 (.s 49)⟩,
    ⟨some 51, none, .ld false 1 (.s 50)⟩,
    ⟨some 52, none, .mv (.s 9)⟩,
    ⟨some 53, none, .ia 1 (.s 51) (.s 52)⟩,
    ⟨some 54, none, .ld false 1 (.s 53)⟩,
    ⟨some 55, none, .build [.t (.str []), .t (.int .i64 0), .t (.int .i64 0)] [(0, 1, (.s 39)), (1, 1, (.s 47)), (2, 1, (.s 54))]⟩,
    ⟨some 56, none, .bsl false 3 [[.str [], .int .i64 0, .int .i64 0]] [(0, (.s 55))]⟩,
    ⟨some 57, none, .app 3 32 (.s 31) (.s 56)⟩,
    ⟨some 8, none, .mv (.s 57)⟩] [[], [], [1], [2], [3], [], [4, 5], [6], [7], [], [9], [10], [11], [], [12, 13], [14], [15], [], [17], [18], [19], [], [20, 21], [22], [8, 16, 23], [24], [0, 25], [26, 26, 0, 1, 2, 3, 4, 5, 6, 7, 8, 9, 10, 11, 12, 13, 14, 15, 16, 17, 18, 19, 20, 21, 22, 23, 24, 25, 26]] [7, 8, 9])
def c17_3 : ACode :=
  (.cond (.s 30) c17_2 .skip)
def c17_4 : ACode :=
  (.seq (.region false [⟨some 23, none, .mv (.s 7)⟩,
    ⟨some 24, none, .nilck (.s 23)⟩,
    ⟨some 25, none, .fa 4 (.s 24)⟩,
    ⟨some 26, none, .ld false 1 (.s 25)⟩,
    ⟨some 27, none, .mv (.s 9)⟩,
    ⟨some 28, none, .ia 1 (.s 26) (.s 27)⟩,
    ⟨some 29, none, .ld false 1 (.s 28)⟩,
    ⟨some 30, none, .bin .gtr (.s 29) (.c (.t (.int .i64 0)))⟩] [] [7, 8, 9, 30]) c17_3)
def c17_5 : ACode :=
  (.seq (.block 1 c17_4) c17_1)
def c17_6 : ACode :=
  (.cond (.s 20) .skip (.exit 0))
def c17_7 : ACode :=
  (.seq (.seq (.region false [⟨some 14, none, .mv (.s 9)⟩,
    ⟨some 15, none, .mv (.s 7)⟩,
    ⟨some 16, none, .nilck (.s 15)⟩,
    ⟨some 17, none, .fa 1 (.s 16)⟩,
    ⟨some 18, none, .ld false 1 (.s 17)⟩,
    ⟨some 19, none, .len (.s 18)⟩,
    ⟨some 20, none, .bin .lss (.s 14) (.s 19)⟩] [] [7, 8, 9, 20]) c17_6) c17_5)
def c17_8 : ACode :=
  (.loop c17_7)
def c17_9 : ACode :=
  (.block 0 c17_8)
def c17_10 : ACode :=
  (.seq (.seq (.region false [⟨some 9, none, .cst (.t (.int .i64 0))⟩] [] [7, 8, 9]) c17_9) c17_0)
def c17_11 : ACode :=
  (.seq (.region false [⟨some 8, none, .cst (.nils)⟩] [] [7, 8]) c17_10)
def c17_12 : ACode :=
  (.seq (.region false [⟨some 10, none, .ld true 4 (.s 3)⟩,
    ⟨some 11, none, .mv (.s 1)⟩,
    ⟨some 12, none, .mv (.s 2)⟩,
    ⟨some 13, none, .call 27 [(.s 10), (.s 11), (.s 12)]⟩,
    ⟨some 7, none, .mv (.s 13)⟩] [] [7]) c17_11)
def c17 : ACode :=
  (.seq (.region false [⟨some 3, none, .box 4 (.s 0)⟩,
    ⟨some 6, none, .cst (.nils)⟩] [] [1, 2, 3]) c17_12)
def r17 : List ARes := [.tmp 6]
def n17 : Nat := 59
/- 18 supergraph supergraphref26.Get -/
def c18_0 : ACode :=
  (.seq (.region false [⟨some 17, none, .mv (.s 10)⟩,
    ⟨some 18, none, .mv (.s 10)⟩,
    ⟨some 19, none, .bin .gtr (.s 18) (.c (.t (.int .i64 0)))⟩,
    ⟨some 8, none, .mv (.s 17)⟩,
    ⟨some 9, none, .mv (.s 19)⟩] [] [8, 9]) .ret)
def c18_1 : ACode :=
  (.seq (.region false [⟨some 11, none, .ld true 4 (.s 4)⟩,
    ⟨some 12, none, .mv (.s 1)⟩,
    ⟨some 13, none, .mv (.s 2)⟩,
    ⟨some 14, none, .call 27 [(.s 11), (.s 12), (.s 13)]⟩,
    ⟨some 15, none, .mv (.s 3)⟩,
    ⟨some 16, none, .call 30 [(.s 14), (.s 15)]⟩,
    ⟨some 10, none, .mv (.s 16)⟩] [] [10]) c18_0)
def c18 : ACode :=
  (.seq (.region false [⟨some 4, none, .box 4 (.s 0)⟩,
    ⟨some 8, none, .cst (.t (.int .i64 0))⟩,
    ⟨some 9, none, .cst (.t (.bool false))⟩] [] [1, 2, 3, 4]) c18_1)
def r18 : List ARes := [.tmp 8, .tmp 9]
def n18 : Nat := 20
/- 19 supergraph supergraphref26.Spots -/
def c19_0 : ACode :=
  (.seq (.region false [⟨some 4, none, .cst (.t (.bool true))⟩] [] [4]) .ret)
def c19_1 : ACode :=
  (.region false [⟨some 16, none, .mv (.s 5)⟩,
    ⟨some 17, none, .bin .add (.s 16) (.c (.t (.int .i64 1)))⟩,
    ⟨some 5, none, .mv (.s 17)⟩] [] [0, 1, 5])
def c19_2 : ACode :=
  (.region false [⟨some 65, none, .mv (.s 6)⟩,
    ⟨some 66, none, .bin .add (.s 65) (.c (.t (.int .i64 1)))⟩,
    ⟨some 6, none, .mv (.s 66)⟩] [] [0, 1, 5, 6])
def c19_3 : ACode :=
  (.seq (.region false [⟨some 4, none, .cst (.t (.bool false))⟩] [] [4]) .ret)
def c19_4 : ACode :=
  (.cond (.s 83) c19_3 .skip)
def c19_5 : ACode :=
  (.seq (.region true [⟨some 67, none, .mv (.s 0)⟩,
    ⟨some 68, none, .mv (.s 5)⟩,
    ⟨some 69, none, .ia 3 (.s 67) (.s 68)⟩,
    ⟨some 70, none, .fa 2 (.s 69)⟩,
    ⟨some 71, none, .ld false 1 (.s 70)⟩,
    ⟨some 72, none, .mv (.s 6)⟩,
    ⟨some 73, none, .ia 1 (.s 71) (.s 72)⟩,
    ⟨some 74, none, .ld false 1 (.s 73)⟩,
    ⟨some 75, none, .mv (.s 1)⟩,
    ⟨some 76, none, .mv (.s 5)⟩,
    ⟨some 77, none, .ia 3 (.s 75) (.s 76)⟩,
    ⟨some 78, none, .fa 2 (.s 77)⟩,
    ⟨some 79, none, .ld false 1 (.s 78)⟩,
    ⟨some 80, none, .mv (.s 6)⟩,
    ⟨some 81, none, .ia 1 (.s 79) (.s 80)⟩,
    ⟨some 82, none, .ld false 1 (.s 81)⟩,
    ⟨some 83, none, .bin .neq (.s 74) (.s 82)⟩] [[], [], [0, 1], [2], [3], [], [4, 5], [6], [], [], [8, 9], [10], [11], [], [12, 13], [14], [7, 15]] [0, 1, 5, 6, 83]) c19_4)
def c19_6 : ACode :=
  (.seq (.block 3 c19_5) c19_2)
def c19_7 : ACode :=
  (.cond (.s 64) .skip (.exit 2))
def c19_8 : ACode :=
  (.seq (.seq (.region false [⟨some 57, none, .mv (.s 6)⟩,
    ⟨some 58, none, .mv (.s 0)⟩,
    ⟨some 59, none, .mv (.s 5)⟩,
    ⟨some 60, none, .ia 3 (.s 58) (.s 59)⟩,
    ⟨some 61, none, .fa 2 (.s 60)⟩,
    ⟨some 62, none, .ld false 1 (.s 61)⟩,
    ⟨some 63, none, .len (.s 62)⟩,
    ⟨some 64, none, .bin .lss (.s 57) (.s 63)⟩] [] [0, 1, 5, 6, 64]) c19_7) c19_6)
def c19_9 : ACode :=
  (.loop c19_8)
def c19_10 : ACode :=
  (.block 2 c19_9)
def c19_11 : ACode :=
  (.seq (.region false [⟨some 6, none, .cst (.t (.int .i64 0))⟩] [] [0, 1, 5, 6]) c19_10)
def c19_12 : ACode :=
  (.seq (.region false [⟨some 4, none, .cst (.t (.bool false))⟩] [] [4]) .ret)
def c19_13 : ACode :=
  (.cond (.s 56) c19_12 .skip)
def c19_14 : ACode :=
  (.seq (.seq (.region true [⟨some 18, none, .mv (.s 0)⟩,
    ⟨some 19, none, .mv (.s 5)⟩,
    ⟨some 20, none, .ia 3 (.s 18) (.s 19)⟩,
    ⟨some 21, none, .fa 0 (.s 20)⟩,
    ⟨some 22, none, .ld false 1 (.s 21)⟩,
    ⟨some 23, none, .mv (.s 1)⟩,
    ⟨some 24, none, .mv (.s 5)⟩,
    ⟨some 25, none, .ia 3 (.s 23) (.s 24)⟩,
    ⟨some 26, none, .fa 0 (.s 25)⟩,
    ⟨some 27, none, .ld false 1 (.s 26)⟩,
    ⟨some 28, none, .bin .neq (.s 22) (.s 27)⟩,
    ⟨some 29, none, .mv (.s 28)⟩,
    ⟨some 30, some (29, false), .mv (.s 0)⟩,
    ⟨some 31, some (29, false), .mv (.s 5)⟩,
    ⟨some 32, some (29, false), .ia 3 (.s 30) (.s 31)⟩,
    ⟨some 33, some (29, false), .fa 1 (.s 32)⟩,
    ⟨some 34, some (29, false), .ld false 1 (.s 33)⟩,
    ⟨some 35, some (29, false), .mv (.s 1)⟩,
    ⟨some 36, some (29, false), .mv (.s 5)⟩,
    ⟨some 37, some (29, false), .ia 3 (.s 35) (.s 36)⟩,
    ⟨some 38, some (29, false), .fa 1 (.s 37)⟩,
    ⟨some 39, some (29, false), .ld false 1 (.s 38)⟩,
    ⟨some 40, some (29, false), .bin .neq (.s 34) (.s 39)⟩,
    ⟨some 41, none, .pick (.s 29) (.c (.t (.bool true))) (.s 40)⟩,
    ⟨some 42, none, .mv (.s 41)⟩,
    ⟨some 43, some (42, false), .mv (.s 0)⟩,
    ⟨some 44, some (42, false), .mv (.s 5)⟩,
    ⟨some 45, some (42, false), .ia 3 (.s 43) (.s 44)⟩,
    ⟨some 46, some (42, false), .fa 2 (.s 45)⟩,
    ⟨some 47, some (42, false), .ld false 1 (.s 46)⟩,
    ⟨some 48, some (42, false), .len (.s 47)⟩,
    ⟨some 49, some (42, false), .mv (.s 1)⟩,
    ⟨some 50, some (42, false), .mv (.s 5)⟩,
    ⟨some 51, some (42, false), .ia 3 (.s 49) (.s 50)⟩,
    ⟨some 52, some (42, false), .fa 2 (.s 51)⟩,
    ⟨some 53, some (42, false), .ld false 1 (.s 52)⟩,
    ⟨some 54, some (42, false), .len (.s 53)⟩,
    ⟨some 55, some (42, false), .bin .neq (.s 48) (.s 54)⟩,
    ⟨some 56, none, .pick (.s 42) (.c (.t (.bool true))) (.s 55)⟩] [[], [], [0, 1], [2], [3], [], [], [5, 6], [7], [8], [4, 9], [10], [11], [11], [12, 13, 11], [14, 11], [15, 11], [11], [11], [17, 18, 11], [19, 11], [20, 11], [16, 21, 11], [11, 22], [23, 11], [24], [24], [25, 26, 24], [27, 24], [28, 24], [29, 24], [24], [24], [31, 32, 24], [33, 24], [34, 24], [35, 24], [30, 36, 24], [24, 37]] [0, 1, 5, 56]) c19_13) c19_11)
def c19_15 : ACode :=
  (.seq (.block 1 c19_14) c19_1)
def c19_16 : ACode :=
  (.cond (.s 15) .skip (.exit 0))
def c19_17 : ACode :=
  (.seq (.seq (.region false [⟨some 12, none, .mv (.s 5)⟩,
    ⟨some 13, none, .mv (.s 0)⟩,
    ⟨some 14, none, .len (.s 13)⟩,
    ⟨some 15, none, .bin .lss (.s 12) (.s 14)⟩] [] [0, 1, 5, 15]) c19_16) c19_15)
def c19_18 : ACode :=
  (.loop c19_17)
def c19_19 : ACode :=
  (.block 0 c19_18)
def c19_20 : ACode :=
  (.seq (.seq (.region false [⟨some 5, none, .cst (.t (.int .i64 0))⟩] [] [0, 1, 5]) c19_19) c19_0)
def c19_21 : ACode :=
  (.seq (.region false [⟨some 4, none, .cst (.t (.bool false))⟩] [] [4]) .ret)
def c19_22 : ACode :=
  (.cond (.s 11) c19_21 .skip)
def c19_23 : ACode :=
  (.seq (.seq (.region false [⟨some 7, none, .mv (.s 0)⟩,
    ⟨some 8, none, .len (.s 7)⟩,
    ⟨some 9, none, .mv (.s 1)⟩,
    ⟨some 10, none, .len (.s 9)⟩,
    ⟨some 11, none, .bin .neq (.s 8) (.s 10)⟩] [] [0, 1, 11]) c19_22) c19_20)
def c19 : ACode :=
  (.seq (.region false [⟨some 4, none, .cst (.t (.bool false))⟩] [] [0, 1]) c19_23)
def r19 : List ARes := [.tmp 4]
def n19 : Nat := 84
/- 20 supergraph reach.Child -/
def c20_0 : ACode :=
  (.seq (.region false [⟨some 64, none, .mv (.s 10)⟩,
    ⟨some 8, none, .mv (.s 64)⟩] [] [8]) .ret)
def c20_1 : ACode :=
  (.region false [⟨some 63, none, .bin .add (.s 22) (.c (.t (.int .i64 1)))⟩,
    ⟨some 22, none, .mv (.s 63)⟩] [] [3, 9, 10, 21, 22])
def c20_2 : ACode :=
  (.region false [⟨some 62, none, .bin .add (.s 30) (.c (.t (.int .i64 1)))⟩,
    ⟨some 30, none, .mv (.s 62)⟩] [] [3, 9, 10, 11, 21, 22, 28, 29, 30])
def c20_3 : ACode :=
  (.region false [⟨some 53, none, .mv (.s 10)⟩,
    ⟨some 54, none, .mv (.s 11)⟩,
    ⟨some 55, none, .mv (.s 14)⟩,
    ⟨some 56, none, .fa 5 (.s 13)⟩,
    ⟨some 57, none, .ld false 1 (.s 56)⟩,
    ⟨some 58, none, .call 31 [(.s 57)]⟩,
    ⟨some 59, none, .build [.t (.int .i64 0), .t (.int .i64 0), .nils] [(0, 1, (.s 54)), (1, 1, (.s 55)), (2, 1, (.s 58))]⟩,
    ⟨some 60, none, .bsl false 3 [[.int .i64 0, .int .i64 0, .lst []]] [(0, (.s 59))]⟩,
    ⟨some 61, none, .app 3 40 (.s 53) (.s 60)⟩,
    ⟨some 10, none, .mv (.s 61)⟩] [] [3, 9, 10, 11, 21, 22, 28, 29, 30])
def c20_4 : ACode :=
  (.cond (.s 52) c20_3 .skip)
def c20_5 : ACode :=
  (.seq (.region false [⟨some 51, none, .mv (.s 14)⟩,
    ⟨some 52, none, .bin .gtr (.s 51) (.c (.t (.int .i64 0)))⟩] [] [3, 9, 10, 11, 13, 14, 21, 22, 28, 29, 30, 52]) c20_4)
def c20_6 : ACode :=
  (.seq (.region false [⟨some 48, none, .mv (.s 9)⟩,
    ⟨some 49, none, .ld true 6 (.s 13)⟩,
    ⟨some 50, none, .call 29 [(.s 48), (.s 49)]⟩,
    ⟨some 14, none, .mv (.s 50)⟩] [] [3, 9, 10, 11, 13, 14, 21, 22, 28, 29, 30]) c20_5)
def c20_7 : ACode :=
  (.cond (.s 47) (.exit 3) .skip)
def c20_8 : ACode :=
  (.seq (.seq (.region false [⟨some 34, none, .fa 1 (.s 13)⟩,
    ⟨some 35, none, .ld false 1 (.s 34)⟩,
    ⟨some 36, none, .mv (.s 3)⟩,
    ⟨some 37, none, .bin .neq (.s 35) (.s 36)⟩,
    ⟨some 38, none, .mv (.s 37)⟩,
    ⟨some 39, some (38, false), .fa 2 (.s 13)⟩,
    ⟨some 40, some (38, false), .ld false 1 (.s 39)⟩,
    ⟨some 41, some (38, false), .mv (.s 11)⟩,
    ⟨some 42, some (38, false), .bin .neq (.s 40) (.s 41)⟩,
    ⟨some 43, none, .pick (.s 38) (.c (.t (.bool true))) (.s 42)⟩,
    ⟨some 44, none, .mv (.s 43)⟩,
    ⟨some 45, some (44, false), .fa 3 (.s 13)⟩,
    ⟨some 46, some (44, false), .ld false 1 (.s 45)⟩,
    ⟨some 47, none, .pick (.s 44) (.c (.t (.bool true))) (.s 46)⟩] [] [3, 9, 10, 11, 13, 21, 22, 28, 29, 30, 47]) c20_7) c20_6)
def c20_9 : ACode :=
  (.seq (.region false [⟨some 32, none, .ia 6 (.s 28) (.s 30)⟩,
    ⟨some 33, none, .ld true 6 (.s 32)⟩,
    ⟨some 13, none, .alloc [.t (.str []), .t (.str []), .t (.int .i64 0), .t (.bool false), .nils, .nils]⟩,
    ⟨none, none, .st 6 (.s 13) (.s 33)⟩] [] [3, 9, 10, 11, 13, 21, 22, 28, 29, 30]) c20_8)
def c20_10 : ACode :=
  (.seq (.block 3 c20_9) c20_2)
def c20_11 : ACode :=
  (.seq (.cond (.s 31) .skip (.exit 2)) c20_10)
def c20_12 : ACode :=
  (.seq (.region false [⟨some 31, none, .bin .lss (.s 30) (.s 29)⟩] [] [3, 9, 10, 11, 21, 22, 28, 29, 30, 31]) c20_11)
def c20_13 : ACode :=
  (.loop c20_12)
def c20_14 : ACode :=
  (.block 2 c20_13)
def c20_15 : ACode :=
  (.seq (.region false [⟨some 25, none, .mv (.s 9)⟩,
    ⟨some 26, none, .nilck (.s 25)⟩,
    ⟨some 27, none, .fa 5 (.s 26)⟩,
    ⟨some 28, none, .ld false 1 (.s 27)⟩,
    ⟨some 29, none, .len (.s 28)⟩,
    ⟨some 30, none, .cst (.t (.int .i64 0))⟩] [] [3, 9, 10, 11, 21, 22, 28, 29, 30]) c20_14)
def c20_16 : ACode :=
  (.seq (.region false [⟨some 24, none, .mv (.s 22)⟩,
    ⟨some 11, none, .mv (.s 24)⟩] [] [3, 9, 10, 11, 21, 22]) c20_15)
def c20_17 : ACode :=
  (.seq (.block 1 c20_16) c20_1)
def c20_18 : ACode :=
  (.seq (.cond (.s 23) .skip (.exit 0)) c20_17)
def c20_19 : ACode :=
  (.seq (.region false [⟨some 23, none, .bin .lss (.s 22) (.s 21)⟩] [] [3, 9, 10, 21, 22, 23]) c20_18)
def c20_20 : ACode :=
  (.loop c20_19)
def c20_21 : ACode :=
  (.block 0 c20_20)
def c20_22 : ACode :=
  (.seq (.seq (.region false [⟨some 19, none, .fa 0 (.s 4)⟩,
    ⟨some 20, none, .ld false 1 (.s 19)⟩,
    ⟨some 21, none, .len (.s 20)⟩,
    ⟨some 22, none, .cst (.t (.int .i64 0))⟩] [] [3, 9, 10, 21, 22]) c20_21) c20_0)
def c20_23 : ACode :=
  (.seq (.region false [⟨some 10, none, .cst (.nils)⟩] [] [3, 4, 9, 10]) c20_22)
def c20_24 : ACode :=
  (.seq (.region false [⟨some 15, none, .ld true 4 (.s 4)⟩,
    ⟨some 16, none, .mv (.s 1)⟩,
    ⟨some 17, none, .mv (.s 2)⟩,
    ⟨some 18, none, .call 25 [(.s 15), (.s 16), (.s 17)]⟩,
    ⟨some 9, none, .mv (.s 18)⟩] [] [3, 4, 9]) c20_23)
def c20 : ACode :=
  (.seq (.region false [⟨some 4, none, .box 4 (.s 0)⟩,
    ⟨some 8, none, .cst (.nils)⟩] [] [1, 2, 3, 4]) c20_24)
def r20 : List ARes := [.tmp 8]
def n20 : Nat := 65
/- 21 supergraph supergraphref26.Child -/
def c21_0 : ACode :=
  (.seq (.region false [⟨some 85, none, .mv (.s 10)⟩,
    ⟨some 8, none, .mv (.s 85)⟩] [] [8]) .ret)
def c21_1 : ACode :=
  (.region false [⟨some 25, none, .mv (.s 11)⟩,
    ⟨some 26, none, .bin .add (.s 25) (.c (.t (.int .i64 1)))⟩,
    ⟨some 11, none, .mv (.s 26)⟩] [] [3, 9, 10, 11])
def c21_2 : ACode :=
  (.region false [⟨some 34, none, .mv (.s 12)⟩,
    ⟨some 35, none, .bin .add (.s 34) (.c (.t (.int .i64 1)))⟩,
    ⟨some 12, none, .mv (.s 35)⟩] [] [3, 9, 10, 11, 12])
def c21_3 : ACode :=
  (.region false [⟨some 72, none, .mv (.s 10)⟩,
    ⟨some 73, none, .mv (.s 11)⟩,
    ⟨some 74, none, .mv (.s 9)⟩,
    ⟨some 75, none, .nilck (.s 74)⟩,
    ⟨some 76, none, .fa 4 (.s 75)⟩,
    ⟨some 77, none, .ld false 1 (.s 76)⟩,
    ⟨some 78, none, .mv (.s 12)⟩,
    ⟨some 79, none, .ia 1 (.s 77) (.s 78)⟩,
    ⟨some 80, none, .ld false 1 (.s 79)⟩,
    ⟨some 81, none, .mv (.s 14)⟩,
    ⟨some 82, none, .build [.t (.int .i64 0), .t (.int .i64 0), .nils] [(0, 1, (.s 73)), (1, 1, (.s 80)), (2, 1, (.s 81))]⟩,
    ⟨some 83, none, .bsl false 3 [[.int .i64 0, .int .i64 0, .lst []]] [(0, (.s 82))]⟩,
    ⟨some 84, none, .app 3 40 (.s 72) (.s 83)⟩,
    ⟨some 10, none, .mv (.s 84)⟩] [] [3, 9, 10, 11, 12])
def c21_4 : ACode :=
  (.seq (.region false [⟨some 68, none, .mv (.s 14)⟩,
    ⟨some 69, none, .fa 5 (.s 13)⟩,
    ⟨some 70, none, .ld false 1 (.s 69)⟩,
    ⟨some 71, none, .app 1 16 (.s 68) (.s 70)⟩,
    ⟨some 14, none, .mv (.s 71)⟩] [] [3, 9, 10, 11, 12, 14]) c21_3)
def c21_5 : ACode :=
  (.seq (.region false [⟨some 14, none, .cst (.nils)⟩] [] [3, 9, 10, 11, 12, 13, 14]) c21_4)
def c21_6 : ACode :=
  (.cond (.s 67) c21_5 .skip)
def c21_7 : ACode :=
  (.seq (.region false [⟨some 43, none, .fa 2 (.s 13)⟩,
    ⟨some 44, none, .ld false 1 (.s 43)⟩,
    ⟨some 45, none, .mv (.s 11)⟩,
    ⟨some 46, none, .bin .eql (.s 44) (.s 45)⟩,
    ⟨some 47, none, .mv (.s 46)⟩,
    ⟨some 48, some (47, true), .fa 1 (.s 13)⟩,
    ⟨some 49, some (47, true), .ld false 1 (.s 48)⟩,
    ⟨some 50, some (47, true), .mv (.s 3)⟩,
    ⟨some 51, some (47, true), .bin .eql (.s 49) (.s 50)⟩,
    ⟨some 52, none, .pick (.s 47) (.s 51) (.c (.t (.bool false)))⟩,
    ⟨some 53, none, .mv (.s 52)⟩,
    ⟨some 54, some (53, true), .fa 3 (.s 13)⟩,
    ⟨some 55, some (53, true), .ld false 1 (.s 54)⟩,
    ⟨some 56, some (53, true), .un .not (.s 55)⟩,
    ⟨some 57, none, .pick (.s 53) (.s 56) (.c (.t (.bool false)))⟩,
    ⟨some 58, none, .mv (.s 57)⟩,
    ⟨some 59, some (58, true), .mv (.s 9)⟩,
    ⟨some 60, some (58, true), .nilck (.s 59)⟩,
    ⟨some 61, some (58, true), .fa 4 (.s 60)⟩,
    ⟨some 62, some (58, true), .ld false 1 (.s 61)⟩,
    ⟨some 63, some (58, true), .mv (.s 12)⟩,
    ⟨some 64, some (58, true), .ia 1 (.s 62) (.s 63)⟩,
    ⟨some 65, some (58, true), .ld false 1 (.s 64)⟩,
    ⟨some 66, some (58, true), .bin .gtr (.s 65) (.c (.t (.int .i64 0)))⟩,
    ⟨some 67, none, .pick (.s 58) (.s 66) (.c (.t (.bool false)))⟩] [] [3, 9, 10, 11, 12, 13, 67]) c21_6)
def c21_8 : ACode :=
  (.seq (.region false [⟨some 36, none, .mv (.s 9)⟩,
    ⟨some 37, none, .nilck (.s 36)⟩,
    ⟨some 38, none, .fa 1 (.s 37)⟩,
    ⟨some 39, none, .ld false 1 (.s 38)⟩,
    ⟨some 40, none, .mv (.s 12)⟩,
    ⟨some 41, none, .ia 6 (.s 39) (.s 40)⟩,
    ⟨some 42, none, .ld true 6 (.s 41)⟩,
    ⟨some 13, none, .alloc [.t (.str []), .t (.str []), .t (.int .i64 0), .t (.bool false), .nils, .nils]⟩,
    ⟨none, none, .st 6 (.s 13) (.s 42)⟩] [] [3, 9, 10, 11, 12, 13]) c21_7)
def c21_9 : ACode :=
  (.seq (.block 3 c21_8) c21_2)
def c21_10 : ACode :=
  (.cond (.s 33) .skip (.exit 2))
def c21_11 : ACode :=
  (.seq (.seq (.region false [⟨some 27, none, .mv (.s 12)⟩,
    ⟨some 28, none, .mv (.s 9)⟩,
    ⟨some 29, none, .nilck (.s 28)⟩,
    ⟨some 30, none, .fa 1 (.s 29)⟩,
    ⟨some 31, none, .ld false 1 (.s 30)⟩,
    ⟨some 32, none, .len (.s 31)⟩,
    ⟨some 33, none, .bin .lss (.s 27) (.s 32)⟩] [] [3, 9, 10, 11, 12, 33]) c21_10) c21_9)
def c21_12 : ACode :=
  (.loop c21_11)
def c21_13 : ACode :=
  (.block 2 c21_12)
def c21_14 : ACode :=
  (.seq (.region false [⟨some 12, none, .cst (.t (.int .i64 0))⟩] [] [3, 9, 10, 11, 12]) c21_13)
def c21_15 : ACode :=
  (.seq (.block 1 c21_14) c21_1)
def c21_16 : ACode :=
  (.cond (.s 24) .skip (.exit 0))
def c21_17 : ACode :=
  (.seq (.seq (.region false [⟨some 19, none, .mv (.s 11)⟩,
    ⟨some 20, none, .mv (.s 9)⟩,
    ⟨some 21, none, .nilck (.s 20)⟩,
    ⟨some 22, none, .fa 0 (.s 21)⟩,
    ⟨some 23, none, .ld false 1 (.s 22)⟩,
    ⟨some 24, none, .bin .lss (.s 19) (.s 23)⟩] [] [3, 9, 10, 11, 24]) c21_16) c21_15)
def c21_18 : ACode :=
  (.loop c21_17)
def c21_19 : ACode :=
  (.block 0 c21_18)
def c21_20 : ACode :=
  (.seq (.seq (.region false [⟨some 11, none, .cst (.t (.int .i64 0))⟩] [] [3, 9, 10, 11]) c21_19) c21_0)
def c21_21 : ACode :=
  (.seq (.region false [⟨some 10, none, .cst (.nils)⟩] [] [3, 9, 10]) c21_20)
def c21_22 : ACode :=
  (.seq (.region false [⟨some 15, none, .ld true 4 (.s 4)⟩,
    ⟨some 16, none, .mv (.s 1)⟩,
    ⟨some 17, none, .mv (.s 2)⟩,
    ⟨some 18, none, .call 27 [(.s 15), (.s 16), (.s 17)]⟩,
    ⟨some 9, none, .mv (.s 18)⟩] [] [3, 9]) c21_21)
def c21 : ACode :=
  (.seq (.region false [⟨some 4, none, .box 4 (.s 0)⟩,
    ⟨some 8, none, .cst (.nils)⟩] [] [1, 2, 3, 4]) c21_22)
def r21 : List ARes := [.tmp 8]
def n21 : Nat := 86
/- 22 supergraph reach.Roots -/
def c22_0 : ACode :=
  (.seq (.region false [⟨some 23, none, .mv (.s 5)⟩,
    ⟨some 4, none, .mv (.s 23)⟩] [] [4]) .ret)
def c22_1 : ACode :=
  (.region false [⟨some 22, none, .bin .add (.s 10) (.c (.t (.int .i64 1)))⟩,
    ⟨some 10, none, .mv (.s 22)⟩] [] [2, 3, 5, 9, 10])
def c22_2 : ACode :=
  (.region false [⟨some 17, none, .mv (.s 5)⟩,
    ⟨some 18, none, .ld false 1 (.s 6)⟩,
    ⟨some 19, none, .build [.t (.int .i64 0), .t (.int .i64 0), .nils] [(0, 1, (.s 18)), (1, 1, (.c (.t (.int .i64 1))))]⟩,
    ⟨some 20, none, .bsl false 3 [[.int .i64 0, .int .i64 0, .lst []]] [(0, (.s 19))]⟩,
    ⟨some 21, none, .app 3 40 (.s 17) (.s 20)⟩,
    ⟨some 5, none, .mv (.s 21)⟩] [] [2, 3, 5, 9, 10])
def c22_3 : ACode :=
  (.cond (.s 16) c22_2 .skip)
def c22_4 : ACode :=
  (.seq (.region false [⟨some 13, none, .fa 3 (.s 2)⟩,
    ⟨some 14, none, .ld false 1 (.s 13)⟩,
    ⟨some 15, none, .mkfn 33 [(.s 3), (.s 6)]⟩,
    ⟨some 16, none, .call 32 [(.s 14), (.s 15)]⟩] [] [2, 3, 5, 6, 9, 10, 16]) c22_3)
def c22_5 : ACode :=
  (.seq (.region false [⟨some 12, none, .mv (.s 10)⟩,
    ⟨some 6, none, .alloc [.t (.int .i64 0)]⟩,
    ⟨none, none, .st 1 (.s 6) (.s 12)⟩] [] [2, 3, 5, 6, 9, 10]) c22_4)
def c22_6 : ACode :=
  (.seq (.block 1 c22_5) c22_1)
def c22_7 : ACode :=
  (.seq (.cond (.s 11) .skip (.exit 0)) c22_6)
def c22_8 : ACode :=
  (.seq (.region false [⟨some 11, none, .bin .lss (.s 10) (.s 9)⟩] [] [2, 3, 5, 9, 10, 11]) c22_7)
def c22_9 : ACode :=
  (.loop c22_8)
def c22_10 : ACode :=
  (.block 0 c22_9)
def c22_11 : ACode :=
  (.seq (.seq (.region false [⟨some 7, none, .fa 0 (.s 2)⟩,
    ⟨some 8, none, .ld false 1 (.s 7)⟩,
    ⟨some 9, none, .len (.s 8)⟩,
    ⟨some 10, none, .cst (.t (.int .i64 0))⟩] [] [2, 3, 5, 9, 10]) c22_10) c22_0)
def c22_12 : ACode :=
  (.seq (.region false [⟨some 5, none, .cst (.nils)⟩] [] [2, 3, 5]) c22_11)
def c22 : ACode :=
  (.seq (.region false [⟨some 2, none, .box 4 (.s 0)⟩,
    ⟨some 3, none, .box 1 (.s 1)⟩,
    ⟨some 4, none, .cst (.nils)⟩] [] [2, 3]) c22_12)
def r22 : List ARes := [.tmp 4]
def n22 : Nat := 24
/- 23 supergraph supergraphref26.Roots -/
def c23_0 : ACode :=
  (.seq (.region false [⟨some 49, none, .mv (.s 6)⟩,
    ⟨some 4, none, .mv (.s 49)⟩] [] [4]) .ret)
def c23_1 : ACode :=
  (.region false [⟨some 19, none, .mv (.s 7)⟩,
    ⟨some 20, none, .bin .add (.s 19) (.c (.t (.int .i64 1)))⟩,
    ⟨some 7, none, .mv (.s 20)⟩] [] [5, 6, 7])
def c23_2 : ACode :=
  (.region false [⟨some 44, none, .mv (.s 6)⟩,
    ⟨some 45, none, .mv (.s 7)⟩,
    ⟨some 46, none, .build [.t (.int .i64 0), .t (.int .i64 0), .nils] [(0, 1, (.s 45)), (1, 1, (.c (.t (.int .i64 1))))]⟩,
    ⟨some 47, none, .bsl false 3 [[.int .i64 0, .int .i64 0, .lst []]] [(0, (.s 46))]⟩,
    ⟨some 48, none, .app 3 40 (.s 44) (.s 47)⟩,
    ⟨some 6, none, .mv (.s 48)⟩] [] [5, 6, 7])
def c23_3 : ACode :=
  (.cond (.s 43) c23_2 .skip)
def c23_4 : ACode :=
  (.seq (.region false [⟨some 43, none, .mv (.s 8)⟩] [] [5, 6, 7, 43]) c23_3)
def c23_5 : ACode :=
  (.region false [⟨some 28, none, .mv (.s 9)⟩,
    ⟨some 29, none, .bin .add (.s 28) (.c (.t (.int .i64 1)))⟩,
    ⟨some 9, none, .mv (.s 29)⟩] [] [5, 6, 7, 8, 9])
def c23_6 : ACode :=
  (.region false [⟨some 30, none, .mv (.s 8)⟩,
    ⟨some 31, none, .mv (.s 30)⟩,
    ⟨some 32, some (31, false), .mv (.s 5)⟩,
    ⟨some 33, some (31, false), .nilck (.s 32)⟩,
    ⟨some 34, some (31, false), .fa 1 (.s 33)⟩,
    ⟨some 35, some (31, false), .ld false 1 (.s 34)⟩,
    ⟨some 36, some (31, false), .mv (.s 9)⟩,
    ⟨some 37, some (31, false), .ia 6 (.s 35) (.s 36)⟩,
    ⟨some 38, some (31, false), .fa 2 (.s 37)⟩,
    ⟨some 39, some (31, false), .ld false 1 (.s 38)⟩,
    ⟨some 40, some (31, false), .mv (.s 7)⟩,
    ⟨some 41, some (31, false), .bin .eql (.s 39) (.s 40)⟩,
    ⟨some 42, none, .pick (.s 31) (.c (.t (.bool true))) (.s 41)⟩,
    ⟨some 8, none, .mv (.s 42)⟩] [] [5, 6, 7, 8, 9])
def c23_7 : ACode :=
  (.seq (.block 3 c23_6) c23_5)
def c23_8 : ACode :=
  (.cond (.s 27) .skip (.exit 2))
def c23_9 : ACode :=
  (.seq (.seq (.region false [⟨some 21, none, .mv (.s 9)⟩,
    ⟨some 22, none, .mv (.s 5)⟩,
    ⟨some 23, none, .nilck (.s 22)⟩,
    ⟨some 24, none, .fa 1 (.s 23)⟩,
    ⟨some 25, none, .ld false 1 (.s 24)⟩,
    ⟨some 26, none, .len (.s 25)⟩,
    ⟨some 27, none, .bin .lss (.s 21) (.s 26)⟩] [] [5, 6, 7, 8, 9, 27]) c23_8) c23_7)
def c23_10 : ACode :=
  (.loop c23_9)
def c23_11 : ACode :=
  (.block 2 c23_10)
def c23_12 : ACode :=
  (.seq (.seq (.region false [⟨some 9, none, .cst (.t (.int .i64 0))⟩] [] [5, 6, 7, 8, 9]) c23_11) c23_4)
def c23_13 : ACode :=
  (.seq (.region false [⟨some 8, none, .cst (.t (.bool false))⟩] [] [5, 6, 7, 8]) c23_12)
def c23_14 : ACode :=
  (.seq (.block 1 c23_13) c23_1)
def c23_15 : ACode :=
  (.cond (.s 18) .skip (.exit 0))
def c23_16 : ACode :=
  (.seq (.seq (.region false [⟨some 13, none, .mv (.s 7)⟩,
    ⟨some 14, none, .mv (.s 5)⟩,
    ⟨some 15, none, .nilck (.s 14)⟩,
    ⟨some 16, none, .fa 0 (.s 15)⟩,
    ⟨some 17, none, .ld false 1 (.s 16)⟩,
    ⟨some 18, none, .bin .lss (.s 13) (.s 17)⟩] [] [5, 6, 7, 18]) c23_15) c23_14)
def c23_17 : ACode :=
  (.loop c23_16)
def c23_18 : ACode :=
  (.block 0 c23_17)
def c23_19 : ACode :=
  (.seq (.seq (.region false [⟨some 7, none, .cst (.t (.int .i64 0))⟩] [] [5, 6, 7]) c23_18) c23_0)
def c23_20 : ACode :=
  (.seq (.region false [⟨some 6, none, .cst (.nils)⟩] [] [5, 6]) c23_19)
def c23_21 : ACode :=
  (.seq (.region false [⟨some 10, none, .ld true 4 (.s 2)⟩,
    ⟨some 11, none, .mv (.s 1)⟩,
    ⟨some 12, none, .call 34 [(.s 10), (.s 11), (.c (.nils))]⟩,
    ⟨some 5, none, .mv (.s 12)⟩] [] [5]) c23_20)
def c23 : ACode :=
  (.seq (.region false [⟨some 2, none, .box 4 (.s 0)⟩,
    ⟨some 4, none, .cst (.nils)⟩] [] [1, 2]) c23_21)
def r23 : List ARes := [.tmp 4]
def n23 : Nat := 50
/- 24 supergraph supergraphlaw26.example -/
def c24_0 : ACode :=
  (.seq (.region false [⟨some 3, none, .bsl true 1 [[.str []], [.str []]] [(0, (.c (.t (.str [97])))), (1, (.c (.t (.str [98]))))]⟩,
    ⟨some 4, none, .mv (.s 1)⟩,
    ⟨some 5, none, .build [.t (.str []), .t (.int .i64 0), .nils] [(0, 1, (.c (.t (.str [85, 115, 101, 114])))), (1, 1, (.c (.t (.int .i64 0)))), (2, 1, (.s 4))]⟩,
    ⟨some 6, none, .mv (.s 1)⟩,
    ⟨some 7, none, .build [.t (.str []), .t (.int .i64 0), .nils] [(0, 1, (.c (.t (.str [85, 115, 101, 114])))), (1, 1, (.c (.t (.int .i64 1)))), (2, 1, (.s 6))]⟩,
    ⟨some 8, none, .bsl true 3 [[.str [], .int .i64 0, .lst []], [.str [], .int .i64 0, .lst []]] [(0, (.s 5)), (1, (.s 7))]⟩,
    ⟨some 9, none, .build [.t (.str []), .t (.str []), .t (.int .i64 0), .t (.bool false), .nils, .nils] [(0, 1, (.c (.t (.str [81, 117, 101, 114, 121])))), (1, 1, (.c (.t (.str [109, 101]))))]⟩,
    ⟨some 10, none, .build [.t (.str []), .t (.str []), .t (.int .i64 0), .t (.bool false), .nils, .nils] [(0, 1, (.c (.t (.str [85, 115, 101, 114])))), (1, 1, (.c (.t (.str [105, 100]))))]⟩,
    ⟨some 11, none, .build [.t (.str []), .t (.str []), .t (.int .i64 0), .t (.bool false), .nils, .nils] [(0, 1, (.c (.t (.str [85, 115, 101, 114])))), (1, 1, (.c (.t (.str [110, 97, 109, 101]))))]⟩,
    ⟨some 12, none, .build [.t (.str []), .t (.str []), .t (.int .i64 0), .t (.bool false), .nils, .nils] [(0, 1, (.c (.t (.str [85, 115, 101, 114])))), (1, 1, (.c (.t (.str [105, 100])))), (2, 1, (.c (.t (.int .i64 1))))]⟩,
    ⟨some 13, none, .build [.t (.str []), .t (.str []), .t (.int .i64 0), .t (.bool false), .nils, .nils] [(0, 1, (.c (.t (.str [85, 115, 101, 114])))), (1, 1, (.c (.t (.str [112, 111, 115, 116, 115])))), (2, 1, (.c (.t (.int .i64 1))))]⟩,
    ⟨some 14, none, .bsl true 6 [[.str [], .str [], .int .i64 0, .bool false, .lst [], .lst []], [.str [], .str [], .int .i64 0, .bool false, .lst [], .lst []], [.str [], .str [], .int .i64 0, .bool false, .lst [], .lst []], [.str [], .str [], .int .i64 0, .bool false, .lst [], .lst []], [.str [], .str [], .int .i64 0, .bool false, .lst [], .lst []]] [(0, (.s 9)), (1, (.s 10)), (2, (.s 11)), (3, (.s 12)), (4, (.s 13))]⟩,
    ⟨some 15, none, .build [.nils, .nils, .nils, .nils] [(0, 1, (.s 3)), (2, 1, (.s 8)), (3, 1, (.s 14))]⟩,
    ⟨none, none, .st 4 (.s 0) (.s 15)⟩] [] [0]) .ret)
def c24_1 : ACode :=
  (.seq (.region false [⟨some 2, none, .bsl true 1 [[.str []]] [(0, (.c (.t (.str [105, 100]))))]⟩,
    ⟨some 1, none, .mv (.s 2)⟩] [] [0, 1]) c24_0)
def c24 : ACode :=
  (.seq (.region false [⟨some 0, none, .alloc [.nils, .nils, .nils, .nils]⟩] [] [0]) c24_1)
def r24 : List ARes := [.cell 0 true 4]
def n24 : Nat := 16
/- 25 supergraph reach.solve -/
def c25_0 : ACode :=
  (.seq (.region false [⟨some 164, none, .mv (.s 7)⟩,
    ⟨some 6, none, .mv (.s 164)⟩] [] [6]) .ret)
def c25_1 : ACode :=
  (.block 7 .skip)
def c25_2 : ACode :=
  (.cond (.s 163) .skip (.exit 6))
def c25_3 : ACode :=
  (.seq (.seq (.region false [⟨some 162, none, .mv (.s 7)⟩,
    ⟨some 163, none, .call 36 [(.s 162)]⟩] [] [7, 163]) c25_2) c25_1)
def c25_4 : ACode :=
  (.loop c25_3)
def c25_5 : ACode :=
  (.seq (.block 6 c25_4) c25_0)
def c25_6 : ACode :=
  (.region false [⟨some 161, none, .bin .add (.s 130) (.c (.t (.int .i64 1)))⟩,
    ⟨some 130, none, .mv (.s 161)⟩] [] [1, 3, 7, 128, 129, 130])
def c25_7 : ACode :=
  (.region true [⟨some 151, none, .mv (.s 7)⟩,
    ⟨some 152, none, .mv (.s 7)⟩,
    ⟨some 153, none, .nilck (.s 152)⟩,
    ⟨some 154, none, .fa 6 (.s 153)⟩,
    ⟨some 155, none, .ld false 1 (.s 154)⟩,
    ⟨some 156, none, .ld true 3 (.s 15)⟩,
    ⟨some 157, none, .bsl false 3 [[.str [], .int .i64 0, .lst []]] [(0, (.s 156))]⟩,
    ⟨some 158, none, .app 3 48 (.s 155) (.s 157)⟩,
    ⟨some 159, none, .nilck (.s 151)⟩,
    ⟨some 160, none, .fa 6 (.s 159)⟩,
    ⟨none, none, .st 1 (.s 160) (.s 158)⟩] [[], [], [1], [2], [3], [], [5], [4, 6], [0, 0, 1, 2, 3, 4, 5, 6, 7], [8, 0, 1, 2, 3, 4, 5, 6, 7], [9, 7, 7, 0, 1, 2, 3, 4, 5, 6, 7]] [1, 3, 7, 128, 129, 130])
def c25_8 : ACode :=
  (.cond (.s 150) c25_7 .skip)
def c25_9 : ACode :=
  (.seq (.region false [⟨some 134, none, .fa 0 (.s 15)⟩,
    ⟨some 135, none, .ld false 1 (.s 134)⟩,
    ⟨some 136, none, .mv (.s 1)⟩,
    ⟨some 137, none, .bin .eql (.s 135) (.s 136)⟩,
    ⟨some 138, none, .mv (.s 137)⟩,
    ⟨some 139, some (138, true), .fa 1 (.s 15)⟩,
    ⟨some 140, some (138, true), .ld false 1 (.s 139)⟩,
    ⟨some 141, some (138, true), .bin .geq (.s 140) (.c (.t (.int .i64 0)))⟩,
    ⟨some 142, none, .pick (.s 138) (.s 141) (.c (.t (.bool false)))⟩,
    ⟨some 143, none, .mv (.s 142)⟩,
    ⟨some 144, some (143, true), .fa 1 (.s 15)⟩,
    ⟨some 145, some (143, true), .ld false 1 (.s 144)⟩,
    ⟨some 146, some (143, true), .fa 0 (.s 3)⟩,
    ⟨some 147, some (143, true), .ld false 1 (.s 146)⟩,
    ⟨some 148, some (143, true), .len (.s 147)⟩,
    ⟨some 149, some (143, true), .bin .lss (.s 145) (.s 148)⟩,
    ⟨some 150, none, .pick (.s 143) (.s 149) (.c (.t (.bool false)))⟩] [] [1, 3, 7, 15, 128, 129, 130, 150]) c25_8)
def c25_10 : ACode :=
  (.seq (.region false [⟨some 132, none, .ia 3 (.s 128) (.s 130)⟩,
    ⟨some 133, none, .ld true 3 (.s 132)⟩,
    ⟨some 15, none, .alloc [.t (.str []), .t (.int .i64 0), .nils]⟩,
    ⟨none, none, .st 3 (.s 15) (.s 133)⟩] [] [1, 3, 7, 15, 128, 129, 130]) c25_9)
def c25_11 : ACode :=
  (.seq (.block 5 c25_10) c25_6)
def c25_12 : ACode :=
  (.seq (.cond (.s 131) .skip (.exit 4)) c25_11)
def c25_13 : ACode :=
  (.seq (.region false [⟨some 131, none, .bin .lss (.s 130) (.s 129)⟩] [] [1, 3, 7, 128, 129, 130, 131]) c25_12)
def c25_14 : ACode :=
  (.loop c25_13)
def c25_15 : ACode :=
  (.block 4 c25_14)
def c25_16 : ACode :=
  (.seq (.seq (.region false [⟨some 127, none, .fa 2 (.s 3)⟩,
    ⟨some 128, none, .ld false 1 (.s 127)⟩,
    ⟨some 129, none, .len (.s 128)⟩,
    ⟨some 130, none, .cst (.t (.int .i64 0))⟩] [] [1, 3, 7, 128, 129, 130]) c25_15) c25_5)
def c25_17 : ACode :=
  (.region false [⟨some 126, none, .bin .add (.s 82) (.c (.t (.int .i64 1)))⟩,
    ⟨some 82, none, .mv (.s 126)⟩] [] [1, 3, 7, 10, 80, 81, 82])
def c25_18 : ACode :=
  (.region true [⟨some 116, none, .mv (.s 7)⟩,
    ⟨some 117, none, .mv (.s 7)⟩,
    ⟨some 118, none, .nilck (.s 117)⟩,
    ⟨some 119, none, .fa 5 (.s 118)⟩,
    ⟨some 120, none, .ld false 1 (.s 119)⟩,
    ⟨some 121, none, .ld true 6 (.s 12)⟩,
    ⟨some 122, none, .bsl false 6 [[.str [], .str [], .int .i64 0, .bool false, .lst [], .lst []]] [(0, (.s 121))]⟩,
    ⟨some 123, none, .app 6 96 (.s 120) (.s 122)⟩,
    ⟨some 124, none, .nilck (.s 116)⟩,
    ⟨some 125, none, .fa 5 (.s 124)⟩,
    ⟨none, none, .st 1 (.s 125) (.s 123)⟩] [[], [], [1], [2], [3], [], [5], [4, 6], [0, 0, 1, 2, 3, 4, 5, 6, 7], [8, 0, 1, 2, 3, 4, 5, 6, 7], [9, 7, 7, 0, 1, 2, 3, 4, 5, 6, 7]] [1, 3, 7, 10, 80, 81, 82])
def c25_19 : ACode :=
  (.seq (.region false [⟨some 114, none, .mv (.s 10)⟩,
    ⟨some 115, none, .ld true 3 (.s 13)⟩,
    ⟨none, none, .nw (.mupd [.str, .int .i64, .int .i64] true (.s 114) (.s 115) (.c (.t (.bool true))))⟩] [] [1, 3, 7, 10, 12, 80, 81, 82]) c25_18)
def c25_20 : ACode :=
  (.cond (.s 113) c25_19 .skip)
def c25_21 : ACode :=
  (.seq (.region false [⟨some 91, none, .fa 0 (.s 12)⟩,
    ⟨some 92, none, .ld false 1 (.s 91)⟩,
    ⟨some 93, none, .mv (.s 1)⟩,
    ⟨some 94, none, .bin .eql (.s 92) (.s 93)⟩,
    ⟨some 95, none, .mv (.s 94)⟩,
    ⟨some 96, some (95, true), .fa 2 (.s 12)⟩,
    ⟨some 97, some (95, true), .ld false 1 (.s 96)⟩,
    ⟨some 98, some (95, true), .bin .geq (.s 97) (.c (.t (.int .i64 0)))⟩,
    ⟨some 99, none, .pick (.s 95) (.s 98) (.c (.t (.bool false)))⟩,
    ⟨some 100, none, .mv (.s 99)⟩,
    ⟨some 101, some (100, true), .fa 2 (.s 12)⟩,
    ⟨some 102, some (100, true), .ld false 1 (.s 101)⟩,
    ⟨some 103, some (100, true), .fa 0 (.s 3)⟩,
    ⟨some 104, some (100, true), .ld false 1 (.s 103)⟩,
    ⟨some 105, some (100, true), .len (.s 104)⟩,
    ⟨some 106, some (100, true), .bin .lss (.s 102) (.s 105)⟩,
    ⟨some 107, none, .pick (.s 100) (.s 106) (.c (.t (.bool false)))⟩,
    ⟨some 108, none, .mv (.s 107)⟩,
    ⟨some 109, some (108, true), .mv (.s 10)⟩,
    ⟨some 110, some (108, true), .ld true 3 (.s 13)⟩,
    ⟨some 111, some (108, true), .nw (.lookup [.str, .int .i64, .int .i64] true (.t (.bool false)) false (.s 109) (.s 110))⟩,
    ⟨some 112, some (108, true), .un .not (.s 111)⟩,
    ⟨some 113, none, .pick (.s 108) (.s 112) (.c (.t (.bool false)))⟩] [] [1, 3, 7, 10, 12, 13, 80, 81, 82, 113]) c25_20)
def c25_22 : ACode :=
  (.seq (.region false [⟨some 86, none, .fa 1 (.s 12)⟩,
    ⟨some 87, none, .ld false 1 (.s 86)⟩,
    ⟨some 88, none, .fa 2 (.s 12)⟩,
    ⟨some 89, none, .ld false 1 (.s 88)⟩,
    ⟨some 90, none, .build [.t (.str []), .t (.int .i64 0), .t (.int .i64 0)] [(0, 1, (.s 87)), (1, 1, (.s 89))]⟩,
    ⟨some 13, none, .alloc [.t (.str []), .t (.int .i64 0), .t (.int .i64 0)]⟩,
    ⟨none, none, .st 3 (.s 13) (.s 90)⟩] [] [1, 3, 7, 10, 12, 13, 80, 81, 82]) c25_21)
def c25_23 : ACode :=
  (.seq (.region false [⟨some 84, none, .ia 6 (.s 80) (.s 82)⟩,
    ⟨some 85, none, .ld true 6 (.s 84)⟩,
    ⟨some 12, none, .alloc [.t (.str []), .t (.str []), .t (.int .i64 0), .t (.bool false), .nils, .nils]⟩,
    ⟨none, none, .st 6 (.s 12) (.s 85)⟩] [] [1, 3, 7, 10, 12, 80, 81, 82]) c25_22)
def c25_24 : ACode :=
  (.seq (.block 3 c25_23) c25_17)
def c25_25 : ACode :=
  (.seq (.cond (.s 83) .skip (.exit 2)) c25_24)
def c25_26 : ACode :=
  (.seq (.region false [⟨some 83, none, .bin .lss (.s 82) (.s 81)⟩] [] [1, 3, 7, 10, 80, 81, 82, 83]) c25_25)
def c25_27 : ACode :=
  (.loop c25_26)
def c25_28 : ACode :=
  (.block 2 c25_27)
def c25_29 : ACode :=
  (.seq (.seq (.region false [⟨some 79, none, .fa 3 (.s 3)⟩,
    ⟨some 80, none, .ld false 1 (.s 79)⟩,
    ⟨some 81, none, .len (.s 80)⟩,
    ⟨some 82, none, .cst (.t (.int .i64 0))⟩] [] [1, 3, 7, 10, 80, 81, 82]) c25_28) c25_16)
def c25_30 : ACode :=
  (.seq (.region false [⟨some 78, none, .mkmap true false⟩,
    ⟨some 10, none, .mv (.s 78)⟩] [] [1, 3, 7, 10]) c25_29)
def c25_31 : ACode :=
  (.region false [⟨some 77, none, .bin .add (.s 28) (.c (.t (.int .i64 1)))⟩,
    ⟨some 28, none, .mv (.s 77)⟩] [] [1, 3, 7, 26, 27, 28])
def c25_32 : ACode :=
  (.region true [⟨some 63, none, .mv (.s 7)⟩,
    ⟨some 64, none, .fa 0 (.s 9)⟩,
    ⟨some 65, none, .ld false 1 (.s 64)⟩,
    ⟨some 66, none, .call 26 [(.s 63), (.s 65)]⟩,
    ⟨some 67, none, .mv (.s 7)⟩,
    ⟨some 68, none, .fa 0 (.s 9)⟩,
    ⟨some 69, none, .ld false 1 (.s 68)⟩,
    ⟨some 70, none, .call 26 [(.s 67), (.s 69)]⟩,
    ⟨some 71, none, .nilck (.s 70)⟩,
    ⟨some 72, none, .ld false 1 (.s 71)⟩,
    ⟨some 73, none, .fa 1 (.s 9)⟩,
    ⟨some 74, none, .ld false 1 (.s 73)⟩,
    ⟨some 75, none, .call 35 [(.s 72), (.s 74)]⟩,
    ⟨some 76, none, .nilck (.s 66)⟩,
    ⟨none, none, .st 1 (.s 76) (.s 75)⟩] [[], [], [1], [0, 2], [], [], [5], [4, 6, 3], [7], [8], [], [10], [9, 11, 7], [3, 0, 1, 2, 3, 4, 5, 6, 7, 8, 9, 10, 11, 12], [13, 12, 12, 0, 1, 2, 3, 4, 5, 6, 7, 8, 9, 10, 11, 12]] [1, 3, 7, 26, 27, 28])
def c25_33 : ACode :=
  (.seq (.region true [⟨some 53, none, .mv (.s 7)⟩,
    ⟨some 54, none, .mv (.s 7)⟩,
    ⟨some 55, none, .nilck (.s 54)⟩,
    ⟨some 56, none, .fa 4 (.s 55)⟩,
    ⟨some 57, none, .ld false 1 (.s 56)⟩,
    ⟨some 58, none, .ld true 3 (.s 9)⟩,
    ⟨some 59, none, .bsl false 3 [[.int .i64 0, .int .i64 0, .lst []]] [(0, (.s 58))]⟩,
    ⟨some 60, none, .app 3 40 (.s 57) (.s 59)⟩,
    ⟨some 61, none, .nilck (.s 53)⟩,
    ⟨some 62, none, .fa 4 (.s 61)⟩,
    ⟨none, none, .st 1 (.s 62) (.s 60)⟩] [[], [], [1], [2], [3], [], [5], [4, 6], [0, 0, 1, 2, 3, 4, 5, 6, 7], [8, 0, 1, 2, 3, 4, 5, 6, 7], [9, 7, 7, 0, 1, 2, 3, 4, 5, 6, 7]] [1, 3, 7, 9, 26, 27, 28]) c25_32)
def c25_34 : ACode :=
  (.cond (.s 52) c25_33 .skip)
def c25_35 : ACode :=
  (.seq (.region false [⟨some 32, none, .fa 0 (.s 9)⟩,
    ⟨some 33, none, .ld false 1 (.s 32)⟩,
    ⟨some 34, none, .bin .geq (.s 33) (.c (.t (.int .i64 0)))⟩,
    ⟨some 35, none, .mv (.s 34)⟩,
    ⟨some 36, some (35, true), .fa 0 (.s 9)⟩,
    ⟨some 37, some (35, true), .ld false 1 (.s 36)⟩,
    ⟨some 38, some (35, true), .fa 0 (.s 3)⟩,
    ⟨some 39, some (35, true), .ld false 1 (.s 38)⟩,
    ⟨some 40, some (35, true), .len (.s 39)⟩,
    ⟨some 41, some (35, true), .bin .lss (.s 37) (.s 40)⟩,
    ⟨some 42, none, .pick (.s 35) (.s 41) (.c (.t (.bool false)))⟩,
    ⟨some 43, none, .mv (.s 42)⟩,
    ⟨some 44, some (43, true), .fa 1 (.s 9)⟩,
    ⟨some 45, some (43, true), .ld false 1 (.s 44)⟩,
    ⟨some 46, some (43, true), .bin .geq (.s 45) (.c (.t (.int .i64 1)))⟩,
    ⟨some 47, none, .pick (.s 43) (.s 46) (.c (.t (.bool false)))⟩,
    ⟨some 48, none, .mv (.s 47)⟩,
    ⟨some 49, some (48, true), .fa 1 (.s 9)⟩,
    ⟨some 50, some (48, true), .ld false 1 (.s 49)⟩,
    ⟨some 51, some (48, true), .bin .leq (.s 50) (.c (.t (.int .i64 1099511627776)))⟩,
    ⟨some 52, none, .pick (.s 48) (.s 51) (.c (.t (.bool false)))⟩] [] [1, 3, 7, 9, 26, 27, 28, 52]) c25_34)
def c25_36 : ACode :=
  (.seq (.region false [⟨some 30, none, .ia 3 (.s 26) (.s 28)⟩,
    ⟨some 31, none, .ld true 3 (.s 30)⟩,
    ⟨some 9, none, .alloc [.t (.int .i64 0), .t (.int .i64 0), .nils]⟩,
    ⟨none, none, .st 3 (.s 9) (.s 31)⟩] [] [1, 3, 7, 9, 26, 27, 28]) c25_35)
def c25_37 : ACode :=
  (.seq (.block 1 c25_36) c25_31)
def c25_38 : ACode :=
  (.seq (.cond (.s 29) .skip (.exit 0)) c25_37)
def c25_39 : ACode :=
  (.seq (.region false [⟨some 29, none, .bin .lss (.s 28) (.s 27)⟩] [] [1, 3, 7, 26, 27, 28, 29]) c25_38)
def c25_40 : ACode :=
  (.loop c25_39)
def c25_41 : ACode :=
  (.block 0 c25_40)
def c25_42 : ACode :=
  (.seq (.seq (.region false [⟨some 26, none, .mv (.s 2)⟩,
    ⟨some 27, none, .len (.s 26)⟩,
    ⟨some 28, none, .cst (.t (.int .i64 0))⟩] [] [1, 3, 7, 26, 27, 28]) c25_41) c25_30)
def c25_43 : ACode :=
  (.seq (.region true [⟨some 16, none, .ld true 4 (.s 3)⟩,
    ⟨some 17, none, .mkmap false false⟩,
    ⟨some 18, none, .fa 0 (.s 3)⟩,
    ⟨some 19, none, .ld false 1 (.s 18)⟩,
    ⟨some 20, none, .len (.s 19)⟩,
    ⟨some 21, none, .bin .quo (.s 20) (.c (.t (.int .i64 8)))⟩,
    ⟨some 22, none, .bin .add (.s 21) (.c (.t (.int .i64 1)))⟩,
    ⟨some 23, none, .mksl 8 64 [.t (.int .i64 0), .t (.int .i64 0), .t (.int .i64 0), .t (.int .i64 0), .t (.int .i64 0), .t (.int .i64 0), .t (.int .i64 0), .t (.int .i64 0)] (.s 22)⟩,
    ⟨some 24, none, .build [.nils, .nils, .nils, .nils, .nils, .nils, .nils, .nils, .t (.nilm)] [(0, 4, (.s 16)), (8, 1, (.s 17)), (7, 1, (.s 23))]⟩,
    ⟨some 25, none, .box 9 (.s 24)⟩,
    ⟨some 7, none, .mv (.s 25)⟩] [[], [], [], [2], [3], [4], [5], [6, 6], [0, 1, 7], [8], [9, 0, 1, 2, 3, 4, 5, 6, 7, 8, 9]] [1, 2, 3, 7]) c25_42)
def c25 : ACode :=
  (.seq (.region false [⟨some 3, none, .box 4 (.s 0)⟩,
    ⟨some 6, none, .cst (.t (.nilp))⟩] [] [1, 2, 3]) c25_43)
def r25 : List ARes := [.tmp 6]
def n25 : Nat := 165
/- 26 (*supergraph reach.numbers).at -/
def c26_0 : ACode :=
  (.seq (.region false [⟨some 5, none, .mv (.s 0)⟩,
    ⟨some 6, none, .nilck (.s 5)⟩,
    ⟨some 7, none, .fa 7 (.s 6)⟩,
    ⟨some 8, none, .ld false 1 (.s 7)⟩,
    ⟨some 9, none, .mv (.s 1)⟩,
    ⟨some 10, none, .bin .quo (.s 9) (.c (.t (.int .i64 8)))⟩,
    ⟨some 11, none, .mv (.s 1)⟩,
    ⟨some 12, none, .bin .rem (.s 11) (.c (.t (.int .i64 8)))⟩,
    ⟨some 13, none, .ia 8 (.s 8) (.s 10)⟩,
    ⟨some 14, none, .iarr 8 1 (.s 13) (.s 12)⟩,
    ⟨some 4, none, .mv (.s 14)⟩] [] [4]) .ret)
def c26 : ACode :=
  (.seq (.region false [⟨some 4, none, .cst (.t (.nilp))⟩] [] [0, 1]) c26_0)
def r26 : List ARes := [.tmp 4]
def n26 : Nat := 15
/- 27 supergraph supergraphref26.fill -/
def c27_0 : ACode :=
  (.seq (.region false [⟨some 79, none, .mv (.s 7)⟩,
    ⟨some 6, none, .mv (.s 79)⟩] [] [6]) .ret)
def c27_1 : ACode :=
  (.region false [⟨some 58, none, .mv (.s 11)⟩,
    ⟨some 59, none, .bin .add (.s 58) (.c (.t (.int .i64 1)))⟩,
    ⟨some 11, none, .mv (.s 59)⟩] [] [7, 8, 11])
def c27_2 : ACode :=
  (.region false [⟨some 8, none, .cst (.t (.bool true))⟩] [] [7, 8, 11])
def c27_3 : ACode :=
  (.seq (.region false [⟨some 72, none, .mv (.s 7)⟩,
    ⟨some 73, none, .nilck (.s 72)⟩,
    ⟨some 74, none, .fa 5 (.s 73)⟩,
    ⟨some 75, none, .ld false 1 (.s 74)⟩,
    ⟨some 76, none, .mv (.s 11)⟩,
    ⟨some 77, none, .mv (.s 12)⟩,
    ⟨some 78, none, .ia 1 (.s 75) (.s 76)⟩,
    ⟨none, none, .st 1 (.s 78) (.s 77)⟩] [] [7, 11]) c27_2)
def c27_4 : ACode :=
  (.cond (.s 71) c27_3 .skip)
def c27_5 : ACode :=
  (.seq (.region false [⟨some 63, none, .mv (.s 12)⟩,
    ⟨some 64, none, .mv (.s 7)⟩,
    ⟨some 65, none, .nilck (.s 64)⟩,
    ⟨some 66, none, .fa 5 (.s 65)⟩,
    ⟨some 67, none, .ld false 1 (.s 66)⟩,
    ⟨some 68, none, .mv (.s 11)⟩,
    ⟨some 69, none, .ia 1 (.s 67) (.s 68)⟩,
    ⟨some 70, none, .ld false 1 (.s 69)⟩,
    ⟨some 71, none, .bin .neq (.s 63) (.s 70)⟩] [] [7, 8, 11, 12, 71]) c27_4)
def c27_6 : ACode :=
  (.seq (.region false [⟨some 60, none, .mv (.s 7)⟩,
    ⟨some 61, none, .mv (.s 11)⟩,
    ⟨some 62, none, .call 38 [(.s 60), (.s 61)]⟩,
    ⟨some 12, none, .mv (.s 62)⟩] [] [7, 8, 11, 12]) c27_5)
def c27_7 : ACode :=
  (.seq (.block 5 c27_6) c27_1)
def c27_8 : ACode :=
  (.cond (.s 57) .skip (.exit 4))
def c27_9 : ACode :=
  (.seq (.seq (.region false [⟨some 52, none, .mv (.s 11)⟩,
    ⟨some 53, none, .mv (.s 7)⟩,
    ⟨some 54, none, .nilck (.s 53)⟩,
    ⟨some 55, none, .fa 0 (.s 54)⟩,
    ⟨some 56, none, .ld false 1 (.s 55)⟩,
    ⟨some 57, none, .bin .lss (.s 52) (.s 56)⟩] [] [7, 8, 11, 57]) c27_8) c27_7)
def c27_10 : ACode :=
  (.loop c27_9)
def c27_11 : ACode :=
  (.block 4 c27_10)
def c27_12 : ACode :=
  (.seq (.region false [⟨some 11, none, .cst (.t (.int .i64 0))⟩] [] [7, 8, 11]) c27_11)
def c27_13 : ACode :=
  (.region false [⟨some 25, none, .mv (.s 9)⟩,
    ⟨some 26, none, .bin .add (.s 25) (.c (.t (.int .i64 1)))⟩,
    ⟨some 9, none, .mv (.s 26)⟩] [] [7, 8, 9])
def c27_14 : ACode :=
  (.region false [⟨some 8, none, .cst (.t (.bool true))⟩] [] [7, 8, 9])
def c27_15 : ACode :=
  (.seq (.region false [⟨some 45, none, .mv (.s 7)⟩,
    ⟨some 46, none, .nilck (.s 45)⟩,
    ⟨some 47, none, .fa 4 (.s 46)⟩,
    ⟨some 48, none, .ld false 1 (.s 47)⟩,
    ⟨some 49, none, .mv (.s 9)⟩,
    ⟨some 50, none, .mv (.s 10)⟩,
    ⟨some 51, none, .ia 1 (.s 48) (.s 49)⟩,
    ⟨none, none, .st 1 (.s 51) (.s 50)⟩] [] [7, 9]) c27_14)
def c27_16 : ACode :=
  (.cond (.s 44) c27_15 .skip)
def c27_17 : ACode :=
  (.seq (.region false [⟨some 36, none, .mv (.s 10)⟩,
    ⟨some 37, none, .mv (.s 7)⟩,
    ⟨some 38, none, .nilck (.s 37)⟩,
    ⟨some 39, none, .fa 4 (.s 38)⟩,
    ⟨some 40, none, .ld false 1 (.s 39)⟩,
    ⟨some 41, none, .mv (.s 9)⟩,
    ⟨some 42, none, .ia 1 (.s 40) (.s 41)⟩,
    ⟨some 43, none, .ld false 1 (.s 42)⟩,
    ⟨some 44, none, .bin .neq (.s 36) (.s 43)⟩] [] [7, 8, 9, 10, 44]) c27_16)
def c27_18 : ACode :=
  (.seq (.region false [⟨some 27, none, .mv (.s 7)⟩,
    ⟨some 28, none, .mv (.s 7)⟩,
    ⟨some 29, none, .nilck (.s 28)⟩,
    ⟨some 30, none, .fa 1 (.s 29)⟩,
    ⟨some 31, none, .ld false 1 (.s 30)⟩,
    ⟨some 32, none, .mv (.s 9)⟩,
    ⟨some 33, none, .ia 6 (.s 31) (.s 32)⟩,
    ⟨some 34, none, .ld true 6 (.s 33)⟩,
    ⟨some 35, none, .call 37 [(.s 27), (.s 34)]⟩,
    ⟨some 10, none, .mv (.s 35)⟩] [] [7, 8, 9, 10]) c27_17)
def c27_19 : ACode :=
  (.seq (.block 3 c27_18) c27_13)
def c27_20 : ACode :=
  (.cond (.s 24) .skip (.exit 2))
def c27_21 : ACode :=
  (.seq (.seq (.region false [⟨some 18, none, .mv (.s 9)⟩,
    ⟨some 19, none, .mv (.s 7)⟩,
    ⟨some 20, none, .nilck (.s 19)⟩,
    ⟨some 21, none, .fa 1 (.s 20)⟩,
    ⟨some 22, none, .ld false 1 (.s 21)⟩,
    ⟨some 23, none, .len (.s 22)⟩,
    ⟨some 24, none, .bin .lss (.s 18) (.s 23)⟩] [] [7, 8, 9, 24]) c27_20) c27_19)
def c27_22 : ACode :=
  (.loop c27_21)
def c27_23 : ACode :=
  (.block 2 c27_22)
def c27_24 : ACode :=
  (.seq (.seq (.region false [⟨some 9, none, .cst (.t (.int .i64 0))⟩] [] [7, 8, 9]) c27_23) c27_12)
def c27_25 : ACode :=
  (.seq (.region false [⟨some 8, none, .cst (.t (.bool false))⟩] [] [7, 8]) c27_24)
def c27_26 : ACode :=
  (.block 1 c27_25)
def c27_27 : ACode :=
  (.cond (.s 17) .skip (.exit 0))
def c27_28 : ACode :=
  (.seq (.seq (.region false [⟨some 17, none, .mv (.s 8)⟩] [] [7, 17]) c27_27) c27_26)
def c27_29 : ACode :=
  (.loop c27_28)
def c27_30 : ACode :=
  (.seq (.block 0 c27_29) c27_0)
def c27_31 : ACode :=
  (.seq (.region false [⟨some 8, none, .cst (.t (.bool true))⟩] [] [7, 8]) c27_30)
def c27_32 : ACode :=
  (.seq (.region false [⟨some 13, none, .ld true 4 (.s 3)⟩,
    ⟨some 14, none, .mv (.s 1)⟩,
    ⟨some 15, none, .mv (.s 2)⟩,
    ⟨some 16, none, .call 34 [(.s 13), (.s 14), (.s 15)]⟩,
    ⟨some 7, none, .mv (.s 16)⟩] [] [7]) c27_31)
def c27 : ACode :=
  (.seq (.region false [⟨some 3, none, .box 4 (.s 0)⟩,
    ⟨some 6, none, .cst (.t (.nilp))⟩] [] [1, 2, 3]) c27_32)
def r27 : List ARes := [.tmp 6]
def n27 : Nat := 80
/- 28 (*supergraph reach.numbers).level -/
def c28_0 : ACode :=
  (.seq (.region false [⟨some 32, none, .mv (.s 5)⟩,
    ⟨some 4, none, .mv (.s 32)⟩] [] [4]) .ret)
def c28_1 : ACode :=
  (.region false [⟨some 31, none, .bin .add (.s 21) (.c (.t (.int .i64 1)))⟩,
    ⟨some 21, none, .mv (.s 31)⟩] [] [0, 5, 20, 21])
def c28_2 : ACode :=
  (.region false [⟨some 24, none, .mv (.s 5)⟩,
    ⟨some 25, none, .mv (.s 0)⟩,
    ⟨some 26, none, .mv (.s 6)⟩,
    ⟨some 27, none, .call 26 [(.s 25), (.s 26)]⟩,
    ⟨some 28, none, .nilck (.s 27)⟩,
    ⟨some 29, none, .ld false 1 (.s 28)⟩,
    ⟨some 30, none, .call 35 [(.s 24), (.s 29)]⟩,
    ⟨some 5, none, .mv (.s 30)⟩] [] [0, 5, 20, 21])
def c28_3 : ACode :=
  (.seq (.region false [⟨some 23, none, .mv (.s 21)⟩,
    ⟨some 6, none, .mv (.s 23)⟩] [] [0, 5, 6, 20, 21]) c28_2)
def c28_4 : ACode :=
  (.seq (.block 1 c28_3) c28_1)
def c28_5 : ACode :=
  (.seq (.cond (.s 22) .skip (.exit 0)) c28_4)
def c28_6 : ACode :=
  (.seq (.region false [⟨some 22, none, .bin .lss (.s 21) (.s 20)⟩] [] [0, 5, 20, 21, 22]) c28_5)
def c28_7 : ACode :=
  (.loop c28_6)
def c28_8 : ACode :=
  (.block 0 c28_7)
def c28_9 : ACode :=
  (.seq (.region false [⟨some 15, none, .mv (.s 0)⟩,
    ⟨some 16, none, .nilck (.s 15)⟩,
    ⟨some 17, none, .fa 0 (.s 16)⟩,
    ⟨some 18, none, .fa 0 (.s 17)⟩,
    ⟨some 19, none, .ld false 1 (.s 18)⟩,
    ⟨some 20, none, .len (.s 19)⟩,
    ⟨some 21, none, .cst (.t (.int .i64 0))⟩] [] [0, 5, 20, 21]) c28_8)
def c28_10 : ACode :=
  (.cond (.s 14) c28_9 .skip)
def c28_11 : ACode :=
  (.seq (.seq (.region false [⟨some 13, none, .mv (.s 1)⟩,
    ⟨some 14, none, .bin .eql (.s 13) (.c (.t (.str [95, 95, 116, 121, 112, 101, 110, 97, 109, 101])))⟩] [] [0, 5, 14]) c28_10) c28_0)
def c28_12 : ACode :=
  (.seq (.region false [⟨some 7, none, .mv (.s 0)⟩,
    ⟨some 8, none, .nilck (.s 7)⟩,
    ⟨some 9, none, .fa 8 (.s 8)⟩,
    ⟨some 10, none, .ld false 1 (.s 9)⟩,
    ⟨some 11, none, .mv (.s 1)⟩,
    ⟨some 12, none, .nw (.lookup [.str] false (.t (.int .i64 0)) false (.s 10) (.s 11))⟩,
    ⟨some 5, none, .mv (.s 12)⟩] [] [0, 1, 5]) c28_11)
def c28 : ACode :=
  (.seq (.region false [⟨some 4, none, .cst (.t (.int .i64 0))⟩] [] [0, 1]) c28_12)
def r28 : List ARes := [.tmp 4]
def n28 : Nat := 33
/- 29 (*supergraph reach.numbers).read -/
def c29_0 : ACode :=
  (.seq (.region false [⟨some 63, none, .mv (.s 8)⟩,
    ⟨some 64, none, .mv (.s 9)⟩,
    ⟨some 65, none, .maxi (.s 63) (.s 64)⟩,
    ⟨some 66, none, .bin .add (.s 65) (.c (.t (.int .i64 1)))⟩,
    ⟨some 4, none, .mv (.s 66)⟩] [] [4]) .ret)
def c29_1 : ACode :=
  (.seq (.region false [⟨some 4, none, .cst (.t (.int .i64 0))⟩] [] [4]) .ret)
def c29_2 : ACode :=
  (.cond (.s 62) c29_1 .skip)
def c29_3 : ACode :=
  (.seq (.seq (.region false [⟨some 57, none, .mv (.s 8)⟩,
    ⟨some 58, none, .bin .eql (.s 57) (.c (.t (.int .i64 0)))⟩,
    ⟨some 59, none, .mv (.s 58)⟩,
    ⟨some 60, some (59, false), .mv (.s 9)⟩,
    ⟨some 61, some (59, false), .bin .eql (.s 60) (.c (.t (.int .i64 0)))⟩,
    ⟨some 62, none, .pick (.s 59) (.c (.t (.bool true))) (.s 61)⟩] [] [8, 9, 62]) c29_2) c29_0)
def c29_4 : ACode :=
  (.seq (.region true [⟨some 49, none, .mv (.s 0)⟩,
    ⟨some 50, none, .fa 2 (.s 3)⟩,
    ⟨some 51, none, .ld false 1 (.s 50)⟩,
    ⟨some 52, none, .call 40 [(.s 49), (.s 51)]⟩,
    ⟨some 53, none, .mv (.s 0)⟩,
    ⟨some 54, none, .fa 4 (.s 3)⟩,
    ⟨some 55, none, .ld false 1 (.s 54)⟩,
    ⟨some 56, none, .call 41 [(.s 53), (.s 55)]⟩,
    ⟨some 8, none, .mv (.s 52)⟩,
    ⟨some 9, none, .mv (.s 56)⟩] [[], [], [1], [0, 2], [], [], [5], [4, 6, 3], [3, 7, 0, 1, 2, 3], [7, 8, 0, 1, 2, 3, 4, 5, 6, 7, 8]] [8, 9]) c29_3)
def c29_5 : ACode :=
  (.seq (.region false [⟨some 43, none, .mv (.s 0)⟩,
    ⟨some 44, none, .fa 2 (.s 3)⟩,
    ⟨some 45, none, .ld false 1 (.s 44)⟩,
    ⟨some 46, none, .call 26 [(.s 43), (.s 45)]⟩,
    ⟨some 47, none, .nilck (.s 46)⟩,
    ⟨some 48, none, .ld false 1 (.s 47)⟩,
    ⟨some 4, none, .mv (.s 48)⟩] [] [4]) .ret)
def c29_6 : ACode :=
  (.cond (.s 42) c29_5 .skip)
def c29_7 : ACode :=
  (.seq (.seq (.region false [⟨some 39, none, .fa 4 (.s 3)⟩,
    ⟨some 40, none, .ld false 1 (.s 39)⟩,
    ⟨some 41, none, .len (.s 40)⟩,
    ⟨some 42, none, .bin .eql (.s 41) (.c (.t (.int .i64 0)))⟩] [] [0, 3, 42]) c29_6) c29_4)
def c29_8 : ACode :=
  (.seq (.region false [⟨some 38, none, .mv (.s 5)⟩,
    ⟨some 4, none, .mv (.s 38)⟩] [] [4]) .ret)
def c29_9 : ACode :=
  (.region false [⟨some 37, none, .bin .add (.s 17) (.c (.t (.int .i64 1)))⟩,
    ⟨some 17, none, .mv (.s 37)⟩] [] [3, 5, 15, 16, 17])
def c29_10 : ACode :=
  (.region false [⟨some 33, none, .mv (.s 5)⟩,
    ⟨some 34, none, .fa 1 (.s 7)⟩,
    ⟨some 35, none, .ld false 1 (.s 34)⟩,
    ⟨some 36, none, .call 35 [(.s 33), (.s 35)]⟩,
    ⟨some 5, none, .mv (.s 36)⟩] [] [3, 5, 15, 16, 17])
def c29_11 : ACode :=
  (.cond (.s 32) c29_10 .skip)
def c29_12 : ACode :=
  (.seq (.region false [⟨some 21, none, .fa 0 (.s 7)⟩,
    ⟨some 22, none, .ld false 1 (.s 21)⟩,
    ⟨some 23, none, .fa 2 (.s 3)⟩,
    ⟨some 24, none, .ld false 1 (.s 23)⟩,
    ⟨some 25, none, .bin .eql (.s 22) (.s 24)⟩,
    ⟨some 26, none, .mv (.s 25)⟩,
    ⟨some 27, some (26, true), .fa 2 (.s 7)⟩,
    ⟨some 28, some (26, true), .ld false 1 (.s 27)⟩,
    ⟨some 29, some (26, true), .fa 1 (.s 3)⟩,
    ⟨some 30, some (26, true), .ld false 1 (.s 29)⟩,
    ⟨some 31, some (26, true), .call 39 [(.s 28), (.s 30)]⟩,
    ⟨some 32, none, .pick (.s 26) (.s 31) (.c (.t (.bool false)))⟩] [] [3, 5, 7, 15, 16, 17, 32]) c29_11)
def c29_13 : ACode :=
  (.seq (.region false [⟨some 19, none, .ia 3 (.s 15) (.s 17)⟩,
    ⟨some 20, none, .ld true 3 (.s 19)⟩,
    ⟨some 7, none, .alloc [.t (.int .i64 0), .t (.int .i64 0), .nils]⟩,
    ⟨none, none, .st 3 (.s 7) (.s 20)⟩] [] [3, 5, 7, 15, 16, 17]) c29_12)
def c29_14 : ACode :=
  (.seq (.block 1 c29_13) c29_9)
def c29_15 : ACode :=
  (.seq (.cond (.s 18) .skip (.exit 0)) c29_14)
def c29_16 : ACode :=
  (.seq (.region false [⟨some 18, none, .bin .lss (.s 17) (.s 16)⟩] [] [3, 5, 15, 16, 17, 18]) c29_15)
def c29_17 : ACode :=
  (.loop c29_16)
def c29_18 : ACode :=
  (.block 0 c29_17)
def c29_19 : ACode :=
  (.seq (.seq (.region false [⟨some 12, none, .mv (.s 0)⟩,
    ⟨some 13, none, .nilck (.s 12)⟩,
    ⟨some 14, none, .fa 4 (.s 13)⟩,
    ⟨some 15, none, .ld false 1 (.s 14)⟩,
    ⟨some 16, none, .len (.s 15)⟩,
    ⟨some 17, none, .cst (.t (.int .i64 0))⟩] [] [3, 5, 15, 16, 17]) c29_18) c29_8)
def c29_20 : ACode :=
  (.seq (.region false [⟨some 5, none, .cst (.t (.int .i64 0))⟩] [] [0, 3, 5]) c29_19)
def c29_21 : ACode :=
  (.cond (.s 11) c29_20 .skip)
def c29_22 : ACode :=
  (.seq (.seq (.region false [⟨some 10, none, .fa 3 (.s 3)⟩,
    ⟨some 11, none, .ld false 1 (.s 10)⟩] [] [0, 3, 11]) c29_21) c29_7)
def c29 : ACode :=
  (.seq (.region false [⟨some 3, none, .box 6 (.s 1)⟩,
    ⟨some 4, none, .cst (.t (.int .i64 0))⟩] [] [0, 3]) c29_22)
def r29 : List ARes := [.tmp 4]
def n29 : Nat := 67
/- 30 (*supergraph supergraphref26.table).level -/
def c30_0 : ACode :=
  (.seq (.region false [⟨some 56, none, .mv (.s 5)⟩,
    ⟨some 4, none, .mv (.s 56)⟩] [] [4]) .ret)
def c30_1 : ACode :=
  (.region false [⟨some 35, none, .mv (.s 7)⟩,
    ⟨some 36, none, .bin .add (.s 35) (.c (.t (.int .i64 1)))⟩,
    ⟨some 7, none, .mv (.s 36)⟩] [] [0, 1, 5, 7])
def c30_2 : ACode :=
  (.region false [⟨some 47, none, .mv (.s 5)⟩,
    ⟨some 48, none, .mv (.s 0)⟩,
    ⟨some 49, none, .nilck (.s 48)⟩,
    ⟨some 50, none, .fa 4 (.s 49)⟩,
    ⟨some 51, none, .ld false 1 (.s 50)⟩,
    ⟨some 52, none, .mv (.s 7)⟩,
    ⟨some 53, none, .ia 1 (.s 51) (.s 52)⟩,
    ⟨some 54, none, .ld false 1 (.s 53)⟩,
    ⟨some 55, none, .call 42 [(.s 47), (.s 54)]⟩,
    ⟨some 5, none, .mv (.s 55)⟩] [] [0, 1, 5, 7])
def c30_3 : ACode :=
  (.cond (.s 46) c30_2 .skip)
def c30_4 : ACode :=
  (.seq (.region false [⟨some 37, none, .mv (.s 0)⟩,
    ⟨some 38, none, .nilck (.s 37)⟩,
    ⟨some 39, none, .fa 1 (.s 38)⟩,
    ⟨some 40, none, .ld false 1 (.s 39)⟩,
    ⟨some 41, none, .mv (.s 7)⟩,
    ⟨some 42, none, .ia 6 (.s 40) (.s 41)⟩,
    ⟨some 43, none, .fa 1 (.s 42)⟩,
    ⟨some 44, none, .ld false 1 (.s 43)⟩,
    ⟨some 45, none, .mv (.s 1)⟩,
    ⟨some 46, none, .bin .eql (.s 44) (.s 45)⟩] [] [0, 1, 5, 7, 46]) c30_3)
def c30_5 : ACode :=
  (.seq (.block 3 c30_4) c30_1)
def c30_6 : ACode :=
  (.cond (.s 34) .skip (.exit 2))
def c30_7 : ACode :=
  (.seq (.seq (.region false [⟨some 28, none, .mv (.s 7)⟩,
    ⟨some 29, none, .mv (.s 0)⟩,
    ⟨some 30, none, .nilck (.s 29)⟩,
    ⟨some 31, none, .fa 1 (.s 30)⟩,
    ⟨some 32, none, .ld false 1 (.s 31)⟩,
    ⟨some 33, none, .len (.s 32)⟩,
    ⟨some 34, none, .bin .lss (.s 28) (.s 33)⟩] [] [0, 1, 5, 7, 34]) c30_6) c30_5)
def c30_8 : ACode :=
  (.loop c30_7)
def c30_9 : ACode :=
  (.block 2 c30_8)
def c30_10 : ACode :=
  (.seq (.seq (.region false [⟨some 7, none, .cst (.t (.int .i64 0))⟩] [] [0, 1, 5, 7]) c30_9) c30_0)
def c30_11 : ACode :=
  (.seq (.region false [⟨some 27, none, .mv (.s 5)⟩,
    ⟨some 4, none, .mv (.s 27)⟩] [] [4]) .ret)
def c30_12 : ACode :=
  (.region false [⟨some 16, none, .mv (.s 6)⟩,
    ⟨some 17, none, .bin .add (.s 16) (.c (.t (.int .i64 1)))⟩,
    ⟨some 6, none, .mv (.s 17)⟩] [] [0, 5, 6])
def c30_13 : ACode :=
  (.region false [⟨some 18, none, .mv (.s 5)⟩,
    ⟨some 19, none, .mv (.s 0)⟩,
    ⟨some 20, none, .nilck (.s 19)⟩,
    ⟨some 21, none, .fa 5 (.s 20)⟩,
    ⟨some 22, none, .ld false 1 (.s 21)⟩,
    ⟨some 23, none, .mv (.s 6)⟩,
    ⟨some 24, none, .ia 1 (.s 22) (.s 23)⟩,
    ⟨some 25, none, .ld false 1 (.s 24)⟩,
    ⟨some 26, none, .call 42 [(.s 18), (.s 25)]⟩,
    ⟨some 5, none, .mv (.s 26)⟩] [] [0, 5, 6])
def c30_14 : ACode :=
  (.seq (.block 1 c30_13) c30_12)
def c30_15 : ACode :=
  (.cond (.s 15) .skip (.exit 0))
def c30_16 : ACode :=
  (.seq (.seq (.region false [⟨some 10, none, .mv (.s 6)⟩,
    ⟨some 11, none, .mv (.s 0)⟩,
    ⟨some 12, none, .nilck (.s 11)⟩,
    ⟨some 13, none, .fa 0 (.s 12)⟩,
    ⟨some 14, none, .ld false 1 (.s 13)⟩,
    ⟨some 15, none, .bin .lss (.s 10) (.s 14)⟩] [] [0, 5, 6, 15]) c30_15) c30_14)
def c30_17 : ACode :=
  (.loop c30_16)
def c30_18 : ACode :=
  (.block 0 c30_17)
def c30_19 : ACode :=
  (.seq (.seq (.region false [⟨some 6, none, .cst (.t (.int .i64 0))⟩] [] [0, 5, 6]) c30_18) c30_11)
def c30_20 : ACode :=
  (.cond (.s 9) c30_19 .skip)
def c30_21 : ACode :=
  (.seq (.seq (.region false [⟨some 8, none, .mv (.s 1)⟩,
    ⟨some 9, none, .bin .eql (.s 8) (.c (.t (.str [95, 95, 116, 121, 112, 101, 110, 97, 109, 101])))⟩] [] [0, 1, 5, 9]) c30_20) c30_10)
def c30_22 : ACode :=
  (.seq (.region false [⟨some 5, none, .cst (.t (.int .i64 0))⟩] [] [0, 1, 5]) c30_21)
def c30 : ACode :=
  (.seq (.region false [⟨some 4, none, .cst (.t (.int .i64 0))⟩] [] [0, 1]) c30_22)
def r30 : List ARes := [.tmp 4]
def n30 : Nat := 57
/- 31 slices.Clone[[]string,string] -/
def c31_0 : ACode :=
  (.seq (.region false [⟨some 5, none, .bsl true 1 [] []⟩,
    ⟨some 6, none, .mv (.s 0)⟩,
    ⟨some 7, none, .app 1 16 (.s 5) (.s 6)⟩,
    ⟨some 2, none, .mv (.s 7)⟩] [] [2]) .ret)
def c31_1 : ACode :=
  (.seq (.region false [⟨some 2, none, .cst (.nils)⟩] [] [2]) .ret)
def c31_2 : ACode :=
  (.cond (.s 4) c31_1 .skip)
def c31_3 : ACode :=
  (.seq (.seq (.region false [⟨some 3, none, .mv (.s 0)⟩,
    ⟨some 4, none, .nw (.eqn false (.s 3))⟩] [] [0, 4]) c31_2) c31_0)
def c31 : ACode :=
  (.seq (.region false [⟨some 2, none, .cst (.nils)⟩] [] [0]) c31_3)
def r31 : List ARes := [.tmp 2]
def n31 : Nat := 8
/- 32 slices.ContainsFunc[[]supergraph api.Join,supergraph api.Join] -/
def c32_0 : ACode :=
  (.seq (.region false [⟨some 5, none, .mv (.s 0)⟩,
    ⟨some 6, none, .mv (.s 1)⟩,
    ⟨some 7, none, .call 43 [(.s 5), (.s 6)]⟩,
    ⟨some 8, none, .bin .geq (.s 7) (.c (.t (.int .i64 0)))⟩,
    ⟨some 4, none, .mv (.s 8)⟩] [] [4]) .ret)
def c32 : ACode :=
  (.seq (.region false [⟨some 4, none, .cst (.t (.bool false))⟩] [] [0, 1]) c32_0)
def r32 : List ARes := [.tmp 4]
def n32 : Nat := 9
/- 33 supergraph reach.Roots 1 -/
def c33_0 : ACode :=
  (.seq (.region false [⟨some 5, none, .fa 0 (.s 3)⟩,
    ⟨some 6, none, .ld false 1 (.s 5)⟩,
    ⟨some 7, none, .ld false 1 (.s 1)⟩,
    ⟨some 8, none, .bin .eql (.s 6) (.s 7)⟩,
    ⟨some 9, none, .mv (.s 8)⟩,
    ⟨some 10, some (9, true), .fa 2 (.s 3)⟩,
    ⟨some 11, some (9, true), .ld false 1 (.s 10)⟩,
    ⟨some 12, some (9, true), .ld false 1 (.s 2)⟩,
    ⟨some 13, some (9, true), .bin .eql (.s 11) (.s 12)⟩,
    ⟨some 14, none, .pick (.s 9) (.s 13) (.c (.t (.bool false)))⟩,
    ⟨some 4, none, .mv (.s 14)⟩] [] [4]) .ret)
def c33 : ACode :=
  (.seq (.region false [⟨some 3, none, .box 6 (.s 0)⟩,
    ⟨some 4, none, .cst (.t (.bool false))⟩] [] [1, 2, 3]) c33_0)
def r33 : List ARes := [.tmp 4]
def n33 : Nat := 15
/- 34 supergraph supergraphref26.open -/
def c34_0 : ACode :=
  (.seq (.region false [⟨some 199, none, .mv (.s 7)⟩,
    ⟨some 6, none, .mv (.s 199)⟩] [] [6]) .ret)
def c34_1 : ACode :=
  (.seq (.region false [⟨some 191, none, .mv (.s 7)⟩,
    ⟨some 192, none, .mv (.s 7)⟩,
    ⟨some 193, none, .nilck (.s 192)⟩,
    ⟨some 194, none, .fa 0 (.s 193)⟩,
    ⟨some 195, none, .ld false 1 (.s 194)⟩,
    ⟨some 196, none, .mksl 1 8 [.t (.int .i64 0)] (.s 195)⟩,
    ⟨some 197, none, .nilck (.s 191)⟩,
    ⟨some 198, none, .fa 5 (.s 197)⟩,
    ⟨none, none, .st 1 (.s 198) (.s 196)⟩] [] [7]) c34_0)
def c34_2 : ACode :=
  (.seq (.region false [⟨some 182, none, .mv (.s 7)⟩,
    ⟨some 183, none, .mv (.s 7)⟩,
    ⟨some 184, none, .nilck (.s 183)⟩,
    ⟨some 185, none, .fa 1 (.s 184)⟩,
    ⟨some 186, none, .ld false 1 (.s 185)⟩,
    ⟨some 187, none, .len (.s 186)⟩,
    ⟨some 188, none, .mksl 1 8 [.t (.int .i64 0)] (.s 187)⟩,
    ⟨some 189, none, .nilck (.s 182)⟩,
    ⟨some 190, none, .fa 4 (.s 189)⟩,
    ⟨none, none, .st 1 (.s 190) (.s 188)⟩] [] [7]) c34_1)
def c34_3 : ACode :=
  (.region false [⟨some 144, none, .mv (.s 14)⟩,
    ⟨some 145, none, .bin .add (.s 144) (.c (.t (.int .i64 1)))⟩,
    ⟨some 14, none, .mv (.s 145)⟩] [] [2, 7, 14])
def c34_4 : ACode :=
  (.region true [⟨some 172, none, .mv (.s 7)⟩,
    ⟨some 173, none, .mv (.s 7)⟩,
    ⟨some 174, none, .nilck (.s 173)⟩,
    ⟨some 175, none, .fa 3 (.s 174)⟩,
    ⟨some 176, none, .ld false 1 (.s 175)⟩,
    ⟨some 177, none, .ld true 3 (.s 15)⟩,
    ⟨some 178, none, .bsl false 3 [[.int .i64 0, .int .i64 0, .lst []]] [(0, (.s 177))]⟩,
    ⟨some 179, none, .app 3 40 (.s 176) (.s 178)⟩,
    ⟨some 180, none, .nilck (.s 172)⟩,
    ⟨some 181, none, .fa 3 (.s 180)⟩,
    ⟨none, none, .st 1 (.s 181) (.s 179)⟩] [[], [], [1], [2], [3], [], [5], [4, 6], [0, 0, 1, 2, 3, 4, 5, 6, 7], [8, 0, 1, 2, 3, 4, 5, 6, 7], [9, 7, 7, 0, 1, 2, 3, 4, 5, 6, 7]] [2, 7, 14])
def c34_5 : ACode :=
  (.cond (.s 171) c34_4 .skip)
def c34_6 : ACode :=
  (.seq (.region true [⟨some 150, none, .fa 0 (.s 15)⟩,
    ⟨some 151, none, .ld false 1 (.s 150)⟩,
    ⟨some 152, none, .bin .geq (.s 151) (.c (.t (.int .i64 0)))⟩,
    ⟨some 153, none, .mv (.s 152)⟩,
    ⟨some 154, some (153, true), .fa 0 (.s 15)⟩,
    ⟨some 155, some (153, true), .ld false 1 (.s 154)⟩,
    ⟨some 156, some (153, true), .mv (.s 7)⟩,
    ⟨some 157, some (153, true), .nilck (.s 156)⟩,
    ⟨some 158, some (153, true), .fa 0 (.s 157)⟩,
    ⟨some 159, some (153, true), .ld false 1 (.s 158)⟩,
    ⟨some 160, some (153, true), .bin .lss (.s 155) (.s 159)⟩,
    ⟨some 161, none, .pick (.s 153) (.s 160) (.c (.t (.bool false)))⟩,
    ⟨some 162, none, .mv (.s 161)⟩,
    ⟨some 163, some (162, true), .fa 1 (.s 15)⟩,
    ⟨some 164, some (162, true), .ld false 1 (.s 163)⟩,
    ⟨some 165, some (162, true), .bin .geq (.s 164) (.c (.t (.int .i64 1)))⟩,
    ⟨some 166, none, .pick (.s 162) (.s 165) (.c (.t (.bool false)))⟩,
    ⟨some 167, none, .mv (.s 166)⟩,
    ⟨some 168, some (167, true), .fa 1 (.s 15)⟩,
    ⟨some 169, some (167, true), .ld false 1 (.s 168)⟩,
    ⟨some 170, some (167, true), .bin .leq (.s 169) (.c (.t (.int .i64 1099511627776)))⟩,
    ⟨some 171, none, .pick (.s 167) (.s 170) (.c (.t (.bool false)))⟩] [[], [0], [1], [2], [3], [4, 3], [3], [6, 3], [7, 3], [8, 3], [5, 9, 3], [3, 10], [11, 3], [12], [13, 12], [14, 12], [12, 15], [16, 12], [17], [18, 17], [19, 17], [17, 20]] [2, 7, 14, 15, 171]) c34_5)
def c34_7 : ACode :=
  (.seq (.region false [⟨some 146, none, .mv (.s 2)⟩,
    ⟨some 147, none, .mv (.s 14)⟩,
    ⟨some 148, none, .ia 3 (.s 146) (.s 147)⟩,
    ⟨some 149, none, .ld true 3 (.s 148)⟩,
    ⟨some 15, none, .alloc [.t (.int .i64 0), .t (.int .i64 0), .nils]⟩,
    ⟨none, none, .st 3 (.s 15) (.s 149)⟩] [] [2, 7, 14, 15]) c34_6)
def c34_8 : ACode :=
  (.seq (.block 7 c34_7) c34_3)
def c34_9 : ACode :=
  (.cond (.s 143) .skip (.exit 6))
def c34_10 : ACode :=
  (.seq (.seq (.region false [⟨some 140, none, .mv (.s 14)⟩,
    ⟨some 141, none, .mv (.s 2)⟩,
    ⟨some 142, none, .len (.s 141)⟩,
    ⟨some 143, none, .bin .lss (.s 140) (.s 142)⟩] [] [2, 7, 14, 143]) c34_9) c34_8)
def c34_11 : ACode :=
  (.loop c34_10)
def c34_12 : ACode :=
  (.block 6 c34_11)
def c34_13 : ACode :=
  (.seq (.seq (.region false [⟨some 14, none, .cst (.t (.int .i64 0))⟩] [] [2, 7, 14]) c34_12) c34_2)
def c34_14 : ACode :=
  (.region false [⟨some 105, none, .mv (.s 12)⟩,
    ⟨some 106, none, .bin .add (.s 105) (.c (.t (.int .i64 1)))⟩,
    ⟨some 12, none, .mv (.s 106)⟩] [] [1, 2, 3, 7, 12])
def c34_15 : ACode :=
  (.region true [⟨some 130, none, .mv (.s 7)⟩,
    ⟨some 131, none, .mv (.s 7)⟩,
    ⟨some 132, none, .nilck (.s 131)⟩,
    ⟨some 133, none, .fa 2 (.s 132)⟩,
    ⟨some 134, none, .ld false 1 (.s 133)⟩,
    ⟨some 135, none, .ld true 3 (.s 13)⟩,
    ⟨some 136, none, .bsl false 3 [[.str [], .int .i64 0, .lst []]] [(0, (.s 135))]⟩,
    ⟨some 137, none, .app 3 48 (.s 134) (.s 136)⟩,
    ⟨some 138, none, .nilck (.s 130)⟩,
    ⟨some 139, none, .fa 2 (.s 138)⟩,
    ⟨none, none, .st 1 (.s 139) (.s 137)⟩] [[], [], [1], [2], [3], [], [5], [4, 6], [0, 0, 1, 2, 3, 4, 5, 6, 7], [8, 0, 1, 2, 3, 4, 5, 6, 7], [9, 7, 7, 0, 1, 2, 3, 4, 5, 6, 7]] [1, 2, 3, 7, 12])
def c34_16 : ACode :=
  (.cond (.s 129) c34_15 .skip)
def c34_17 : ACode :=
  (.seq (.region true [⟨some 112, none, .fa 0 (.s 13)⟩,
    ⟨some 113, none, .ld false 1 (.s 112)⟩,
    ⟨some 114, none, .mv (.s 1)⟩,
    ⟨some 115, none, .bin .eql (.s 113) (.s 114)⟩,
    ⟨some 116, none, .mv (.s 115)⟩,
    ⟨some 117, some (116, true), .fa 1 (.s 13)⟩,
    ⟨some 118, some (116, true), .ld false 1 (.s 117)⟩,
    ⟨some 119, some (116, true), .bin .geq (.s 118) (.c (.t (.int .i64 0)))⟩,
    ⟨some 120, none, .pick (.s 116) (.s 119) (.c (.t (.bool false)))⟩,
    ⟨some 121, none, .mv (.s 120)⟩,
    ⟨some 122, some (121, true), .fa 1 (.s 13)⟩,
    ⟨some 123, some (121, true), .ld false 1 (.s 122)⟩,
    ⟨some 124, some (121, true), .mv (.s 7)⟩,
    ⟨some 125, some (121, true), .nilck (.s 124)⟩,
    ⟨some 126, some (121, true), .fa 0 (.s 125)⟩,
    ⟨some 127, some (121, true), .ld false 1 (.s 126)⟩,
    ⟨some 128, some (121, true), .bin .lss (.s 123) (.s 127)⟩,
    ⟨some 129, none, .pick (.s 121) (.s 128) (.c (.t (.bool false)))⟩] [[], [0], [], [1, 2], [3], [4], [5, 4], [6, 4], [4, 7], [8, 4], [9], [10, 9], [9], [12, 9], [13, 9], [14, 9], [11, 15, 9], [9, 16]] [1, 2, 3, 7, 12, 13, 129]) c34_16)
def c34_18 : ACode :=
  (.seq (.region false [⟨some 107, none, .fa 2 (.s 3)⟩,
    ⟨some 108, none, .ld false 1 (.s 107)⟩,
    ⟨some 109, none, .mv (.s 12)⟩,
    ⟨some 110, none, .ia 3 (.s 108) (.s 109)⟩,
    ⟨some 111, none, .ld true 3 (.s 110)⟩,
    ⟨some 13, none, .alloc [.t (.str []), .t (.int .i64 0), .nils]⟩,
    ⟨none, none, .st 3 (.s 13) (.s 111)⟩] [] [1, 2, 3, 7, 12, 13]) c34_17)
def c34_19 : ACode :=
  (.seq (.block 5 c34_18) c34_14)
def c34_20 : ACode :=
  (.cond (.s 104) .skip (.exit 4))
def c34_21 : ACode :=
  (.seq (.seq (.region false [⟨some 100, none, .mv (.s 12)⟩,
    ⟨some 101, none, .fa 2 (.s 3)⟩,
    ⟨some 102, none, .ld false 1 (.s 101)⟩,
    ⟨some 103, none, .len (.s 102)⟩,
    ⟨some 104, none, .bin .lss (.s 100) (.s 103)⟩] [] [1, 2, 3, 7, 12, 104]) c34_20) c34_19)
def c34_22 : ACode :=
  (.loop c34_21)
def c34_23 : ACode :=
  (.block 4 c34_22)
def c34_24 : ACode :=
  (.seq (.seq (.region false [⟨some 12, none, .cst (.t (.int .i64 0))⟩] [] [1, 2, 3, 7, 12]) c34_23) c34_13)
def c34_25 : ACode :=
  (.region false [⟨some 26, none, .mv (.s 8)⟩,
    ⟨some 27, none, .bin .add (.s 26) (.c (.t (.int .i64 1)))⟩,
    ⟨some 8, none, .mv (.s 27)⟩] [] [1, 2, 3, 7, 8])
def c34_26 : ACode :=
  (.region true [⟨some 90, none, .mv (.s 7)⟩,
    ⟨some 91, none, .mv (.s 7)⟩,
    ⟨some 92, none, .nilck (.s 91)⟩,
    ⟨some 93, none, .fa 1 (.s 92)⟩,
    ⟨some 94, none, .ld false 1 (.s 93)⟩,
    ⟨some 95, none, .ld true 6 (.s 9)⟩,
    ⟨some 96, none, .bsl false 6 [[.str [], .str [], .int .i64 0, .bool false, .lst [], .lst []]] [(0, (.s 95))]⟩,
    ⟨some 97, none, .app 6 96 (.s 94) (.s 96)⟩,
    ⟨some 98, none, .nilck (.s 90)⟩,
    ⟨some 99, none, .fa 1 (.s 98)⟩,
    ⟨none, none, .st 1 (.s 99) (.s 97)⟩] [[], [], [1], [2], [3], [], [5], [4, 6], [0, 0, 1, 2, 3, 4, 5, 6, 7], [8, 0, 1, 2, 3, 4, 5, 6, 7], [9, 7, 7, 0, 1, 2, 3, 4, 5, 6, 7]] [1, 2, 3, 7, 8])
def c34_27 : ACode :=
  (.cond (.s 89) c34_26 .skip)
def c34_28 : ACode :=
  (.seq (.region true [⟨some 69, none, .fa 0 (.s 9)⟩,
    ⟨some 70, none, .ld false 1 (.s 69)⟩,
    ⟨some 71, none, .mv (.s 1)⟩,
    ⟨some 72, none, .bin .eql (.s 70) (.s 71)⟩,
    ⟨some 73, none, .mv (.s 72)⟩,
    ⟨some 74, some (73, true), .fa 2 (.s 9)⟩,
    ⟨some 75, some (73, true), .ld false 1 (.s 74)⟩,
    ⟨some 76, some (73, true), .bin .geq (.s 75) (.c (.t (.int .i64 0)))⟩,
    ⟨some 77, none, .pick (.s 73) (.s 76) (.c (.t (.bool false)))⟩,
    ⟨some 78, none, .mv (.s 77)⟩,
    ⟨some 79, some (78, true), .fa 2 (.s 9)⟩,
    ⟨some 80, some (78, true), .ld false 1 (.s 79)⟩,
    ⟨some 81, some (78, true), .mv (.s 7)⟩,
    ⟨some 82, some (78, true), .nilck (.s 81)⟩,
    ⟨some 83, some (78, true), .fa 0 (.s 82)⟩,
    ⟨some 84, some (78, true), .ld false 1 (.s 83)⟩,
    ⟨some 85, some (78, true), .bin .lss (.s 80) (.s 84)⟩,
    ⟨some 86, none, .pick (.s 78) (.s 85) (.c (.t (.bool false)))⟩,
    ⟨some 87, none, .mv (.s 86)⟩,
    ⟨some 88, some (87, true), .mv (.s 10)⟩,
    ⟨some 89, none, .pick (.s 87) (.s 88) (.c (.t (.bool false)))⟩] [[], [0], [], [1, 2], [3], [4], [5, 4], [6, 4], [4, 7], [8, 4], [9], [10, 9], [9], [12, 9], [13, 9], [14, 9], [11, 15, 9], [9, 16], [17, 9], [18], [18, 19]] [1, 2, 3, 7, 8, 9, 89]) c34_27)
def c34_29 : ACode :=
  (.region false [⟨some 36, none, .mv (.s 11)⟩,
    ⟨some 37, none, .bin .add (.s 36) (.c (.t (.int .i64 1)))⟩,
    ⟨some 11, none, .mv (.s 37)⟩] [] [1, 2, 3, 7, 8, 9, 10, 11])
def c34_30 : ACode :=
  (.region false [⟨some 10, none, .cst (.t (.bool false))⟩] [] [1, 2, 3, 7, 8, 9, 10, 11])
def c34_31 : ACode :=
  (.cond (.s 68) c34_30 .skip)
def c34_32 : ACode :=
  (.seq (.region true [⟨some 38, none, .fa 3 (.s 3)⟩,
    ⟨some 39, none, .ld false 1 (.s 38)⟩,
    ⟨some 40, none, .mv (.s 11)⟩,
    ⟨some 41, none, .ia 6 (.s 39) (.s 40)⟩,
    ⟨some 42, none, .fa 0 (.s 41)⟩,
    ⟨some 43, none, .ld false 1 (.s 42)⟩,
    ⟨some 44, none, .fa 0 (.s 9)⟩,
    ⟨some 45, none, .ld false 1 (.s 44)⟩,
    ⟨some 46, none, .bin .eql (.s 43) (.s 45)⟩,
    ⟨some 47, none, .mv (.s 46)⟩,
    ⟨some 48, some (47, true), .fa 3 (.s 3)⟩,
    ⟨some 49, some (47, true), .ld false 1 (.s 48)⟩,
    ⟨some 50, some (47, true), .mv (.s 11)⟩,
    ⟨some 51, some (47, true), .ia 6 (.s 49) (.s 50)⟩,
    ⟨some 52, some (47, true), .fa 1 (.s 51)⟩,
    ⟨some 53, some (47, true), .ld false 1 (.s 52)⟩,
    ⟨some 54, some (47, true), .fa 1 (.s 9)⟩,
    ⟨some 55, some (47, true), .ld false 1 (.s 54)⟩,
    ⟨some 56, some (47, true), .bin .eql (.s 53) (.s 55)⟩,
    ⟨some 57, none, .pick (.s 47) (.s 56) (.c (.t (.bool false)))⟩,
    ⟨some 58, none, .mv (.s 57)⟩,
    ⟨some 59, some (58, true), .fa 3 (.s 3)⟩,
    ⟨some 60, some (58, true), .ld false 1 (.s 59)⟩,
    ⟨some 61, some (58, true), .mv (.s 11)⟩,
    ⟨some 62, some (58, true), .ia 6 (.s 60) (.s 61)⟩,
    ⟨some 63, some (58, true), .fa 2 (.s 62)⟩,
    ⟨some 64, some (58, true), .ld false 1 (.s 63)⟩,
    ⟨some 65, some (58, true), .fa 2 (.s 9)⟩,
    ⟨some 66, some (58, true), .ld false 1 (.s 65)⟩,
    ⟨some 67, some (58, true), .bin .eql (.s 64) (.s 66)⟩,
    ⟨some 68, none, .pick (.s 58) (.s 67) (.c (.t (.bool false)))⟩] [[], [0], [], [1, 2], [3], [4], [], [6], [5, 7], [8], [9], [10, 9], [9], [11, 12, 9], [13, 9], [14, 9], [9], [16, 9], [15, 17, 9], [9, 18], [19, 9], [20], [21, 20], [20], [22, 23, 20], [24, 20], [25, 20], [20], [27, 20], [26, 28, 20], [20, 29]] [1, 2, 3, 7, 8, 9, 10, 11, 68]) c34_31)
def c34_33 : ACode :=
  (.seq (.block 3 c34_32) c34_29)
def c34_34 : ACode :=
  (.cond (.s 35) .skip (.exit 2))
def c34_35 : ACode :=
  (.seq (.seq (.region false [⟨some 33, none, .mv (.s 11)⟩,
    ⟨some 34, none, .mv (.s 8)⟩,
    ⟨some 35, none, .bin .lss (.s 33) (.s 34)⟩] [] [1, 2, 3, 7, 8, 9, 10, 11, 35]) c34_34) c34_33)
def c34_36 : ACode :=
  (.loop c34_35)
def c34_37 : ACode :=
  (.block 2 c34_36)
def c34_38 : ACode :=
  (.seq (.seq (.region false [⟨some 11, none, .cst (.t (.int .i64 0))⟩] [] [1, 2, 3, 7, 8, 9, 10, 11]) c34_37) c34_28)
def c34_39 : ACode :=
  (.seq (.region false [⟨some 10, none, .cst (.t (.bool true))⟩] [] [1, 2, 3, 7, 8, 9, 10]) c34_38)
def c34_40 : ACode :=
  (.seq (.region false [⟨some 28, none, .fa 3 (.s 3)⟩,
    ⟨some 29, none, .ld false 1 (.s 28)⟩,
    ⟨some 30, none, .mv (.s 8)⟩,
    ⟨some 31, none, .ia 6 (.s 29) (.s 30)⟩,
    ⟨some 32, none, .ld true 6 (.s 31)⟩,
    ⟨some 9, none, .alloc [.t (.str []), .t (.str []), .t (.int .i64 0), .t (.bool false), .nils, .nils]⟩,
    ⟨none, none, .st 6 (.s 9) (.s 32)⟩] [] [1, 2, 3, 7, 8, 9]) c34_39)
def c34_41 : ACode :=
  (.seq (.block 1 c34_40) c34_25)
def c34_42 : ACode :=
  (.cond (.s 25) .skip (.exit 0))
def c34_43 : ACode :=
  (.seq (.seq (.region false [⟨some 21, none, .mv (.s 8)⟩,
    ⟨some 22, none, .fa 3 (.s 3)⟩,
    ⟨some 23, none, .ld false 1 (.s 22)⟩,
    ⟨some 24, none, .len (.s 23)⟩,
    ⟨some 25, none, .bin .lss (.s 21) (.s 24)⟩] [] [1, 2, 3, 7, 8, 25]) c34_42) c34_41)
def c34_44 : ACode :=
  (.loop c34_43)
def c34_45 : ACode :=
  (.block 0 c34_44)
def c34_46 : ACode :=
  (.seq (.seq (.region false [⟨some 8, none, .cst (.t (.int .i64 0))⟩] [] [1, 2, 3, 7, 8]) c34_45) c34_24)
def c34_47 : ACode :=
  (.seq (.region false [⟨some 16, none, .fa 0 (.s 3)⟩,
    ⟨some 17, none, .ld false 1 (.s 16)⟩,
    ⟨some 18, none, .len (.s 17)⟩,
    ⟨some 19, none, .build [.t (.int .i64 0), .nils, .nils, .nils, .nils, .nils] [(0, 1, (.s 18))]⟩,
    ⟨some 20, none, .box 6 (.s 19)⟩,
    ⟨some 7, none, .mv (.s 20)⟩] [] [1, 2, 3, 7]) c34_46)
def c34 : ACode :=
  (.seq (.region false [⟨some 3, none, .box 4 (.s 0)⟩,
    ⟨some 6, none, .cst (.t (.nilp))⟩] [] [1, 2, 3]) c34_47)
def r34 : List ARes := [.tmp 6]
def n34 : Nat := 200
/- 35 supergraph reach.lesser -/
def c35_0 : ACode :=
  (.seq (.region false [⟨some 17, none, .mv (.s 0)⟩,
    ⟨some 4, none, .mv (.s 17)⟩] [] [4]) .ret)
def c35_1 : ACode :=
  (.seq (.region false [⟨some 16, none, .mv (.s 1)⟩,
    ⟨some 4, none, .mv (.s 16)⟩] [] [4]) .ret)
def c35_2 : ACode :=
  (.cond (.s 15) c35_1 .skip)
def c35_3 : ACode :=
  (.seq (.seq (.region false [⟨some 5, none, .mv (.s 0)⟩,
    ⟨some 6, none, .bin .eql (.s 5) (.c (.t (.int .i64 0)))⟩,
    ⟨some 7, none, .mv (.s 6)⟩,
    ⟨some 8, some (7, false), .mv (.s 1)⟩,
    ⟨some 9, some (7, false), .bin .neq (.s 8) (.c (.t (.int .i64 0)))⟩,
    ⟨some 10, some (7, false), .mv (.s 9)⟩,
    ⟨some 11, some (10, true), .mv (.s 1)⟩,
    ⟨some 12, some (10, true), .mv (.s 0)⟩,
    ⟨some 13, some (10, true), .bin .lss (.s 11) (.s 12)⟩,
    ⟨some 14, some (7, false), .pick (.s 10) (.s 13) (.c (.t (.bool false)))⟩,
    ⟨some 15, none, .pick (.s 7) (.c (.t (.bool true))) (.s 14)⟩] [] [0, 1, 15]) c35_2) c35_0)
def c35 : ACode :=
  (.seq (.region false [⟨some 4, none, .cst (.t (.int .i64 0))⟩] [] [0, 1]) c35_3)
def r35 : List ARes := [.tmp 4]
def n35 : Nat := 18
/- 36 (*supergraph reach.numbers).round -/
def c36_0 : ACode :=
  (.seq (.region false [⟨some 84, none, .mv (.s 3)⟩,
    ⟨some 2, none, .mv (.s 84)⟩] [] [2]) .ret)
def c36_1 : ACode :=
  (.region false [⟨some 83, none, .bin .add (.s 50) (.c (.t (.int .i64 1)))⟩,
    ⟨some 50, none, .mv (.s 83)⟩] [] [0, 3, 48, 49, 50])
def c36_2 : ACode :=
  (.region true [⟨some 74, none, .mv (.s 0)⟩,
    ⟨some 75, none, .nilck (.s 74)⟩,
    ⟨some 76, none, .fa 8 (.s 75)⟩,
    ⟨some 77, none, .ld false 1 (.s 76)⟩,
    ⟨some 78, none, .fa 1 (.s 8)⟩,
    ⟨some 79, none, .ld false 1 (.s 78)⟩,
    ⟨some 80, none, .mv (.s 9)⟩,
    ⟨some 81, none, .nw (.ment [.str] false (.t (.int .i64 0)) (.s 77) (.s 79))⟩,
    ⟨some 82, none, .ext (.s 81) 1⟩,
    ⟨none, none, .nw (.ests (.s 77) (.s 82) (.s 80))⟩,
    ⟨some 3, none, .cst (.t (.bool true))⟩] [[], [0], [1], [2], [], [4], [], [3, 5], [7], [3, 8, 6, 7, 0, 1, 2, 3, 4, 5, 6, 7], [9, 0, 1, 2, 3, 4, 5, 6, 7, 8, 9]] [0, 3, 48, 49, 50])
def c36_3 : ACode :=
  (.cond (.s 73) c36_2 .skip)
def c36_4 : ACode :=
  (.seq (.region true [⟨some 65, none, .mv (.s 9)⟩,
    ⟨some 66, none, .mv (.s 0)⟩,
    ⟨some 67, none, .nilck (.s 66)⟩,
    ⟨some 68, none, .fa 8 (.s 67)⟩,
    ⟨some 69, none, .ld false 1 (.s 68)⟩,
    ⟨some 70, none, .fa 1 (.s 8)⟩,
    ⟨some 71, none, .ld false 1 (.s 70)⟩,
    ⟨some 72, none, .nw (.lookup [.str] false (.t (.int .i64 0)) false (.s 69) (.s 71))⟩,
    ⟨some 73, none, .bin .neq (.s 65) (.s 72)⟩] [[], [], [1], [2], [3], [], [5], [4, 6], [0, 7]] [0, 3, 8, 9, 48, 49, 50, 73]) c36_3)
def c36_5 : ACode :=
  (.seq (.region true [⟨some 54, none, .mv (.s 0)⟩,
    ⟨some 55, none, .nilck (.s 54)⟩,
    ⟨some 56, none, .fa 8 (.s 55)⟩,
    ⟨some 57, none, .ld false 1 (.s 56)⟩,
    ⟨some 58, none, .fa 1 (.s 8)⟩,
    ⟨some 59, none, .ld false 1 (.s 58)⟩,
    ⟨some 60, none, .nw (.lookup [.str] false (.t (.int .i64 0)) false (.s 57) (.s 59))⟩,
    ⟨some 61, none, .mv (.s 0)⟩,
    ⟨some 62, none, .ld true 6 (.s 8)⟩,
    ⟨some 63, none, .call 29 [(.s 61), (.s 62)]⟩,
    ⟨some 64, none, .call 35 [(.s 60), (.s 63)]⟩,
    ⟨some 9, none, .mv (.s 64)⟩] [[], [0], [1], [2], [], [4], [3, 5], [], [], [7, 8], [6, 9, 9], [10, 10, 0, 1, 2, 3, 4, 5, 6, 7, 8, 9, 10]] [0, 3, 8, 9, 48, 49, 50]) c36_4)
def c36_6 : ACode :=
  (.seq (.region false [⟨some 52, none, .ia 6 (.s 48) (.s 50)⟩,
    ⟨some 53, none, .ld true 6 (.s 52)⟩,
    ⟨some 8, none, .alloc [.t (.str []), .t (.str []), .t (.int .i64 0), .t (.bool false), .nils, .nils]⟩,
    ⟨none, none, .st 6 (.s 8) (.s 53)⟩] [] [0, 3, 8, 48, 49, 50]) c36_5)
def c36_7 : ACode :=
  (.seq (.block 3 c36_6) c36_1)
def c36_8 : ACode :=
  (.seq (.cond (.s 51) .skip (.exit 2)) c36_7)
def c36_9 : ACode :=
  (.seq (.region false [⟨some 51, none, .bin .lss (.s 50) (.s 49)⟩] [] [0, 3, 48, 49, 50, 51]) c36_8)
def c36_10 : ACode :=
  (.loop c36_9)
def c36_11 : ACode :=
  (.block 2 c36_10)
def c36_12 : ACode :=
  (.seq (.seq (.region false [⟨some 45, none, .mv (.s 0)⟩,
    ⟨some 46, none, .nilck (.s 45)⟩,
    ⟨some 47, none, .fa 5 (.s 46)⟩,
    ⟨some 48, none, .ld false 1 (.s 47)⟩,
    ⟨some 49, none, .len (.s 48)⟩,
    ⟨some 50, none, .cst (.t (.int .i64 0))⟩] [] [0, 3, 48, 49, 50]) c36_11) c36_0)
def c36_13 : ACode :=
  (.region false [⟨some 44, none, .bin .add (.s 16) (.c (.t (.int .i64 1)))⟩,
    ⟨some 16, none, .mv (.s 44)⟩] [] [0, 3, 15, 16])
def c36_14 : ACode :=
  (.region false [⟨some 39, none, .mv (.s 0)⟩,
    ⟨some 40, none, .mv (.s 4)⟩,
    ⟨some 41, none, .call 26 [(.s 39), (.s 40)]⟩,
    ⟨some 42, none, .mv (.s 6)⟩,
    ⟨some 43, none, .nilck (.s 41)⟩,
    ⟨none, none, .st 1 (.s 43) (.s 42)⟩,
    ⟨some 3, none, .cst (.t (.bool true))⟩] [] [0, 3, 15, 16])
def c36_15 : ACode :=
  (.cond (.s 38) c36_14 .skip)
def c36_16 : ACode :=
  (.seq (.region false [⟨some 32, none, .mv (.s 6)⟩,
    ⟨some 33, none, .mv (.s 0)⟩,
    ⟨some 34, none, .mv (.s 4)⟩,
    ⟨some 35, none, .call 26 [(.s 33), (.s 34)]⟩,
    ⟨some 36, none, .nilck (.s 35)⟩,
    ⟨some 37, none, .ld false 1 (.s 36)⟩,
    ⟨some 38, none, .bin .neq (.s 32) (.s 37)⟩] [] [0, 3, 4, 6, 15, 16, 38]) c36_15)
def c36_17 : ACode :=
  (.seq (.region false [⟨some 24, none, .mv (.s 0)⟩,
    ⟨some 25, none, .mv (.s 4)⟩,
    ⟨some 26, none, .call 26 [(.s 24), (.s 25)]⟩,
    ⟨some 27, none, .nilck (.s 26)⟩,
    ⟨some 28, none, .ld false 1 (.s 27)⟩,
    ⟨some 29, none, .mv (.s 5)⟩,
    ⟨some 30, none, .bin .add (.s 29) (.c (.t (.int .i64 1)))⟩,
    ⟨some 31, none, .call 35 [(.s 28), (.s 30)]⟩,
    ⟨some 6, none, .mv (.s 31)⟩] [] [0, 3, 4, 6, 15, 16]) c36_16)
def c36_18 : ACode :=
  (.cond (.s 23) c36_17 .skip)
def c36_19 : ACode :=
  (.seq (.region false [⟨some 22, none, .mv (.s 5)⟩,
    ⟨some 23, none, .bin .gtr (.s 22) (.c (.t (.int .i64 0)))⟩] [] [0, 3, 4, 5, 15, 16, 23]) c36_18)
def c36_20 : ACode :=
  (.seq (.region false [⟨some 19, none, .mv (.s 0)⟩,
    ⟨some 20, none, .mv (.s 4)⟩,
    ⟨some 21, none, .call 40 [(.s 19), (.s 20)]⟩,
    ⟨some 5, none, .mv (.s 21)⟩] [] [0, 3, 4, 5, 15, 16]) c36_19)
def c36_21 : ACode :=
  (.seq (.region false [⟨some 18, none, .mv (.s 16)⟩,
    ⟨some 4, none, .mv (.s 18)⟩] [] [0, 3, 4, 15, 16]) c36_20)
def c36_22 : ACode :=
  (.seq (.block 1 c36_21) c36_13)
def c36_23 : ACode :=
  (.seq (.cond (.s 17) .skip (.exit 0)) c36_22)
def c36_24 : ACode :=
  (.seq (.region false [⟨some 17, none, .bin .lss (.s 16) (.s 15)⟩] [] [0, 3, 15, 16, 17]) c36_23)
def c36_25 : ACode :=
  (.loop c36_24)
def c36_26 : ACode :=
  (.block 0 c36_25)
def c36_27 : ACode :=
  (.seq (.seq (.region false [⟨some 10, none, .mv (.s 0)⟩,
    ⟨some 11, none, .nilck (.s 10)⟩,
    ⟨some 12, none, .fa 0 (.s 11)⟩,
    ⟨some 13, none, .fa 0 (.s 12)⟩,
    ⟨some 14, none, .ld false 1 (.s 13)⟩,
    ⟨some 15, none, .len (.s 14)⟩,
    ⟨some 16, none, .cst (.t (.int .i64 0))⟩] [] [0, 3, 15, 16]) c36_26) c36_12)
def c36_28 : ACode :=
  (.seq (.region false [⟨some 3, none, .cst (.t (.bool false))⟩] [] [0, 3]) c36_27)
def c36 : ACode :=
  (.seq (.region false [⟨some 2, none, .cst (.t (.bool false))⟩] [] [0]) c36_28)
def r36 : List ARes := [.tmp 2]
def n36 : Nat := 85
/- 37 (*supergraph supergraphref26.table).join -/
def c37_0 : ACode :=
  (.seq (.region false [⟨some 77, none, .mv (.s 7)⟩,
    ⟨some 78, none, .mv (.s 8)⟩,
    ⟨some 79, none, .maxi (.s 77) (.s 78)⟩,
    ⟨some 80, none, .bin .add (.c (.t (.int .i64 1))) (.s 79)⟩,
    ⟨some 4, none, .mv (.s 80)⟩] [] [4]) .ret)
def c37_1 : ACode :=
  (.seq (.region false [⟨some 4, none, .cst (.t (.int .i64 0))⟩] [] [4]) .ret)
def c37_2 : ACode :=
  (.cond (.s 76) c37_1 .skip)
def c37_3 : ACode :=
  (.seq (.seq (.region false [⟨some 71, none, .mv (.s 7)⟩,
    ⟨some 72, none, .bin .eql (.s 71) (.c (.t (.int .i64 0)))⟩,
    ⟨some 73, none, .mv (.s 72)⟩,
    ⟨some 74, some (73, false), .mv (.s 8)⟩,
    ⟨some 75, some (73, false), .bin .eql (.s 74) (.c (.t (.int .i64 0)))⟩,
    ⟨some 76, none, .pick (.s 73) (.c (.t (.bool true))) (.s 75)⟩] [] [7, 8, 76]) c37_2) c37_0)
def c37_4 : ACode :=
  (.seq (.region true [⟨some 63, none, .mv (.s 0)⟩,
    ⟨some 64, none, .fa 2 (.s 3)⟩,
    ⟨some 65, none, .ld false 1 (.s 64)⟩,
    ⟨some 66, none, .call 45 [(.s 63), (.s 65)]⟩,
    ⟨some 67, none, .mv (.s 0)⟩,
    ⟨some 68, none, .fa 4 (.s 3)⟩,
    ⟨some 69, none, .ld false 1 (.s 68)⟩,
    ⟨some 70, none, .call 46 [(.s 67), (.s 69)]⟩,
    ⟨some 7, none, .mv (.s 66)⟩,
    ⟨some 8, none, .mv (.s 70)⟩] [[], [], [1], [0, 2], [], [], [5], [4, 6, 3], [3, 7, 0, 1, 2, 3], [7, 8, 0, 1, 2, 3, 4, 5, 6, 7, 8]] [7, 8]) c37_3)
def c37_5 : ACode :=
  (.seq (.region false [⟨some 59, none, .mv (.s 0)⟩,
    ⟨some 60, none, .fa 2 (.s 3)⟩,
    ⟨some 61, none, .ld false 1 (.s 60)⟩,
    ⟨some 62, none, .call 38 [(.s 59), (.s 61)]⟩,
    ⟨some 4, none, .mv (.s 62)⟩] [] [4]) .ret)
def c37_6 : ACode :=
  (.cond (.s 58) c37_5 .skip)
def c37_7 : ACode :=
  (.seq (.seq (.region false [⟨some 55, none, .fa 4 (.s 3)⟩,
    ⟨some 56, none, .ld false 1 (.s 55)⟩,
    ⟨some 57, none, .len (.s 56)⟩,
    ⟨some 58, none, .bin .eql (.s 57) (.c (.t (.int .i64 0)))⟩] [] [0, 3, 58]) c37_6) c37_4)
def c37_8 : ACode :=
  (.seq (.region false [⟨some 54, none, .mv (.s 5)⟩,
    ⟨some 4, none, .mv (.s 54)⟩] [] [4]) .ret)
def c37_9 : ACode :=
  (.region false [⟨some 18, none, .mv (.s 6)⟩,
    ⟨some 19, none, .bin .add (.s 18) (.c (.t (.int .i64 1)))⟩,
    ⟨some 6, none, .mv (.s 19)⟩] [] [0, 3, 5, 6])
def c37_10 : ACode :=
  (.region false [⟨some 44, none, .mv (.s 5)⟩,
    ⟨some 45, none, .mv (.s 0)⟩,
    ⟨some 46, none, .nilck (.s 45)⟩,
    ⟨some 47, none, .fa 3 (.s 46)⟩,
    ⟨some 48, none, .ld false 1 (.s 47)⟩,
    ⟨some 49, none, .mv (.s 6)⟩,
    ⟨some 50, none, .ia 3 (.s 48) (.s 49)⟩,
    ⟨some 51, none, .fa 1 (.s 50)⟩,
    ⟨some 52, none, .ld false 1 (.s 51)⟩,
    ⟨some 53, none, .call 42 [(.s 44), (.s 52)]⟩,
    ⟨some 5, none, .mv (.s 53)⟩] [] [0, 3, 5, 6])
def c37_11 : ACode :=
  (.cond (.s 43) c37_10 .skip)
def c37_12 : ACode :=
  (.seq (.region true [⟨some 20, none, .mv (.s 0)⟩,
    ⟨some 21, none, .nilck (.s 20)⟩,
    ⟨some 22, none, .fa 3 (.s 21)⟩,
    ⟨some 23, none, .ld false 1 (.s 22)⟩,
    ⟨some 24, none, .mv (.s 6)⟩,
    ⟨some 25, none, .ia 3 (.s 23) (.s 24)⟩,
    ⟨some 26, none, .fa 0 (.s 25)⟩,
    ⟨some 27, none, .ld false 1 (.s 26)⟩,
    ⟨some 28, none, .fa 2 (.s 3)⟩,
    ⟨some 29, none, .ld false 1 (.s 28)⟩,
    ⟨some 30, none, .bin .eql (.s 27) (.s 29)⟩,
    ⟨some 31, none, .mv (.s 30)⟩,
    ⟨some 32, some (31, true), .mv (.s 0)⟩,
    ⟨some 33, some (31, true), .nilck (.s 32)⟩,
    ⟨some 34, some (31, true), .fa 3 (.s 33)⟩,
    ⟨some 35, some (31, true), .ld false 1 (.s 34)⟩,
    ⟨some 36, some (31, true), .mv (.s 6)⟩,
    ⟨some 37, some (31, true), .ia 3 (.s 35) (.s 36)⟩,
    ⟨some 38, some (31, true), .fa 2 (.s 37)⟩,
    ⟨some 39, some (31, true), .ld false 1 (.s 38)⟩,
    ⟨some 40, some (31, true), .fa 1 (.s 3)⟩,
    ⟨some 41, some (31, true), .ld false 1 (.s 40)⟩,
    ⟨some 42, some (31, true), .call 44 [(.s 39), (.s 41)]⟩,
    ⟨some 43, none, .pick (.s 31) (.s 42) (.c (.t (.bool false)))⟩] [[], [0], [1], [2], [], [3, 4], [5], [6], [], [8], [7, 9], [10], [11], [12, 11], [13, 11], [14, 11], [11], [15, 16, 11], [17, 11], [18, 11], [11], [20, 11], [19, 21, 11, 11], [11, 22]] [0, 3, 5, 6, 43]) c37_11)
def c37_13 : ACode :=
  (.seq (.block 1 c37_12) c37_9)
def c37_14 : ACode :=
  (.cond (.s 17) .skip (.exit 0))
def c37_15 : ACode :=
  (.seq (.seq (.region false [⟨some 11, none, .mv (.s 6)⟩,
    ⟨some 12, none, .mv (.s 0)⟩,
    ⟨some 13, none, .nilck (.s 12)⟩,
    ⟨some 14, none, .fa 3 (.s 13)⟩,
    ⟨some 15, none, .ld false 1 (.s 14)⟩,
    ⟨some 16, none, .len (.s 15)⟩,
    ⟨some 17, none, .bin .lss (.s 11) (.s 16)⟩] [] [0, 3, 5, 6, 17]) c37_14) c37_13)
def c37_16 : ACode :=
  (.loop c37_15)
def c37_17 : ACode :=
  (.block 0 c37_16)
def c37_18 : ACode :=
  (.seq (.seq (.region false [⟨some 6, none, .cst (.t (.int .i64 0))⟩] [] [0, 3, 5, 6]) c37_17) c37_8)
def c37_19 : ACode :=
  (.seq (.region false [⟨some 5, none, .cst (.t (.int .i64 0))⟩] [] [0, 3, 5]) c37_18)
def c37_20 : ACode :=
  (.cond (.s 10) c37_19 .skip)
def c37_21 : ACode :=
  (.seq (.seq (.region false [⟨some 9, none, .fa 3 (.s 3)⟩,
    ⟨some 10, none, .ld false 1 (.s 9)⟩] [] [0, 3, 10]) c37_20) c37_7)
def c37 : ACode :=
  (.seq (.region false [⟨some 3, none, .box 6 (.s 1)⟩,
    ⟨some 4, none, .cst (.t (.int .i64 0))⟩] [] [0, 3]) c37_21)
def r37 : List ARes := [.tmp 4]
def n37 : Nat := 81
/- 38 (*supergraph supergraphref26.table).graph -/
def c38_0 : ACode :=
  (.seq (.region false [⟨some 46, none, .mv (.s 5)⟩,
    ⟨some 4, none, .mv (.s 46)⟩] [] [4]) .ret)
def c38_1 : ACode :=
  (.region false [⟨some 40, none, .mv (.s 5)⟩,
    ⟨some 41, none, .mv (.s 0)⟩,
    ⟨some 42, none, .mv (.s 1)⟩,
    ⟨some 43, none, .call 45 [(.s 41), (.s 42)]⟩,
    ⟨some 44, none, .bin .add (.c (.t (.int .i64 1))) (.s 43)⟩,
    ⟨some 45, none, .call 42 [(.s 40), (.s 44)]⟩,
    ⟨some 5, none, .mv (.s 45)⟩] [] [5])
def c38_2 : ACode :=
  (.cond (.s 39) c38_1 .skip)
def c38_3 : ACode :=
  (.seq (.seq (.region false [⟨some 36, none, .mv (.s 0)⟩,
    ⟨some 37, none, .mv (.s 1)⟩,
    ⟨some 38, none, .call 45 [(.s 36), (.s 37)]⟩,
    ⟨some 39, none, .bin .gtr (.s 38) (.c (.t (.int .i64 0)))⟩] [] [0, 1, 5, 39]) c38_2) c38_0)
def c38_4 : ACode :=
  (.region false [⟨some 14, none, .mv (.s 6)⟩,
    ⟨some 15, none, .bin .add (.s 14) (.c (.t (.int .i64 1)))⟩,
    ⟨some 6, none, .mv (.s 15)⟩] [] [0, 1, 5, 6])
def c38_5 : ACode :=
  (.region false [⟨some 26, none, .mv (.s 5)⟩,
    ⟨some 27, none, .mv (.s 0)⟩,
    ⟨some 28, none, .nilck (.s 27)⟩,
    ⟨some 29, none, .fa 3 (.s 28)⟩,
    ⟨some 30, none, .ld false 1 (.s 29)⟩,
    ⟨some 31, none, .mv (.s 6)⟩,
    ⟨some 32, none, .ia 3 (.s 30) (.s 31)⟩,
    ⟨some 33, none, .fa 1 (.s 32)⟩,
    ⟨some 34, none, .ld false 1 (.s 33)⟩,
    ⟨some 35, none, .call 42 [(.s 26), (.s 34)]⟩,
    ⟨some 5, none, .mv (.s 35)⟩] [] [0, 1, 5, 6])
def c38_6 : ACode :=
  (.cond (.s 25) c38_5 .skip)
def c38_7 : ACode :=
  (.seq (.region false [⟨some 16, none, .mv (.s 0)⟩,
    ⟨some 17, none, .nilck (.s 16)⟩,
    ⟨some 18, none, .fa 3 (.s 17)⟩,
    ⟨some 19, none, .ld false 1 (.s 18)⟩,
    ⟨some 20, none, .mv (.s 6)⟩,
    ⟨some 21, none, .ia 3 (.s 19) (.s 20)⟩,
    ⟨some 22, none, .fa 0 (.s 21)⟩,
    ⟨some 23, none, .ld false 1 (.s 22)⟩,
    ⟨some 24, none, .mv (.s 1)⟩,
    ⟨some 25, none, .bin .eql (.s 23) (.s 24)⟩] [] [0, 1, 5, 6, 25]) c38_6)
def c38_8 : ACode :=
  (.seq (.block 1 c38_7) c38_4)
def c38_9 : ACode :=
  (.cond (.s 13) .skip (.exit 0))
def c38_10 : ACode :=
  (.seq (.seq (.region false [⟨some 7, none, .mv (.s 6)⟩,
    ⟨some 8, none, .mv (.s 0)⟩,
    ⟨some 9, none, .nilck (.s 8)⟩,
    ⟨some 10, none, .fa 3 (.s 9)⟩,
    ⟨some 11, none, .ld false 1 (.s 10)⟩,
    ⟨some 12, none, .len (.s 11)⟩,
    ⟨some 13, none, .bin .lss (.s 7) (.s 12)⟩] [] [0, 1, 5, 6, 13]) c38_9) c38_8)
def c38_11 : ACode :=
  (.loop c38_10)
def c38_12 : ACode :=
  (.block 0 c38_11)
def c38_13 : ACode :=
  (.seq (.seq (.region false [⟨some 6, none, .cst (.t (.int .i64 0))⟩] [] [0, 1, 5, 6]) c38_12) c38_3)
def c38_14 : ACode :=
  (.seq (.region false [⟨some 5, none, .cst (.t (.int .i64 0))⟩] [] [0, 1, 5]) c38_13)
def c38 : ACode :=
  (.seq (.region false [⟨some 4, none, .cst (.t (.int .i64 0))⟩] [] [0, 1]) c38_14)
def r38 : List ARes := [.tmp 4]
def n38 : Nat := 47
/- 39 slices.Contains[[]string,string] -/
def c39_0 : ACode :=
  (.seq (.region false [⟨some 5, none, .mv (.s 0)⟩,
    ⟨some 6, none, .mv (.s 1)⟩,
    ⟨some 7, none, .call 47 [(.s 5), (.s 6)]⟩,
    ⟨some 8, none, .bin .geq (.s 7) (.c (.t (.int .i64 0)))⟩,
    ⟨some 4, none, .mv (.s 8)⟩] [] [4]) .ret)
def c39 : ACode :=
  (.seq (.region false [⟨some 4, none, .cst (.t (.bool false))⟩] [] [0, 1]) c39_0)
def r39 : List ARes := [.tmp 4]
def n39 : Nat := 9
/- 40 (*supergraph reach.numbers).key -/
def c40_0 : ACode :=
  (.seq (.region false [⟨some 28, none, .mv (.s 5)⟩,
    ⟨some 4, none, .mv (.s 28)⟩] [] [4]) .ret)
def c40_1 : ACode :=
  (.region false [⟨some 27, none, .bin .add (.s 13) (.c (.t (.int .i64 1)))⟩,
    ⟨some 13, none, .mv (.s 27)⟩] [] [0, 1, 5, 11, 12, 13])
def c40_2 : ACode :=
  (.region false [⟨some 21, none, .mv (.s 5)⟩,
    ⟨some 22, none, .mv (.s 0)⟩,
    ⟨some 23, none, .fa 2 (.s 7)⟩,
    ⟨some 24, none, .ld false 1 (.s 23)⟩,
    ⟨some 25, none, .call 41 [(.s 22), (.s 24)]⟩,
    ⟨some 26, none, .call 35 [(.s 21), (.s 25)]⟩,
    ⟨some 5, none, .mv (.s 26)⟩] [] [0, 1, 5, 11, 12, 13])
def c40_3 : ACode :=
  (.cond (.s 20) c40_2 .skip)
def c40_4 : ACode :=
  (.seq (.region false [⟨some 17, none, .fa 1 (.s 7)⟩,
    ⟨some 18, none, .ld false 1 (.s 17)⟩,
    ⟨some 19, none, .mv (.s 1)⟩,
    ⟨some 20, none, .bin .eql (.s 18) (.s 19)⟩] [] [0, 1, 5, 7, 11, 12, 13, 20]) c40_3)
def c40_5 : ACode :=
  (.seq (.region false [⟨some 15, none, .ia 3 (.s 11) (.s 13)⟩,
    ⟨some 16, none, .ld true 3 (.s 15)⟩,
    ⟨some 7, none, .alloc [.t (.str []), .t (.int .i64 0), .nils]⟩,
    ⟨none, none, .st 3 (.s 7) (.s 16)⟩] [] [0, 1, 5, 7, 11, 12, 13]) c40_4)
def c40_6 : ACode :=
  (.seq (.block 1 c40_5) c40_1)
def c40_7 : ACode :=
  (.seq (.cond (.s 14) .skip (.exit 0)) c40_6)
def c40_8 : ACode :=
  (.seq (.region false [⟨some 14, none, .bin .lss (.s 13) (.s 12)⟩] [] [0, 1, 5, 11, 12, 13, 14]) c40_7)
def c40_9 : ACode :=
  (.loop c40_8)
def c40_10 : ACode :=
  (.block 0 c40_9)
def c40_11 : ACode :=
  (.seq (.seq (.region false [⟨some 8, none, .mv (.s 0)⟩,
    ⟨some 9, none, .nilck (.s 8)⟩,
    ⟨some 10, none, .fa 6 (.s 9)⟩,
    ⟨some 11, none, .ld false 1 (.s 10)⟩,
    ⟨some 12, none, .len (.s 11)⟩,
    ⟨some 13, none, .cst (.t (.int .i64 0))⟩] [] [0, 1, 5, 11, 12, 13]) c40_10) c40_0)
def c40_12 : ACode :=
  (.seq (.region false [⟨some 5, none, .cst (.t (.int .i64 0))⟩] [] [0, 1, 5]) c40_11)
def c40 : ACode :=
  (.seq (.region false [⟨some 4, none, .cst (.t (.int .i64 0))⟩] [] [0, 1]) c40_12)
def r40 : List ARes := [.tmp 4]
def n40 : Nat := 29
/- 41 (*supergraph reach.numbers).all -/
def c41_0 : ACode :=
  (.seq (.region false [⟨some 24, none, .mv (.s 5)⟩,
    ⟨some 4, none, .mv (.s 24)⟩] [] [4]) .ret)
def c41_1 : ACode :=
  (.region false [⟨some 23, none, .bin .add (.s 11) (.c (.t (.int .i64 1)))⟩,
    ⟨some 11, none, .mv (.s 23)⟩] [] [0, 5, 9, 10, 11])
def c41_2 : ACode :=
  (.region false [⟨some 20, none, .mv (.s 5)⟩,
    ⟨some 21, none, .mv (.s 8)⟩,
    ⟨some 22, none, .maxi (.s 20) (.s 21)⟩,
    ⟨some 5, none, .mv (.s 22)⟩] [] [0, 5, 9, 10, 11])
def c41_3 : ACode :=
  (.seq (.region false [⟨some 4, none, .cst (.t (.int .i64 0))⟩] [] [4]) .ret)
def c41_4 : ACode :=
  (.cond (.s 19) c41_3 .skip)
def c41_5 : ACode :=
  (.seq (.seq (.region false [⟨some 18, none, .mv (.s 8)⟩,
    ⟨some 19, none, .bin .eql (.s 18) (.c (.t (.int .i64 0)))⟩] [] [0, 5, 8, 9, 10, 11, 19]) c41_4) c41_2)
def c41_6 : ACode :=
  (.seq (.region false [⟨some 15, none, .mv (.s 0)⟩,
    ⟨some 16, none, .mv (.s 7)⟩,
    ⟨some 17, none, .call 28 [(.s 15), (.s 16)]⟩,
    ⟨some 8, none, .mv (.s 17)⟩] [] [0, 5, 8, 9, 10, 11]) c41_5)
def c41_7 : ACode :=
  (.seq (.region false [⟨some 13, none, .ia 1 (.s 9) (.s 11)⟩,
    ⟨some 14, none, .ld false 1 (.s 13)⟩,
    ⟨some 7, none, .mv (.s 14)⟩] [] [0, 5, 7, 9, 10, 11]) c41_6)
def c41_8 : ACode :=
  (.seq (.block 1 c41_7) c41_1)
def c41_9 : ACode :=
  (.seq (.cond (.s 12) .skip (.exit 0)) c41_8)
def c41_10 : ACode :=
  (.seq (.region false [⟨some 12, none, .bin .lss (.s 11) (.s 10)⟩] [] [0, 5, 9, 10, 11, 12]) c41_9)
def c41_11 : ACode :=
  (.loop c41_10)
def c41_12 : ACode :=
  (.block 0 c41_11)
def c41_13 : ACode :=
  (.seq (.seq (.region false [⟨some 9, none, .mv (.s 1)⟩,
    ⟨some 10, none, .len (.s 9)⟩,
    ⟨some 11, none, .cst (.t (.int .i64 0))⟩] [] [0, 5, 9, 10, 11]) c41_12) c41_0)
def c41_14 : ACode :=
  (.seq (.region false [⟨some 5, none, .cst (.t (.int .i64 0))⟩] [] [0, 1, 5]) c41_13)
def c41 : ACode :=
  (.seq (.region false [⟨some 4, none, .cst (.t (.int .i64 0))⟩] [] [0, 1]) c41_14)
def r41 : List ARes := [.tmp 4]
def n41 : Nat := 25
/- 42 supergraph supergraphref26.least -/
def c42_0 : ACode :=
  (.seq (.region false [⟨some 17, none, .mv (.s 0)⟩,
    ⟨some 4, none, .mv (.s 17)⟩] [] [4]) .ret)
def c42_1 : ACode :=
  (.seq (.region false [⟨some 16, none, .mv (.s 1)⟩,
    ⟨some 4, none, .mv (.s 16)⟩] [] [4]) .ret)
def c42_2 : ACode :=
  (.cond (.s 15) c42_1 .skip)
def c42_3 : ACode :=
  (.seq (.seq (.region false [⟨some 5, none, .mv (.s 0)⟩,
    ⟨some 6, none, .bin .eql (.s 5) (.c (.t (.int .i64 0)))⟩,
    ⟨some 7, none, .mv (.s 6)⟩,
    ⟨some 8, some (7, false), .mv (.s 1)⟩,
    ⟨some 9, some (7, false), .bin .gtr (.s 8) (.c (.t (.int .i64 0)))⟩,
    ⟨some 10, some (7, false), .mv (.s 9)⟩,
    ⟨some 11, some (10, true), .mv (.s 1)⟩,
    ⟨some 12, some (10, true), .mv (.s 0)⟩,
    ⟨some 13, some (10, true), .bin .lss (.s 11) (.s 12)⟩,
    ⟨some 14, some (7, false), .pick (.s 10) (.s 13) (.c (.t (.bool false)))⟩,
    ⟨some 15, none, .pick (.s 7) (.c (.t (.bool true))) (.s 14)⟩] [] [0, 1, 15]) c42_2) c42_0)
def c42 : ACode :=
  (.seq (.region false [⟨some 4, none, .cst (.t (.int .i64 0))⟩] [] [0, 1]) c42_3)
def r42 : List ARes := [.tmp 4]
def n42 : Nat := 18
/- 43 slices.IndexFunc[[]supergraph api.Join,supergraph api.Join] -/
def c43_0 : ACode :=
  (.seq (.region false [⟨some 4, none, .cst (.t (.int .i64 (-1)))⟩] [] [4]) .ret)
def c43_1 : ACode :=
  (.region false [⟨some 18, none, .bin .add (.s 8) (.c (.t (.int .i64 1)))⟩,
    ⟨some 8, none, .mv (.s 18)⟩] [] [0, 1, 7, 8])
def c43_2 : ACode :=
  (.seq (.region false [⟨some 17, none, .mv (.s 5)⟩,
    ⟨some 4, none, .mv (.s 17)⟩] [] [4]) .ret)
def c43_3 : ACode :=
  (.cond (.s 16) c43_2 .skip)
def c43_4 : ACode :=
  (.seq (.region false [⟨some 11, none, .mv (.s 1)⟩,
    ⟨some 12, none, .mv (.s 0)⟩,
    ⟨some 13, none, .mv (.s 5)⟩,
    ⟨some 14, none, .ia 6 (.s 12) (.s 13)⟩,
    ⟨some 15, none, .ld true 6 (.s 14)⟩,
    ⟨some 16, none, .callv (.s 11) [(.s 15)]⟩] [] [0, 1, 5, 7, 8, 16]) c43_3)
def c43_5 : ACode :=
  (.seq (.region false [⟨some 10, none, .mv (.s 8)⟩,
    ⟨some 5, none, .mv (.s 10)⟩] [] [0, 1, 5, 7, 8]) c43_4)
def c43_6 : ACode :=
  (.seq (.block 1 c43_5) c43_1)
def c43_7 : ACode :=
  (.seq (.cond (.s 9) .skip (.exit 0)) c43_6)
def c43_8 : ACode :=
  (.seq (.region false [⟨some 9, none, .bin .lss (.s 8) (.s 7)⟩] [] [0, 1, 7, 8, 9]) c43_7)
def c43_9 : ACode :=
  (.loop c43_8)
def c43_10 : ACode :=
  (.block 0 c43_9)
def c43_11 : ACode :=
  (.seq (.seq (.region false [⟨some 6, none, .mv (.s 0)⟩,
    ⟨some 7, none, .len (.s 6)⟩,
    ⟨some 8, none, .cst (.t (.int .i64 0))⟩] [] [0, 1, 7, 8]) c43_10) c43_0)
def c43 : ACode :=
  (.seq (.region false [⟨some 4, none, .cst (.t (.int .i64 0))⟩] [] [0, 1]) c43_11)
def r43 : List ARes := [.tmp 4]
def n43 : Nat := 19
/- 44 supergraph supergraphref26.has -/
def c44_0 : ACode :=
  (.seq (.region false [⟨some 4, none, .cst (.t (.bool false))⟩] [] [4]) .ret)
def c44_1 : ACode :=
  (.region false [⟨some 10, none, .mv (.s 5)⟩,
    ⟨some 11, none, .bin .add (.s 10) (.c (.t (.int .i64 1)))⟩,
    ⟨some 5, none, .mv (.s 11)⟩] [] [0, 1, 5])
def c44_2 : ACode :=
  (.seq (.region false [⟨some 4, none, .cst (.t (.bool true))⟩] [] [4]) .ret)
def c44_3 : ACode :=
  (.cond (.s 17) c44_2 .skip)
def c44_4 : ACode :=
  (.seq (.region false [⟨some 12, none, .mv (.s 0)⟩,
    ⟨some 13, none, .mv (.s 5)⟩,
    ⟨some 14, none, .ia 1 (.s 12) (.s 13)⟩,
    ⟨some 15, none, .ld false 1 (.s 14)⟩,
    ⟨some 16, none, .mv (.s 1)⟩,
    ⟨some 17, none, .bin .eql (.s 15) (.s 16)⟩] [] [0, 1, 5, 17]) c44_3)
def c44_5 : ACode :=
  (.seq (.block 1 c44_4) c44_1)
def c44_6 : ACode :=
  (.cond (.s 9) .skip (.exit 0))
def c44_7 : ACode :=
  (.seq (.seq (.region false [⟨some 6, none, .mv (.s 5)⟩,
    ⟨some 7, none, .mv (.s 0)⟩,
    ⟨some 8, none, .len (.s 7)⟩,
    ⟨some 9, none, .bin .lss (.s 6) (.s 8)⟩] [] [0, 1, 5, 9]) c44_6) c44_5)
def c44_8 : ACode :=
  (.loop c44_7)
def c44_9 : ACode :=
  (.block 0 c44_8)
def c44_10 : ACode :=
  (.seq (.seq (.region false [⟨some 5, none, .cst (.t (.int .i64 0))⟩] [] [0, 1, 5]) c44_9) c44_0)
def c44 : ACode :=
  (.seq (.region false [⟨some 4, none, .cst (.t (.bool false))⟩] [] [0, 1]) c44_10)
def r44 : List ARes := [.tmp 4]
def n44 : Nat := 18
/- 45 (*supergraph supergraphref26.table).key -/
def c45_0 : ACode :=
  (.seq (.region false [⟨some 38, none, .mv (.s 5)⟩,
    ⟨some 4, none, .mv (.s 38)⟩] [] [4]) .ret)
def c45_1 : ACode :=
  (.region false [⟨some 14, none, .mv (.s 6)⟩,
    ⟨some 15, none, .bin .add (.s 14) (.c (.t (.int .i64 1)))⟩,
    ⟨some 6, none, .mv (.s 15)⟩] [] [0, 1, 5, 6])
def c45_2 : ACode :=
  (.region false [⟨some 26, none, .mv (.s 5)⟩,
    ⟨some 27, none, .mv (.s 0)⟩,
    ⟨some 28, none, .mv (.s 0)⟩,
    ⟨some 29, none, .nilck (.s 28)⟩,
    ⟨some 30, none, .fa 2 (.s 29)⟩,
    ⟨some 31, none, .ld false 1 (.s 30)⟩,
    ⟨some 32, none, .mv (.s 6)⟩,
    ⟨some 33, none, .ia 3 (.s 31) (.s 32)⟩,
    ⟨some 34, none, .fa 2 (.s 33)⟩,
    ⟨some 35, none, .ld false 1 (.s 34)⟩,
    ⟨some 36, none, .call 46 [(.s 27), (.s 35)]⟩,
    ⟨some 37, none, .call 42 [(.s 26), (.s 36)]⟩,
    ⟨some 5, none, .mv (.s 37)⟩] [] [0, 1, 5, 6])
def c45_3 : ACode :=
  (.cond (.s 25) c45_2 .skip)
def c45_4 : ACode :=
  (.seq (.region false [⟨some 16, none, .mv (.s 0)⟩,
    ⟨some 17, none, .nilck (.s 16)⟩,
    ⟨some 18, none, .fa 2 (.s 17)⟩,
    ⟨some 19, none, .ld false 1 (.s 18)⟩,
    ⟨some 20, none, .mv (.s 6)⟩,
    ⟨some 21, none, .ia 3 (.s 19) (.s 20)⟩,
    ⟨some 22, none, .fa 1 (.s 21)⟩,
    ⟨some 23, none, .ld false 1 (.s 22)⟩,
    ⟨some 24, none, .mv (.s 1)⟩,
    ⟨some 25, none, .bin .eql (.s 23) (.s 24)⟩] [] [0, 1, 5, 6, 25]) c45_3)
def c45_5 : ACode :=
  (.seq (.block 1 c45_4) c45_1)
def c45_6 : ACode :=
  (.cond (.s 13) .skip (.exit 0))
def c45_7 : ACode :=
  (.seq (.seq (.region false [⟨some 7, none, .mv (.s 6)⟩,
    ⟨some 8, none, .mv (.s 0)⟩,
    ⟨some 9, none, .nilck (.s 8)⟩,
    ⟨some 10, none, .fa 2 (.s 9)⟩,
    ⟨some 11, none, .ld false 1 (.s 10)⟩,
    ⟨some 12, none, .len (.s 11)⟩,
    ⟨some 13, none, .bin .lss (.s 7) (.s 12)⟩] [] [0, 1, 5, 6, 13]) c45_6) c45_5)
def c45_8 : ACode :=
  (.loop c45_7)
def c45_9 : ACode :=
  (.block 0 c45_8)
def c45_10 : ACode :=
  (.seq (.seq (.region false [⟨some 6, none, .cst (.t (.int .i64 0))⟩] [] [0, 1, 5, 6]) c45_9) c45_0)
def c45_11 : ACode :=
  (.seq (.region false [⟨some 5, none, .cst (.t (.int .i64 0))⟩] [] [0, 1, 5]) c45_10)
def c45 : ACode :=
  (.seq (.region false [⟨some 4, none, .cst (.t (.int .i64 0))⟩] [] [0, 1]) c45_11)
def r45 : List ARes := [.tmp 4]
def n45 : Nat := 39
/- 46 (*supergraph supergraphref26.table).greatest -/
def c46_0 : ACode :=
  (.seq (.region false [⟨some 25, none, .mv (.s 5)⟩,
    ⟨some 4, none, .mv (.s 25)⟩] [] [4]) .ret)
def c46_1 : ACode :=
  (.region false [⟨some 12, none, .mv (.s 6)⟩,
    ⟨some 13, none, .bin .add (.s 12) (.c (.t (.int .i64 1)))⟩,
    ⟨some 6, none, .mv (.s 13)⟩] [] [0, 1, 5, 6])
def c46_2 : ACode :=
  (.region false [⟨some 22, none, .mv (.s 5)⟩,
    ⟨some 23, none, .mv (.s 7)⟩,
    ⟨some 24, none, .maxi (.s 22) (.s 23)⟩,
    ⟨some 5, none, .mv (.s 24)⟩] [] [0, 1, 5, 6])
def c46_3 : ACode :=
  (.seq (.region false [⟨some 4, none, .cst (.t (.int .i64 0))⟩] [] [4]) .ret)
def c46_4 : ACode :=
  (.cond (.s 21) c46_3 .skip)
def c46_5 : ACode :=
  (.seq (.seq (.region false [⟨some 20, none, .mv (.s 7)⟩,
    ⟨some 21, none, .bin .eql (.s 20) (.c (.t (.int .i64 0)))⟩] [] [0, 1, 5, 6, 7, 21]) c46_4) c46_2)
def c46_6 : ACode :=
  (.seq (.region false [⟨some 14, none, .mv (.s 0)⟩,
    ⟨some 15, none, .mv (.s 1)⟩,
    ⟨some 16, none, .mv (.s 6)⟩,
    ⟨some 17, none, .ia 1 (.s 15) (.s 16)⟩,
    ⟨some 18, none, .ld false 1 (.s 17)⟩,
    ⟨some 19, none, .call 30 [(.s 14), (.s 18)]⟩,
    ⟨some 7, none, .mv (.s 19)⟩] [] [0, 1, 5, 6, 7]) c46_5)
def c46_7 : ACode :=
  (.seq (.block 1 c46_6) c46_1)
def c46_8 : ACode :=
  (.cond (.s 11) .skip (.exit 0))
def c46_9 : ACode :=
  (.seq (.seq (.region false [⟨some 8, none, .mv (.s 6)⟩,
    ⟨some 9, none, .mv (.s 1)⟩,
    ⟨some 10, none, .len (.s 9)⟩,
    ⟨some 11, none, .bin .lss (.s 8) (.s 10)⟩] [] [0, 1, 5, 6, 11]) c46_8) c46_7)
def c46_10 : ACode :=
  (.loop c46_9)
def c46_11 : ACode :=
  (.block 0 c46_10)
def c46_12 : ACode :=
  (.seq (.seq (.region false [⟨some 6, none, .cst (.t (.int .i64 0))⟩] [] [0, 1, 5, 6]) c46_11) c46_0)
def c46_13 : ACode :=
  (.seq (.region false [⟨some 5, none, .cst (.t (.int .i64 0))⟩] [] [0, 1, 5]) c46_12)
def c46 : ACode :=
  (.seq (.region false [⟨some 4, none, .cst (.t (.int .i64 0))⟩] [] [0, 1]) c46_13)
def r46 : List ARes := [.tmp 4]
def n46 : Nat := 26
/- 47 slices.Index[[]string,string] -/
def c47_0 : ACode :=
  (.seq (.region false [⟨some 4, none, .cst (.t (.int .i64 (-1)))⟩] [] [4]) .ret)
def c47_1 : ACode :=
  (.region false [⟨some 18, none, .bin .add (.s 8) (.c (.t (.int .i64 1)))⟩,
    ⟨some 8, none, .mv (.s 18)⟩] [] [0, 1, 7, 8])
def c47_2 : ACode :=
  (.seq (.region false [⟨some 17, none, .mv (.s 5)⟩,
    ⟨some 4, none, .mv (.s 17)⟩] [] [4]) .ret)
def c47_3 : ACode :=
  (.cond (.s 16) c47_2 .skip)
def c47_4 : ACode :=
  (.seq (.region false [⟨some 11, none, .mv (.s 1)⟩,
    ⟨some 12, none, .mv (.s 0)⟩,
    ⟨some 13, none, .mv (.s 5)⟩,
    ⟨some 14, none, .ia 1 (.s 12) (.s 13)⟩,
    ⟨some 15, none, .ld false 1 (.s 14)⟩,
    ⟨some 16, none, .bin .eql (.s 11) (.s 15)⟩] [] [0, 1, 5, 7, 8, 16]) c47_3)
def c47_5 : ACode :=
  (.seq (.region false [⟨some 10, none, .mv (.s 8)⟩,
    ⟨some 5, none, .mv (.s 10)⟩] [] [0, 1, 5, 7, 8]) c47_4)
def c47_6 : ACode :=
  (.seq (.block 1 c47_5) c47_1)
def c47_7 : ACode :=
  (.seq (.cond (.s 9) .skip (.exit 0)) c47_6)
def c47_8 : ACode :=
  (.seq (.region false [⟨some 9, none, .bin .lss (.s 8) (.s 7)⟩] [] [0, 1, 7, 8, 9]) c47_7)
def c47_9 : ACode :=
  (.loop c47_8)
def c47_10 : ACode :=
  (.block 0 c47_9)
def c47_11 : ACode :=
  (.seq (.seq (.region false [⟨some 6, none, .mv (.s 0)⟩,
    ⟨some 7, none, .len (.s 6)⟩,
    ⟨some 8, none, .cst (.t (.int .i64 0))⟩] [] [0, 1, 7, 8]) c47_10) c47_0)
def c47 : ACode :=
  (.seq (.region false [⟨some 4, none, .cst (.t (.int .i64 0))⟩] [] [0, 1]) c47_11)
def r47 : List ARes := [.tmp 4]
def n47 : Nat := 19

end Go.GB.C26

/-
  GbY: calls of functions that are handed objects: the whole store goes along.
-/
namespace Go.GB
section
variable {P : Program}

/-- the labels behind a call that was handed the names below m -/
def L.backFrom (Λ : L) (m m' : Nat) (Λ' : L) : L where
  lab := fun b => if Λ.high m b then Λ.lab b else Λ'.lab b
  fro := fun k => if k < m' then Λ'.fro k else Λ.fro k
  nxt := Λ.nxt
  w := Λ'.w

theorem FnOk.same {f : FuncId} {vs : List V} {m : Nat} {sto : List (Nat × AObj)} {out : Out} (h : FnOk P f vs ⟨sto, m⟩ out) (hrd : out.rd = true) (hb : V.bds m vs = true) (hs : stoBd m sto = true) (hob : ∀ k o, (k, o) ∈ out.ob → aget sto k ≠ none ∨ (m ≤ k ∧ k < m + out.n)) : FnAt P f vs m sto out := by
  refine ⟨h.1, hob, fun Λ args hr hle hfree hsz hargs => ?_⟩
  refine (h.2 (Λ.hideFrom m) args (hr.hf hs) rfl hsz fun j v y h1 h2 => (hargs j v y h1 h2).hf (V.bds_at hb j y h2)).mono fun e w' he => ?_
  obtain ⟨v, Λ', rfl, rfl, k1, k2, k3, k4⟩ := he
  simp only at k2 k3
  have hlt : ∀ {b : Nat}, Λ.high m b = true → b < Λ.w.heap.size := by
    intro b hh
    rcases Nat.lt_or_ge b Λ.w.heap.size with h | h
    · exact h
    · unfold L.high at hh; rw [hr.new b h] at hh; simp at hh
  have hH : ∀ {b : Nat}, Λ.high m b = true → (Λ.backFrom m (m + out.n) Λ').lab b = Λ.lab b := fun h => by simp [L.backFrom, h]
  have hL : ∀ {b : Nat}, Λ.high m b = false → (Λ.backFrom m (m + out.n) Λ').lab b = Λ'.lab b := fun h => by simp [L.backFrom, h]
  have hheap : ∀ {b : Nat}, Λ.high m b = true → ∃ fr, Λ'.lab b = .fix (some fr) ∧ Λ'.w.heap[b]? = Λ.w.heap[b]? ∧ ((∃ k, Λ.lab b = .obj k ∧ m ≤ k ∧ fr = 0) ∨ ∃ k, Λ.lab b = .arr k fr ∧ m ≤ k) := by
    intro b hh
    obtain ⟨fr, e1, e2⟩ := hf_high hh
    obtain ⟨g1, g2⟩ := k1.fr.fix b (hlt hh) _ e1
    exact ⟨fr, g1, g2, e2⟩
  have hlow : ∀ {b k : Nat}, k < m → (Λ.lab b = .obj k ∨ ∃ n, Λ.lab b = .arr k n) → Λ.high m b = false := by
    intro b k hk hb
    unfold L.high
    rcases hb with hb | ⟨n, hb⟩ <;> rw [hb] <;> simp <;> omega
  have hkp : Kp Λ (Λ.backFrom m (m + out.n) Λ') := by
    refine ⟨⟨k1.fr.os, k1.fr.tape, k1.fr.output, k1.fr.size, fun b hb fr hl => ?_, fun b hb k fr hl o ho => ?_⟩, Nat.le_refl _, fun b k _ hl => ?_, fun b k n _ hb hl hf => ?_, fun k hk => ?_⟩
    · have hh : Λ.high m b = false := by unfold L.high; rw [hl]
      obtain ⟨g1, g2⟩ := k1.fr.fix b hb fr (by rw [hf_low hh]; exact hl)
      exact ⟨by rw [hL hh]; exact g1, g2⟩
    · cases hh : Λ.high m b with
      | true =>
        obtain ⟨fr', g1, g2, g3⟩ := hheap hh
        exact ⟨by unfold Rd; rw [hH hh, hl]; exact ho, cell?_heap g2⟩
      | false =>
        obtain ⟨g1, g2⟩ := k1.fr.arr b hb k fr (by rw [hf_low hh]; exact hl) o ho
        exact ⟨by unfold Rd; rw [hL hh]; exact g1, g2⟩
    · cases hh : Λ.high m b with
      | true => rw [hH hh]; exact hl
      | false =>
        have hk : k < m := by unfold L.high at hh; rw [hl] at hh; simpa using hh
        rw [hL hh]; exact k1.obj b k hk (hf_obj hl hk)
    · cases hh : Λ.high m b with
      | true =>
        obtain ⟨fr', g1, g2, g3⟩ := hheap hh
        exact ⟨by rw [hH hh]; exact hl, g2⟩
      | false =>
        have hk : k < m := by unfold L.high at hh; rw [hl] at hh; simpa using hh
        have e1 : (Λ.hideFrom m).fro k = Λ.fro k := by simp [L.hideFrom, hk]
        have e2 : (Λ.backFrom m (m + out.n) Λ').fro k = Λ'.fro k := by simp [L.backFrom]; omega
        obtain ⟨g1, g2⟩ := k1.own b k n hk hb (hf_arr hl hk) (by rw [← e2, hf, e1])
        exact ⟨by rw [hL hh]; exact g1, g2⟩
    · simp only [L.backFrom]
      by_cases h1 : k < m
      · have := k1.fro k h1
        have e1 : (Λ.hideFrom m).fro k = Λ.fro k := by simp [L.hideFrom, h1]
        rw [if_pos (by omega)]; omega
      · by_cases h2 : k < m + out.n
        · rw [if_pos h2, (hfree k (by omega) h2).2.1.fro]; omega
        · rw [if_neg h2]; exact Nat.le_refl _
  -- values of the callee, seen again by the caller
  have hobj : ∀ {b k : Nat}, Λ'.lab b = .obj k → (Λ.backFrom m (m + out.n) Λ').lab b = .obj k := by
    intro b k hb
    cases hh : Λ.high m b with
    | true => obtain ⟨fr, g1, _⟩ := hheap hh; rw [g1] at hb; simp at hb
    | false => rw [hL hh]; exact hb
  have harr : ∀ {b k n : Nat}, Λ'.lab b = .arr k n → (Λ.backFrom m (m + out.n) Λ').lab b = .arr k n := by
    intro b k n hb
    cases hh : Λ.high m b with
    | true => obtain ⟨fr, g1, _⟩ := hheap hh; rw [g1] at hb; simp at hb
    | false => rw [hL hh]; exact hb
  have hrep : ∀ {u : Value} {y : T}, RepT Λ'.lab Λ'.w u y → RepT (Λ.backFrom m (m + out.n) Λ').lab (Λ.backFrom m (m + out.n) Λ').w u y := by
    intro u y hy
    refine hy.keep fun b o _ _ hrd => ⟨?_, rfl⟩
    cases hh : Λ.high m b with
    | true =>
      obtain ⟨fr, g1, _, g3⟩ := hheap hh
      unfold Rd at hrd ⊢
      rw [g1] at hrd
      rw [hH hh]
      rcases g3 with ⟨k, e, _, rfl⟩ | ⟨k, e, _⟩
      · omega
      · rw [e]; exact hrd
    | false => unfold Rd; rw [hL hh]; exact hrd
  have hfro : ∀ {k : Nat}, k < Λ'.nxt → (Λ.backFrom m (m + out.n) Λ').fro k = Λ'.fro k := by
    intro k hk; rw [k2] at hk; simp [L.backFrom, hk]
  have hval : ∀ {u : Value} {y : V}, RelV Λ' u y → RelV (Λ.backFrom m (m + out.n) Λ') u y := by
    intro u y hy
    induction hy with
    | t h => exact .t (hrep h)
    | nils => exact .nils
    | @own v k sz xs h hsz hl hn ho =>
      refine .own (hrep h) hsz (by show k < Λ.nxt; omega) (by rw [hfro hl]; exact hn) fun he => ?_
      rcases ho (by rw [← hfro hl]; exact he) with ho | ⟨b, cap, arr, e, hv, hb', hh, hc, hn'⟩
      · exact .inl ho
      · exact .inr ⟨b, cap, arr, e, hv, harr hb', hh, hc, hn'⟩
    | slc hl hc h => exact .slc (by show _ < Λ.nxt; omega) hc (hobj h)
    | agg hs _ ih => exact .agg hs ih
    | tup hs _ ih => exact .tup hs ih
    | ptr hl h => exact .ptr (by show _ < Λ.nxt; omega) (hobj h)
    | mp hl h => exact .mp (by show _ < Λ.nxt; omega) (hobj h)
    | fn hs h => exact .fn hs fun j v c h1 h2 => let ⟨b, e1, e2, e3⟩ := h j v c h1 h2; ⟨b, e1, hobj e2, by show _ < Λ.nxt; omega⟩
    | gd _ h' ih => exact .gd ih h'
    | top => exact .top
    | ub h h' => exact .ub h h'
  have hname : ∀ {b k : Nat}, Λ.high m b = true → ((Λ.backFrom m (m + out.n) Λ').lab b = .obj k ∨ ∃ n, (Λ.backFrom m (m + out.n) Λ').lab b = .arr k n) → m + out.n ≤ k ∧ (Λ.lab b = .obj k ∨ ∃ n, Λ.lab b = .arr k n) := by
    intro b k hh hb
    rw [hH hh] at hb
    refine ⟨?_, hb⟩
    have hge : m ≤ k := by unfold L.high at hh; rcases hb with hb | ⟨n, hb⟩ <;> rw [hb] at hh <;> simpa using hh
    rcases Nat.lt_or_ge k (m + out.n) with h | h
    · have := (hfree k hge h).2.1
      rcases hb with hb | ⟨n, hb⟩
      · exact absurd hb (this.obj b)
      · exact absurd hb (this.arr b n)
    · exact h
  have hlowname : ∀ {b k : Nat}, Λ.high m b = false → ((Λ.backFrom m (m + out.n) Λ').lab b = .obj k ∨ ∃ n, (Λ.backFrom m (m + out.n) Λ').lab b = .arr k n) → k < m + out.n ∧ (Λ'.lab b = .obj k ∨ ∃ n, Λ'.lab b = .arr k n) := by
    intro b k hh hb
    rw [hL hh] at hb
    have := k3.bnd b k hb
    exact ⟨by omega, hb⟩
  refine ⟨v, Λ.backFrom m (m + out.n) Λ', rfl, rfl, hkp, rfl, ?_, hval k4, fun k hk hn hcase => ?_⟩
  · refine ⟨fun k o ho => ?_, fun b b' k h1 h2 => ?_, fun b hb => ?_, fun b k hb => ?_, fun k hk => ?_⟩
    · obtain ⟨g1, g2⟩ := k3.sto k o ho
      refine ⟨by show k < Λ.nxt; omega, ?_⟩
      cases o with
      | cells cs =>
        obtain ⟨b, arr, e, e1, e2, e3, e4⟩ := g2
        exact ⟨b, arr, e, hobj e1, e2, e3, fun j v c a1 a2 => hval (e4 j v c a1 a2)⟩
      | map kag es sx =>
        obtain ⟨b, ents, clock, e1, e2, e3⟩ := g2
        exact ⟨b, ents, clock, hobj e1, e2, e3.keep (fun _ _ h => hrep h) (fun _ _ _ _ h => hval h)⟩
      | arr n => unfold RelO at *; rw [hfro g1]; exact g2
    · cases hh : Λ.high m b with
      | true =>
        obtain ⟨q1, q2⟩ := hname hh (.inl h1)
        cases hh' : Λ.high m b' with
        | true =>
          rw [hH hh] at h1; rw [hH hh'] at h2
          exact hr.inj b b' k h1 h2
        | false => have := (hlowname hh' (.inl h2)).1; omega
      | false =>
        have q := (hlowname hh (.inl h1)).1
        cases hh' : Λ.high m b' with
        | true => have := (hname hh' (.inl h2)).1; omega
        | false => rw [hL hh] at h1; rw [hL hh'] at h2; exact k3.inj b b' k h1 h2
    · have hge : Λ.w.heap.size ≤ b := Nat.le_trans k1.fr.size hb
      have hh : Λ.high m b = false := by unfold L.high; rw [hr.new b hge]
      rw [hL hh]; exact k3.new b hb
    · show k < Λ.nxt
      cases hh : Λ.high m b with
      | true => exact hr.bnd b k (hname hh hb).2
      | false => have := (hlowname hh hb).1; omega
    · have hk' : Λ.nxt ≤ k := hk
      simp only [L.backFrom]
      rw [if_neg (by omega)]; exact hr.frz k hk'
  · rcases hcase with hge | ⟨hlt', hrd'⟩
    · refine ⟨fun b hb => ?_, fun b n hb => ?_, ?_⟩
      · cases hh : Λ.high m b with
        | true => rw [hH hh] at hb; exact hk.obj b hb
        | false => have := (hlowname hh (.inl hb)).1; omega
      · cases hh : Λ.high m b with
        | true => rw [hH hh] at hb; exact hk.arr b n hb
        | false => have := (hlowname hh (.inr ⟨n, hb⟩)).1; omega
      · simp only [L.backFrom]; rw [if_neg (by omega)]; exact hk.fro
    · rw [hrd] at hrd'; cases hrd'

/-- a call that is handed the whole store and leaves it as it is -/
theorem callSame {f : FuncId} {vs : List V} {x : V} {base : Nat} {sto : List (Nat × AObj)} {K : Out → Prop} (h : FnOk P f vs ⟨sto, base⟩ { v := x, rd := true }) (hb : V.bds base vs = true) (hs : stoBd base sto = true) (hk : K { v := x, rd := true }) : FnEv P f vs base sto K :=
  ⟨_, by simp only [if_true]; exact h.same rfl hb hs (by simp), hk⟩

/-- a call that changes objects -/
theorem callChg {f : FuncId} {vs : List V} {out : Out} {base : Nat} {sto : List (Nat × AObj)} {K : Out → Prop} (h : FnOk P f vs ⟨sto, base⟩ out) (hrd : out.rd = true) (hb : V.bds base vs = true) (hs : stoBd base sto = true) (hob : ∀ k o, (k, o) ∈ out.ob → aget sto k ≠ none ∨ (base ≤ k ∧ k < base + out.n)) (hk : K out) : FnEv P f vs base sto K :=
  ⟨_, by simp only [hrd, if_true]; exact h.same hrd hb hs hob, hk⟩

/-- a library function of which a contract says that it leaves the world -/
theorem FnOk.of_calls {f : FuncId} {vs : List V} {s : S} {x : V} {rd : Bool} (hb : HasB P f) (h : ∀ (Λ : L) (args : Array Value), RelS Λ s → args.size = vs.length → (∀ (j : Nat) (v : Value) (y : V), args[j]? = some v → vs[j]? = some y → RelV Λ v y) → ∃ r, RelV Λ r x ∧ Calls P f args Λ.w fun e w' => e = .returned r ∧ w' = Λ.w) (hs : s.sto = [] ) : FnOk P f vs s { v := x, rd := rd } := by
  refine ⟨hb, fun Λ args hr hx hsz hargs => ?_⟩
  obtain ⟨r, h1, h2⟩ := h Λ args hr hsz hargs
  refine h2.mono fun e w' he => ?_
  obtain ⟨rfl, rfl⟩ := he
  exact ⟨r, Λ, rfl, rfl, Kp.refl _, by simp [hx], ⟨by simp [hs, asets, aget], hr.inj, hr.new, hr.bnd, hr.frz⟩, h1⟩

end
end Go.GB

/-
  GbYe: objects that are lists, and maps of a type, without names in them.
-/
namespace Go.GB
def mE {κ ν : Type} (ek : κ → List T) (ev : ν → T) (l : List (κ × ν)) : List (List T × V) := l.map fun e => (ek e.1, .t (ev e.2))
def cE {ν : Type} (ev : ν → T) (l : List ν) : List V := l.map fun x => .t (ev x)
theorem V.bds_cE {ν : Type} (m : Nat) (ev : ν → T) : ∀ (l : List ν), V.bds m (cE ev l) = true
  | [] => rfl
  | x :: r => by have := V.bds_cE m ev r; simp only [cE] at this; simp [cE, V.bds, V.bd, this]
theorem AObj.bd_cE {ν : Type} (m : Nat) (ev : ν → T) (l : List ν) : (AObj.cells (cE ev l)).bd m = true := V.bds_cE m ev l
theorem AObj.bd_mE {κ ν : Type} (m : Nat) (kag : Bool) (ek : κ → List T) (ev : ν → T) (l : List (κ × ν)) (sx : Option (Nat × List Nat)) : (AObj.map kag (mE ek ev l) sx).bd m = true := by
  have := V.bds_cE m (fun e : κ × ν => ev e.2) l
  simp only [cE] at this
  simp only [AObj.bd, mE, List.map_map, Function.comp_def]; exact this
theorem LeXs.cE {ν : Type} {m m' : Nat} {ev : ν → T} {l l' : List ν} (h : l = l') : LeXs m m' (cE ev l) (cE ev l') := h ▸ .same (V.bds_cE m ev l)
theorem LeO.cE {ν : Type} {m m' : Nat} {ev : ν → T} {l l' : List ν} (h : l = l') : LeO m m' (.cells (cE ev l)) (.cells (cE ev l')) := .cells (.cE h)
theorem LeO.mE {κ ν : Type} {m m' : Nat} {kag : Bool} {ek : κ → List T} {ev : ν → T} {l l' : List (κ × ν)} {sx sx' : Option (Nat × List Nat)} (h : l = l') (hs : sx' = none ∨ sx' = sx) : LeO m m' (.map kag (mE ek ev l) sx) (.map kag (mE ek ev l') sx') := by
  subst h
  have := V.bds_cE m (fun e : κ × ν => ev e.2) l
  simp only [Go.GB.cE] at this
  exact .map rfl (by simp only [Go.GB.mE, List.map_map, Function.comp_def]; exact .same this) hs

end Go.GB
