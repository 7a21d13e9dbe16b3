/-
  YtilonlfmalfofaaP3: lemmas of this proof (part 3). No conditions.
-/
import Derived.Test.YtilonlfmalfofaaP2

/-
  C43Code: the code of some functions as abstract code (printed by program).
-/
namespace Go.GB.C43
open Go.GB
/- 3 supergraph supergraphlaw43.AuthMay -/
def c3_0 : ACode :=
  (.seq (.region true [⟨some 13, none, .ld true 1 (.s 4)⟩,
    ⟨some 14, none, .mv (.s 1)⟩,
    ⟨some 15, none, .mv (.s 2)⟩,
    ⟨some 16, none, .ld true 2 (.s 7)⟩,
    ⟨some 17, none, .call 15 [(.s 13), (.s 14), (.s 15), (.s 16)]⟩,
    ⟨some 18, none, .ld true 1 (.s 4)⟩,
    ⟨some 19, none, .mv (.s 1)⟩,
    ⟨some 20, none, .mv (.s 2)⟩,
    ⟨some 21, none, .ld true 2 (.s 7)⟩,
    ⟨some 22, none, .call 16 [(.s 18), (.s 19), (.s 20), (.s 21)]⟩,
    ⟨some 23, none, .eqb false (.s 17) (.s 22)⟩,
    ⟨some 24, none, .mv (.s 23)⟩,
    ⟨some 25, some (24, true), .ld true 1 (.s 4)⟩,
    ⟨some 26, some (24, true), .mv (.s 1)⟩,
    ⟨some 27, some (24, true), .ld true 2 (.s 7)⟩,
    ⟨some 28, some (24, true), .call 17 [(.s 25), (.s 26), (.s 27)]⟩,
    ⟨some 29, some (24, true), .ld true 1 (.s 4)⟩,
    ⟨some 30, some (24, true), .mv (.s 1)⟩,
    ⟨some 31, some (24, true), .ld true 2 (.s 7)⟩,
    ⟨some 32, some (24, true), .call 18 [(.s 29), (.s 30), (.s 31)]⟩,
    ⟨some 33, some (24, true), .eqb false (.s 28) (.s 32)⟩,
    ⟨some 34, none, .pick (.s 24) (.s 33) (.c (.t (.bool false)))⟩,
    ⟨some 35, none, .mv (.s 34)⟩,
    ⟨some 36, some (35, true), .call 14 []⟩,
    ⟨some 37, none, .pick (.s 35) (.s 36) (.c (.t (.bool false)))⟩,
    ⟨some 8, none, .mv (.s 37)⟩] [[], [], [], [], [0, 1, 2, 3], [], [], [], [], [5, 6, 7, 8, 4], [4, 9], [10, 9], [11], [11], [11], [12, 13, 14, 11, 11], [11], [11], [11], [16, 17, 18, 15, 11], [15, 19, 11], [11, 20], [21, 19], [22, 22], [22, 23], [24, 23, 0, 1, 2, 3, 4, 5, 6, 7, 8, 9, 10, 11, 12, 13, 14, 15, 16, 17, 18, 19, 20, 21, 22, 23, 24]] [8]) .ret)
def c3_1 : ACode :=
  (.seq (.region false [⟨some 12, none, .call 14 []⟩,
    ⟨some 8, none, .mv (.s 12)⟩] [] [8]) .ret)
def c3_2 : ACode :=
  (.cond (.s 11) c3_1 .skip)
def c3_3 : ACode :=
  (.seq (.seq (.region false [⟨some 9, none, .ld true 1 (.s 4)⟩,
    ⟨some 10, none, .ld true 2 (.s 7)⟩,
    ⟨some 11, none, .call 13 [(.s 9), (.c (.nils)), (.s 10)]⟩] [] [1, 2, 4, 7, 11]) c3_2) c3_0)
def c3 : ACode :=
  (.seq (.region false [⟨some 4, none, .box 1 (.s 0)⟩,
    ⟨some 7, none, .box 2 (.s 3)⟩,
    ⟨some 8, none, .cst (.t (.bool false))⟩] [] [1, 2, 4, 7]) c3_3)
def r3 : List ARes := [.tmp 8]
def n3 : Nat := 38
/- 4 supergraph supergraphlaw43.AuthFilters -/
def c4_0 : ACode :=
  (.seq (.region false [⟨some 35, none, .mv (.s 3)⟩,
    ⟨some 36, none, .mv (.s 5)⟩,
    ⟨some 37, none, .call 21 [(.s 35), (.s 36)]⟩,
    ⟨some 38, none, .mv (.s 37)⟩,
    ⟨some 39, some (38, true), .mv (.s 4)⟩,
    ⟨some 40, some (38, true), .mv (.s 6)⟩,
    ⟨some 41, some (38, true), .call 22 [(.s 39), (.s 40)]⟩,
    ⟨some 42, none, .pick (.s 38) (.s 41) (.c (.t (.bool false)))⟩,
    ⟨some 43, none, .mv (.s 42)⟩,
    ⟨some 44, some (43, true), .call 14 []⟩,
    ⟨some 45, none, .pick (.s 43) (.s 44) (.c (.t (.bool false)))⟩,
    ⟨some 2, none, .mv (.s 45)⟩] [] [2]) .ret)
def c4_1 : ACode :=
  (.seq (.region false [⟨some 26, none, .fa 0 (.s 1)⟩,
    ⟨some 27, none, .ld true 1 (.s 26)⟩,
    ⟨some 28, none, .fa 1 (.s 1)⟩,
    ⟨some 29, none, .ld false 1 (.s 28)⟩,
    ⟨some 30, none, .fa 2 (.s 1)⟩,
    ⟨some 31, none, .ld true 2 (.s 30)⟩,
    ⟨some 32, none, .call 20 [(.s 27), (.s 29), (.s 31)]⟩,
    ⟨some 25, none, .mv (.s 32)⟩,
    ⟨some 33, none, .ext (.s 25) 0⟩,
    ⟨some 34, none, .ext (.s 25) 1⟩,
    ⟨some 5, none, .mv (.s 33)⟩,
    ⟨some 6, none, .mv (.s 34)⟩] [] [3, 4, 5, 6]) c4_0)
def c4_2 : ACode :=
  (.seq (.region false [⟨some 16, none, .fa 0 (.s 1)⟩,
    ⟨some 17, none, .ld true 1 (.s 16)⟩,
    ⟨some 18, none, .fa 1 (.s 1)⟩,
    ⟨some 19, none, .ld false 1 (.s 18)⟩,
    ⟨some 20, none, .fa 2 (.s 1)⟩,
    ⟨some 21, none, .ld true 2 (.s 20)⟩,
    ⟨some 22, none, .call 19 [(.s 17), (.s 19), (.s 21)]⟩,
    ⟨some 15, none, .mv (.s 22)⟩,
    ⟨some 23, none, .ext (.s 15) 0⟩,
    ⟨some 24, none, .ext (.s 15) 1⟩,
    ⟨some 3, none, .mv (.s 23)⟩,
    ⟨some 4, none, .mv (.s 24)⟩] [] [1, 3, 4]) c4_1)
def c4_3 : ACode :=
  (.seq (.region false [⟨some 14, none, .call 14 []⟩,
    ⟨some 2, none, .mv (.s 14)⟩] [] [2]) .ret)
def c4_4 : ACode :=
  (.cond (.s 13) c4_3 .skip)
def c4_5 : ACode :=
  (.seq (.seq (.region false [⟨some 7, none, .fa 0 (.s 1)⟩,
    ⟨some 8, none, .ld true 1 (.s 7)⟩,
    ⟨some 9, none, .fa 1 (.s 1)⟩,
    ⟨some 10, none, .ld false 1 (.s 9)⟩,
    ⟨some 11, none, .fa 2 (.s 1)⟩,
    ⟨some 12, none, .ld true 2 (.s 11)⟩,
    ⟨some 13, none, .call 13 [(.s 8), (.s 10), (.s 12)]⟩] [] [1, 13]) c4_4) c4_2)
def c4 : ACode :=
  (.seq (.region false [⟨some 1, none, .box 9 (.s 0)⟩,
    ⟨some 2, none, .cst (.t (.bool false))⟩] [] [1]) c4_5)
def r4 : List ARes := [.tmp 2]
def n4 : Nat := 46
/- 5 supergraph supergraphlaw43.AuthMarks -/
def c5_0 : ACode :=
  (.seq (.region false [⟨some 68, none, .ld true 5 (.s 7)⟩,
    ⟨some 69, none, .ld true 5 (.s 8)⟩,
    ⟨some 70, none, .call 26 [(.s 68), (.s 69)]⟩,
    ⟨some 71, none, .mv (.s 70)⟩,
    ⟨some 72, some (71, true), .ld true 5 (.s 9)⟩,
    ⟨some 73, some (71, true), .ld true 5 (.s 10)⟩,
    ⟨some 74, some (71, true), .call 26 [(.s 72), (.s 73)]⟩,
    ⟨some 75, none, .pick (.s 71) (.s 74) (.c (.t (.bool false)))⟩,
    ⟨some 76, none, .mv (.s 75)⟩,
    ⟨some 77, some (76, true), .call 14 []⟩,
    ⟨some 78, none, .pick (.s 76) (.s 77) (.c (.t (.bool false)))⟩,
    ⟨some 4, none, .mv (.s 78)⟩] [] [4]) .ret)
def c5_1 : ACode :=
  (.seq (.region true [⟨some 56, none, .fa 1 (.s 2)⟩,
    ⟨some 57, none, .ld false 1 (.s 56)⟩,
    ⟨some 58, none, .mv (.s 6)⟩,
    ⟨some 59, none, .fa 4 (.s 2)⟩,
    ⟨some 60, none, .ld true 5 (.s 59)⟩,
    ⟨some 61, none, .call 24 [(.s 57), (.s 58), (.s 60)]⟩,
    ⟨some 62, none, .fa 1 (.s 2)⟩,
    ⟨some 63, none, .ld false 1 (.s 62)⟩,
    ⟨some 64, none, .mv (.s 6)⟩,
    ⟨some 65, none, .fa 4 (.s 2)⟩,
    ⟨some 66, none, .ld true 5 (.s 65)⟩,
    ⟨some 67, none, .call 25 [(.s 63), (.s 64), (.s 66)]⟩,
    ⟨some 9, none, .alloc [.t (.int .i64 0), .t (.int .i64 0), .t (.str []), .nils, .nils]⟩,
    ⟨some 10, none, .alloc [.t (.int .i64 0), .t (.int .i64 0), .t (.str []), .nils, .nils]⟩,
    ⟨none, none, .st 5 (.s 9) (.s 61)⟩,
    ⟨none, none, .st 5 (.s 10) (.s 67)⟩] [[], [0], [], [], [3], [1, 2, 4], [], [6], [], [], [9], [7, 8, 10, 5], [], [], [12, 5, 11, 0, 1, 2, 3, 4, 5, 12, 13], [13, 11, 14, 0, 1, 2, 3, 4, 5, 6, 7, 8, 9, 10, 11, 12, 13, 14]] [7, 8, 9, 10]) c5_0)
def c5_2 : ACode :=
  (.seq (.region false [⟨some 52, none, .mv (.s 6)⟩,
    ⟨some 53, none, .mv (.s 1)⟩,
    ⟨some 54, none, .bsl false 1 [[.lst []]] [(0, (.s 53))]⟩,
    ⟨some 55, none, .app 1 24 (.s 52) (.s 54)⟩,
    ⟨some 6, none, .mv (.s 55)⟩] [] [2, 6, 7, 8]) c5_1)
def c5_3 : ACode :=
  (.seq (.region true [⟨some 40, none, .fa 1 (.s 2)⟩,
    ⟨some 41, none, .ld false 1 (.s 40)⟩,
    ⟨some 42, none, .mv (.s 6)⟩,
    ⟨some 43, none, .fa 4 (.s 2)⟩,
    ⟨some 44, none, .ld true 5 (.s 43)⟩,
    ⟨some 45, none, .call 24 [(.s 41), (.s 42), (.s 44)]⟩,
    ⟨some 46, none, .fa 1 (.s 2)⟩,
    ⟨some 47, none, .ld false 1 (.s 46)⟩,
    ⟨some 48, none, .mv (.s 6)⟩,
    ⟨some 49, none, .fa 4 (.s 2)⟩,
    ⟨some 50, none, .ld true 5 (.s 49)⟩,
    ⟨some 51, none, .call 25 [(.s 47), (.s 48), (.s 50)]⟩,
    ⟨some 7, none, .alloc [.t (.int .i64 0), .t (.int .i64 0), .t (.str []), .nils, .nils]⟩,
    ⟨some 8, none, .alloc [.t (.int .i64 0), .t (.int .i64 0), .t (.str []), .nils, .nils]⟩,
    ⟨none, none, .st 5 (.s 7) (.s 45)⟩,
    ⟨none, none, .st 5 (.s 8) (.s 51)⟩] [[], [0], [], [], [3], [1, 2, 4], [], [6], [], [], [9], [7, 8, 10, 5], [], [], [12, 5, 11, 0, 1, 2, 3, 4, 5, 12, 13], [13, 11, 14, 0, 1, 2, 3, 4, 5, 6, 7, 8, 9, 10, 11, 12, 13, 14]] [1, 2, 6, 7, 8]) c5_2)
def c5_4 : ACode :=
  (.seq (.region false [⟨some 31, none, .fa 0 (.s 2)⟩,
    ⟨some 32, none, .ld true 1 (.s 31)⟩,
    ⟨some 33, none, .fa 1 (.s 2)⟩,
    ⟨some 34, none, .ld false 1 (.s 33)⟩,
    ⟨some 35, none, .fa 2 (.s 2)⟩,
    ⟨some 36, none, .ld true 2 (.s 35)⟩,
    ⟨some 37, none, .call 20 [(.s 32), (.s 34), (.s 36)]⟩,
    ⟨some 30, none, .mv (.s 37)⟩,
    ⟨some 38, none, .ext (.s 30) 0⟩,
    ⟨some 39, none, .ext (.s 30) 1⟩,
    ⟨some 5, none, .mv (.s 38)⟩,
    ⟨some 6, none, .mv (.s 39)⟩] [] [1, 2, 6]) c5_3)
def c5_5 : ACode :=
  (.seq (.region false [⟨some 29, none, .call 14 []⟩,
    ⟨some 4, none, .mv (.s 29)⟩] [] [4]) .ret)
def c5_6 : ACode :=
  (.cond (.s 28) c5_5 .skip)
def c5_7 : ACode :=
  (.seq (.seq (.region false [⟨some 11, none, .fa 0 (.s 2)⟩,
    ⟨some 12, none, .ld true 1 (.s 11)⟩,
    ⟨some 13, none, .fa 1 (.s 2)⟩,
    ⟨some 14, none, .ld false 1 (.s 13)⟩,
    ⟨some 15, none, .fa 2 (.s 2)⟩,
    ⟨some 16, none, .ld true 2 (.s 15)⟩,
    ⟨some 17, none, .call 13 [(.s 12), (.s 14), (.s 16)]⟩,
    ⟨some 18, none, .mv (.s 17)⟩,
    ⟨some 19, some (18, false), .fa 4 (.s 2)⟩,
    ⟨some 20, some (18, false), .ld true 5 (.s 19)⟩,
    ⟨some 21, some (18, false), .call 23 [(.s 20), (.c (.t (.int .i64 2000)))]⟩,
    ⟨some 22, some (18, false), .bin .gtr (.s 21) (.c (.t (.int .i64 2000)))⟩,
    ⟨some 23, none, .pick (.s 18) (.c (.t (.bool true))) (.s 22)⟩,
    ⟨some 24, none, .mv (.s 23)⟩,
    ⟨some 25, some (24, false), .mv (.s 1)⟩,
    ⟨some 26, some (24, false), .len (.s 25)⟩,
    ⟨some 27, some (24, false), .bin .gtr (.s 26) (.c (.t (.int .i64 30)))⟩,
    ⟨some 28, none, .pick (.s 24) (.c (.t (.bool true))) (.s 27)⟩] [] [1, 2, 28]) c5_6) c5_4)
def c5 : ACode :=
  (.seq (.region false [⟨some 2, none, .box 9 (.s 0)⟩,
    ⟨some 4, none, .cst (.t (.bool false))⟩] [] [1, 2]) c5_7)
def r5 : List ARes := [.tmp 4]
def n5 : Nat := 79
/- 6 supergraph supergraphlaw43.AuthKeeps -/
def c6_0 : ACode :=
  (.seq (.region false [⟨some 111, none, .mv (.s 5)⟩,
    ⟨some 112, none, .fa 1 (.s 1)⟩,
    ⟨some 113, none, .ld false 1 (.s 112)⟩,
    ⟨some 114, none, .call 21 [(.s 111), (.s 113)]⟩,
    ⟨some 115, none, .mv (.s 114)⟩,
    ⟨some 116, some (115, true), .mv (.s 6)⟩,
    ⟨some 117, some (115, true), .len (.s 116)⟩,
    ⟨some 118, some (115, true), .bin .eql (.s 117) (.c (.t (.int .i64 0)))⟩,
    ⟨some 119, none, .pick (.s 115) (.s 118) (.c (.t (.bool false)))⟩,
    ⟨some 120, none, .mv (.s 119)⟩,
    ⟨some 121, some (120, true), .call 14 []⟩,
    ⟨some 122, none, .pick (.s 120) (.s 121) (.c (.t (.bool false)))⟩,
    ⟨some 2, none, .mv (.s 122)⟩] [] [2]) .ret)
def c6_1 : ACode :=
  (.seq (.region false [⟨some 102, none, .fa 0 (.s 1)⟩,
    ⟨some 103, none, .ld true 1 (.s 102)⟩,
    ⟨some 104, none, .fa 1 (.s 1)⟩,
    ⟨some 105, none, .ld false 1 (.s 104)⟩,
    ⟨some 106, none, .bsl true 1 [[.str []], [.str []], [.str []]] [(0, (.c (.t (.str [97])))), (1, (.c (.t (.str [98])))), (2, (.c (.t (.str [99]))))]⟩,
    ⟨some 107, none, .build [.t (.bool false), .nils] [(0, 1, (.c (.t (.bool true)))), (1, 1, (.s 106))]⟩,
    ⟨some 108, none, .call 19 [(.s 103), (.s 105), (.s 107)]⟩,
    ⟨some 101, none, .mv (.s 108)⟩,
    ⟨some 109, none, .ext (.s 101) 0⟩,
    ⟨some 110, none, .ext (.s 101) 1⟩,
    ⟨some 5, none, .mv (.s 109)⟩,
    ⟨some 6, none, .mv (.s 110)⟩] [] [1, 5, 6]) c6_0)
def c6_2 : ACode :=
  (.region false [⟨some 63, none, .mv (.s 7)⟩,
    ⟨some 64, none, .bin .add (.s 63) (.c (.t (.int .i64 1)))⟩,
    ⟨some 7, none, .mv (.s 64)⟩] [] [1, 7])
def c6_3 : ACode :=
  (.region false [⟨some 85, none, .mv (.s 8)⟩,
    ⟨some 86, none, .bin .add (.s 85) (.c (.t (.int .i64 1)))⟩,
    ⟨some 8, none, .mv (.s 86)⟩] [] [1, 7, 8])
def c6_4 : ACode :=
  (.seq (.region false [⟨some 100, none, .call 14 []⟩,
    ⟨some 2, none, .mv (.s 100)⟩] [] [2]) .ret)
def c6_5 : ACode :=
  (.cond (.s 99) c6_4 .skip)
def c6_6 : ACode :=
  (.seq (.region false [⟨some 87, none, .fa 0 (.s 1)⟩,
    ⟨some 88, none, .fa 0 (.s 87)⟩,
    ⟨some 89, none, .ld false 1 (.s 88)⟩,
    ⟨some 90, none, .mv (.s 7)⟩,
    ⟨some 91, none, .ia 7 (.s 89) (.s 90)⟩,
    ⟨some 92, none, .fa 4 (.s 91)⟩,
    ⟨some 93, none, .ld false 1 (.s 92)⟩,
    ⟨some 94, none, .mv (.s 8)⟩,
    ⟨some 95, none, .ia 5 (.s 93) (.s 94)⟩,
    ⟨some 96, none, .fa 4 (.s 95)⟩,
    ⟨some 97, none, .ld false 1 (.s 96)⟩,
    ⟨some 98, none, .call 29 [(.s 97)]⟩,
    ⟨some 99, none, .un .not (.s 98)⟩] [] [1, 7, 8, 99]) c6_5)
def c6_7 : ACode :=
  (.seq (.block 3 c6_6) c6_3)
def c6_8 : ACode :=
  (.cond (.s 84) .skip (.exit 2))
def c6_9 : ACode :=
  (.seq (.seq (.region false [⟨some 75, none, .mv (.s 8)⟩,
    ⟨some 76, none, .fa 0 (.s 1)⟩,
    ⟨some 77, none, .fa 0 (.s 76)⟩,
    ⟨some 78, none, .ld false 1 (.s 77)⟩,
    ⟨some 79, none, .mv (.s 7)⟩,
    ⟨some 80, none, .ia 7 (.s 78) (.s 79)⟩,
    ⟨some 81, none, .fa 4 (.s 80)⟩,
    ⟨some 82, none, .ld false 1 (.s 81)⟩,
    ⟨some 83, none, .len (.s 82)⟩,
    ⟨some 84, none, .bin .lss (.s 75) (.s 83)⟩] [] [1, 7, 8, 84]) c6_8) c6_7)
def c6_10 : ACode :=
  (.loop c6_9)
def c6_11 : ACode :=
  (.block 2 c6_10)
def c6_12 : ACode :=
  (.seq (.region false [⟨some 8, none, .cst (.t (.int .i64 0))⟩] [] [1, 7, 8]) c6_11)
def c6_13 : ACode :=
  (.seq (.region false [⟨some 74, none, .call 14 []⟩,
    ⟨some 2, none, .mv (.s 74)⟩] [] [2]) .ret)
def c6_14 : ACode :=
  (.cond (.s 73) c6_13 .skip)
def c6_15 : ACode :=
  (.seq (.seq (.region false [⟨some 65, none, .fa 0 (.s 1)⟩,
    ⟨some 66, none, .fa 0 (.s 65)⟩,
    ⟨some 67, none, .ld false 1 (.s 66)⟩,
    ⟨some 68, none, .mv (.s 7)⟩,
    ⟨some 69, none, .ia 7 (.s 67) (.s 68)⟩,
    ⟨some 70, none, .fa 3 (.s 69)⟩,
    ⟨some 71, none, .ld false 1 (.s 70)⟩,
    ⟨some 72, none, .call 29 [(.s 71)]⟩,
    ⟨some 73, none, .un .not (.s 72)⟩] [] [1, 7, 73]) c6_14) c6_12)
def c6_16 : ACode :=
  (.seq (.block 1 c6_15) c6_2)
def c6_17 : ACode :=
  (.cond (.s 62) .skip (.exit 0))
def c6_18 : ACode :=
  (.seq (.seq (.region false [⟨some 57, none, .mv (.s 7)⟩,
    ⟨some 58, none, .fa 0 (.s 1)⟩,
    ⟨some 59, none, .fa 0 (.s 58)⟩,
    ⟨some 60, none, .ld false 1 (.s 59)⟩,
    ⟨some 61, none, .len (.s 60)⟩,
    ⟨some 62, none, .bin .lss (.s 57) (.s 61)⟩] [] [1, 7, 62]) c6_17) c6_16)
def c6_19 : ACode :=
  (.loop c6_18)
def c6_20 : ACode :=
  (.block 0 c6_19)
def c6_21 : ACode :=
  (.seq (.seq (.region false [⟨some 7, none, .cst (.t (.int .i64 0))⟩] [] [1, 7]) c6_20) c6_1)
def c6_22 : ACode :=
  (.seq (.region false [⟨some 2, none, .cst (.t (.bool false))⟩] [] [2]) .ret)
def c6_23 : ACode :=
  (.cond (.s 56) c6_22 .skip)
def c6_24 : ACode :=
  (.seq (.seq (.region false [⟨some 48, none, .mv (.s 3)⟩,
    ⟨some 49, none, .mv (.s 5)⟩,
    ⟨some 50, none, .call 21 [(.s 48), (.s 49)]⟩,
    ⟨some 51, none, .un .not (.s 50)⟩,
    ⟨some 52, none, .mv (.s 51)⟩,
    ⟨some 53, some (52, false), .mv (.s 6)⟩,
    ⟨some 54, some (52, false), .len (.s 53)⟩,
    ⟨some 55, some (52, false), .bin .gtr (.s 54) (.c (.t (.int .i64 0)))⟩,
    ⟨some 56, none, .pick (.s 52) (.c (.t (.bool true))) (.s 55)⟩] [] [1, 56]) c6_23) c6_21)
def c6_25 : ACode :=
  (.seq (.region false [⟨some 40, none, .fa 0 (.s 1)⟩,
    ⟨some 41, none, .ld true 1 (.s 40)⟩,
    ⟨some 42, none, .mv (.s 3)⟩,
    ⟨some 43, none, .fa 2 (.s 1)⟩,
    ⟨some 44, none, .ld true 2 (.s 43)⟩,
    ⟨some 45, none, .call 19 [(.s 41), (.s 42), (.s 44)]⟩,
    ⟨some 39, none, .mv (.s 45)⟩,
    ⟨some 46, none, .ext (.s 39) 0⟩,
    ⟨some 47, none, .ext (.s 39) 1⟩,
    ⟨some 5, none, .mv (.s 46)⟩,
    ⟨some 6, none, .mv (.s 47)⟩] [] [1, 3, 5, 6]) c6_24)
def c6_26 : ACode :=
  (.seq (.region false [⟨some 2, none, .cst (.t (.bool false))⟩] [] [2]) .ret)
def c6_27 : ACode :=
  (.cond (.s 38) c6_26 .skip)
def c6_28 : ACode :=
  (.seq (.seq (.region false [⟨some 27, none, .mv (.s 3)⟩,
    ⟨some 28, none, .call 27 [(.s 27), (.c (.t (.int .i64 0)))]⟩,
    ⟨some 29, none, .bin .gtr (.s 28) (.c (.t (.int .i64 200)))⟩,
    ⟨some 30, none, .mv (.s 29)⟩,
    ⟨some 31, some (30, false), .fa 0 (.s 1)⟩,
    ⟨some 32, some (30, false), .ld true 1 (.s 31)⟩,
    ⟨some 33, some (30, false), .mv (.s 3)⟩,
    ⟨some 34, some (30, false), .fa 2 (.s 1)⟩,
    ⟨some 35, some (30, false), .ld true 2 (.s 34)⟩,
    ⟨some 36, some (30, false), .call 28 [(.s 32), (.s 33), (.s 35)]⟩,
    ⟨some 37, some (30, false), .un .not (.s 36)⟩,
    ⟨some 38, none, .pick (.s 30) (.c (.t (.bool true))) (.s 37)⟩] [] [1, 3, 38]) c6_27) c6_25)
def c6_29 : ACode :=
  (.seq (.region false [⟨some 18, none, .fa 0 (.s 1)⟩,
    ⟨some 19, none, .ld true 1 (.s 18)⟩,
    ⟨some 20, none, .fa 1 (.s 1)⟩,
    ⟨some 21, none, .ld false 1 (.s 20)⟩,
    ⟨some 22, none, .fa 2 (.s 1)⟩,
    ⟨some 23, none, .ld true 2 (.s 22)⟩,
    ⟨some 24, none, .call 19 [(.s 19), (.s 21), (.s 23)]⟩,
    ⟨some 17, none, .mv (.s 24)⟩,
    ⟨some 25, none, .ext (.s 17) 0⟩,
    ⟨some 26, none, .ext (.s 17) 1⟩,
    ⟨some 3, none, .mv (.s 25)⟩,
    ⟨some 4, none, .mv (.s 26)⟩] [] [1, 3]) c6_28)
def c6_30 : ACode :=
  (.seq (.region false [⟨some 16, none, .call 14 []⟩,
    ⟨some 2, none, .mv (.s 16)⟩] [] [2]) .ret)
def c6_31 : ACode :=
  (.cond (.s 15) c6_30 .skip)
def c6_32 : ACode :=
  (.seq (.seq (.region false [⟨some 9, none, .fa 0 (.s 1)⟩,
    ⟨some 10, none, .ld true 1 (.s 9)⟩,
    ⟨some 11, none, .fa 1 (.s 1)⟩,
    ⟨some 12, none, .ld false 1 (.s 11)⟩,
    ⟨some 13, none, .fa 2 (.s 1)⟩,
    ⟨some 14, none, .ld true 2 (.s 13)⟩,
    ⟨some 15, none, .call 13 [(.s 10), (.s 12), (.s 14)]⟩] [] [1, 15]) c6_31) c6_29)
def c6 : ACode :=
  (.seq (.region false [⟨some 1, none, .box 9 (.s 0)⟩,
    ⟨some 2, none, .cst (.t (.bool false))⟩] [] [1]) c6_32)
def r6 : List ARes := [.tmp 2]
def n6 : Nat := 123
/- 7 supergraph supergraphlaw43.AuthCounts -/
def c7_0 : ACode :=
  (.seq (.region true [⟨some 57, none, .mv (.s 3)⟩,
    ⟨some 58, none, .call 27 [(.s 57), (.c (.t (.int .i64 0)))]⟩,
    ⟨some 59, none, .mv (.s 4)⟩,
    ⟨some 60, none, .len (.s 59)⟩,
    ⟨some 61, none, .bin .add (.s 58) (.s 60)⟩,
    ⟨some 62, none, .fa 0 (.s 1)⟩,
    ⟨some 63, none, .ld true 1 (.s 62)⟩,
    ⟨some 64, none, .fa 1 (.s 1)⟩,
    ⟨some 65, none, .ld false 1 (.s 64)⟩,
    ⟨some 66, none, .fa 2 (.s 1)⟩,
    ⟨some 67, none, .ld true 2 (.s 66)⟩,
    ⟨some 68, none, .call 31 [(.s 63), (.s 65), (.s 67)]⟩,
    ⟨some 69, none, .bin .eql (.s 61) (.s 68)⟩,
    ⟨some 70, none, .mv (.s 69)⟩,
    ⟨some 71, some (70, true), .call 14 []⟩,
    ⟨some 72, none, .pick (.s 70) (.s 71) (.c (.t (.bool false)))⟩,
    ⟨some 2, none, .mv (.s 72)⟩] [[], [0], [], [2], [1, 3], [], [5], [], [7], [], [9], [6, 8, 10, 1], [4, 11], [12, 11], [13, 13], [13, 14], [15, 14, 0, 1, 2, 3, 4, 5, 6, 7, 8, 9, 10, 11, 12, 13, 14, 15]] [2]) .ret)
def c7_1 : ACode :=
  (.seq (.region false [⟨some 48, none, .fa 0 (.s 1)⟩,
    ⟨some 49, none, .ld true 1 (.s 48)⟩,
    ⟨some 50, none, .fa 1 (.s 1)⟩,
    ⟨some 51, none, .ld false 1 (.s 50)⟩,
    ⟨some 52, none, .fa 2 (.s 1)⟩,
    ⟨some 53, none, .ld true 2 (.s 52)⟩,
    ⟨some 54, none, .call 19 [(.s 49), (.s 51), (.s 53)]⟩,
    ⟨some 47, none, .mv (.s 54)⟩,
    ⟨some 55, none, .ext (.s 47) 0⟩,
    ⟨some 56, none, .ext (.s 47) 1⟩,
    ⟨some 3, none, .mv (.s 55)⟩,
    ⟨some 4, none, .mv (.s 56)⟩] [] [1, 3, 4]) c7_0)
def c7_2 : ACode :=
  (.seq (.region false [⟨some 2, none, .cst (.t (.bool false))⟩] [] [2]) .ret)
def c7_3 : ACode :=
  (.cond (.s 46) c7_2 .skip)
def c7_4 : ACode :=
  (.seq (.seq (.region true [⟨some 19, none, .fa 4 (.s 1)⟩,
    ⟨some 20, none, .fa 0 (.s 19)⟩,
    ⟨some 21, none, .ld false 1 (.s 20)⟩,
    ⟨some 22, none, .bin .neq (.s 21) (.c (.t (.int .i64 0)))⟩,
    ⟨some 23, none, .mv (.s 22)⟩,
    ⟨some 24, some (23, false), .fa 1 (.s 1)⟩,
    ⟨some 25, some (23, false), .ld false 1 (.s 24)⟩,
    ⟨some 26, some (23, false), .len (.s 25)⟩,
    ⟨some 27, some (23, false), .bin .eql (.s 26) (.c (.t (.int .i64 0)))⟩,
    ⟨some 28, none, .pick (.s 23) (.c (.t (.bool true))) (.s 27)⟩,
    ⟨some 29, none, .mv (.s 28)⟩,
    ⟨some 30, some (29, true), .fa 1 (.s 1)⟩,
    ⟨some 31, some (29, true), .ld false 1 (.s 30)⟩,
    ⟨some 32, some (29, true), .fa 4 (.s 1)⟩,
    ⟨some 33, some (29, true), .ld true 5 (.s 32)⟩,
    ⟨some 34, some (29, true), .call 30 [(.s 31), (.s 33)]⟩,
    ⟨some 35, none, .pick (.s 29) (.s 34) (.c (.t (.bool false)))⟩,
    ⟨some 36, none, .mv (.s 35)⟩,
    ⟨some 37, some (36, true), .fa 1 (.s 1)⟩,
    ⟨some 38, some (36, true), .ld false 1 (.s 37)⟩,
    ⟨some 39, some (36, true), .fa 4 (.s 1)⟩,
    ⟨some 40, some (36, true), .ld true 5 (.s 39)⟩,
    ⟨some 41, some (36, true), .call 24 [(.s 38), (.c (.nils)), (.s 40)]⟩,
    ⟨some 42, some (36, true), .fa 4 (.s 1)⟩,
    ⟨some 43, some (36, true), .ld true 5 (.s 42)⟩,
    ⟨some 44, some (36, true), .call 26 [(.s 41), (.s 43)]⟩,
    ⟨some 45, some (36, true), .un .not (.s 44)⟩,
    ⟨some 46, none, .pick (.s 36) (.s 45) (.c (.t (.bool false)))⟩] [[], [0], [1], [2], [3], [4], [5, 4], [6, 4], [7, 4], [4, 8], [9, 4], [10], [11, 10], [10], [13, 10], [12, 14, 10, 10], [10, 15], [16, 15], [17], [18, 17], [17], [20, 17], [19, 21, 17, 17], [17], [23, 17], [22, 24, 22, 17], [25, 17], [17, 26]] [1, 46]) c7_3) c7_1)
def c7_5 : ACode :=
  (.seq (.region false [⟨some 18, none, .call 14 []⟩,
    ⟨some 2, none, .mv (.s 18)⟩] [] [2]) .ret)
def c7_6 : ACode :=
  (.cond (.s 17) c7_5 .skip)
def c7_7 : ACode :=
  (.seq (.seq (.region false [⟨some 5, none, .fa 0 (.s 1)⟩,
    ⟨some 6, none, .ld true 1 (.s 5)⟩,
    ⟨some 7, none, .fa 1 (.s 1)⟩,
    ⟨some 8, none, .ld false 1 (.s 7)⟩,
    ⟨some 9, none, .fa 2 (.s 1)⟩,
    ⟨some 10, none, .ld true 2 (.s 9)⟩,
    ⟨some 11, none, .call 13 [(.s 6), (.s 8), (.s 10)]⟩,
    ⟨some 12, none, .mv (.s 11)⟩,
    ⟨some 13, some (12, false), .fa 4 (.s 1)⟩,
    ⟨some 14, some (12, false), .ld true 5 (.s 13)⟩,
    ⟨some 15, some (12, false), .call 23 [(.s 14), (.c (.t (.int .i64 2000)))]⟩,
    ⟨some 16, some (12, false), .bin .gtr (.s 15) (.c (.t (.int .i64 2000)))⟩,
    ⟨some 17, none, .pick (.s 12) (.c (.t (.bool true))) (.s 16)⟩] [] [1, 17]) c7_6) c7_4)
def c7 : ACode :=
  (.seq (.region false [⟨some 1, none, .box 9 (.s 0)⟩,
    ⟨some 2, none, .cst (.t (.bool false))⟩] [] [1]) c7_7)
def r7 : List ARes := [.tmp 2]
def n7 : Nat := 73
/- 13 supergraph supergraphlaw43.large -/
def c13_0 : ACode :=
  (.seq (.region false [⟨some 7, none, .mv (.s 1)⟩,
    ⟨some 8, none, .len (.s 7)⟩,
    ⟨some 9, none, .bin .gtr (.s 8) (.c (.t (.int .i64 200)))⟩,
    ⟨some 10, none, .mv (.s 9)⟩,
    ⟨some 11, some (10, false), .ld true 1 (.s 3)⟩,
    ⟨some 12, some (10, false), .call 46 [(.s 11), (.c (.t (.int .i64 600)))]⟩,
    ⟨some 13, some (10, false), .bin .gtr (.s 12) (.c (.t (.int .i64 600)))⟩,
    ⟨some 14, none, .pick (.s 10) (.c (.t (.bool true))) (.s 13)⟩,
    ⟨some 15, none, .mv (.s 14)⟩,
    ⟨some 16, some (15, false), .fa 1 (.s 5)⟩,
    ⟨some 17, some (15, false), .ld false 1 (.s 16)⟩,
    ⟨some 18, some (15, false), .len (.s 17)⟩,
    ⟨some 19, some (15, false), .bin .gtr (.s 18) (.c (.t (.int .i64 50)))⟩,
    ⟨some 20, none, .pick (.s 15) (.c (.t (.bool true))) (.s 19)⟩,
    ⟨some 21, none, .mv (.s 20)⟩,
    ⟨some 22, some (21, false), .mv (.s 1)⟩,
    ⟨some 23, some (21, false), .call 27 [(.s 22), (.c (.t (.int .i64 0)))]⟩,
    ⟨some 24, some (21, false), .bin .gtr (.s 23) (.c (.t (.int .i64 200)))⟩,
    ⟨some 25, none, .pick (.s 21) (.c (.t (.bool true))) (.s 24)⟩,
    ⟨some 6, none, .mv (.s 25)⟩] [] [6]) .ret)
def c13 : ACode :=
  (.seq (.region false [⟨some 3, none, .box 1 (.s 0)⟩,
    ⟨some 5, none, .box 2 (.s 2)⟩,
    ⟨some 6, none, .cst (.t (.bool false))⟩] [] [1, 3, 5]) c13_0)
def r13 : List ARes := [.tmp 6]
def n13 : Nat := 26
/- 14 supergraph supergraphlaw43.exampleHolds -/
def c14_0 : ACode :=
  (.seq (.region false [⟨some 69, none, .mv (.s 4)⟩,
    ⟨some 70, none, .ia 1 (.s 69) (.c (.t (.int .i64 0)))⟩,
    ⟨some 71, none, .ld false 1 (.s 70)⟩,
    ⟨some 72, none, .ia 2 (.s 71) (.c (.t (.int .i64 1)))⟩,
    ⟨some 73, none, .fa 1 (.s 72)⟩,
    ⟨some 74, none, .ld false 1 (.s 73)⟩,
    ⟨some 75, none, .bin .eql (.s 74) (.c (.t (.str [115, 97, 108, 97, 114, 121])))⟩,
    ⟨some 76, none, .mv (.s 75)⟩,
    ⟨some 77, some (76, true), .fa 3 (.s 6)⟩,
    ⟨some 78, some (76, true), .ld false 1 (.s 77)⟩,
    ⟨some 79, some (76, true), .ia 5 (.s 78) (.c (.t (.int .i64 1)))⟩,
    ⟨some 80, some (76, true), .fa 3 (.s 79)⟩,
    ⟨some 81, some (76, true), .ld false 1 (.s 80)⟩,
    ⟨some 82, some (76, true), .ia 5 (.s 81) (.c (.t (.int .i64 2)))⟩,
    ⟨some 83, some (76, true), .fa 0 (.s 82)⟩,
    ⟨some 84, some (76, true), .ld false 1 (.s 83)⟩,
    ⟨some 85, some (76, true), .bin .eql (.s 84) (.c (.t (.int .i64 9)))⟩,
    ⟨some 86, none, .pick (.s 76) (.s 85) (.c (.t (.bool false)))⟩,
    ⟨some 87, none, .mv (.s 86)⟩,
    ⟨some 88, some (87, true), .ld true 1 (.s 1)⟩,
    ⟨some 89, some (87, true), .bsl true 1 [[.str []]] [(0, (.c (.t (.str [104, 114]))))]⟩,
    ⟨some 90, some (87, true), .build [.t (.bool false), .nils] [(0, 1, (.c (.t (.bool true)))), (1, 1, (.s 89))]⟩,
    ⟨some 91, some (87, true), .call 15 [(.s 88), (.c (.t (.str [85, 115, 101, 114]))), (.c (.t (.str [115, 97, 108, 97, 114, 121]))), (.s 90)]⟩,
    ⟨some 92, none, .pick (.s 87) (.s 91) (.c (.t (.bool false)))⟩,
    ⟨some 93, none, .mv (.s 92)⟩,
    ⟨some 94, some (93, true), .ld true 1 (.s 1)⟩,
    ⟨some 95, some (93, true), .build [.t (.bool false), .nils] [(0, 1, (.c (.t (.bool true))))]⟩,
    ⟨some 96, some (93, true), .call 15 [(.s 94), (.c (.t (.str [85, 115, 101, 114]))), (.c (.t (.str [115, 97, 108, 97, 114, 121]))), (.s 95)]⟩,
    ⟨some 97, some (93, true), .un .not (.s 96)⟩,
    ⟨some 98, none, .pick (.s 93) (.s 97) (.c (.t (.bool false)))⟩,
    ⟨some 99, none, .mv (.s 98)⟩,
    ⟨some 100, some (99, true), .ld true 1 (.s 1)⟩,
    ⟨some 101, some (99, true), .build [.t (.bool false), .nils] []⟩,
    ⟨some 102, some (99, true), .call 17 [(.s 100), (.c (.t (.str [65, 100, 109, 105, 110]))), (.s 101)]⟩,
    ⟨some 103, some (99, true), .un .not (.s 102)⟩,
    ⟨some 104, none, .pick (.s 99) (.s 103) (.c (.t (.bool false)))⟩,
    ⟨some 0, none, .mv (.s 104)⟩] [] [0]) .ret)
def c14_1 : ACode :=
  (.seq (.region false [⟨some 0, none, .cst (.t (.bool false))⟩] [] [0]) .ret)
def c14_2 : ACode :=
  (.cond (.s 68) c14_1 .skip)
def c14_3 : ACode :=
  (.seq (.seq (.region false [⟨some 31, none, .mv (.s 3)⟩,
    ⟨some 32, none, .len (.s 31)⟩,
    ⟨some 33, none, .bin .neq (.s 32) (.c (.t (.int .i64 1)))⟩,
    ⟨some 34, none, .mv (.s 33)⟩,
    ⟨some 35, some (34, false), .mv (.s 3)⟩,
    ⟨some 36, some (34, false), .ia 9 (.s 35) (.c (.t (.int .i64 0)))⟩,
    ⟨some 37, some (34, false), .fa 8 (.s 36)⟩,
    ⟨some 38, some (34, false), .ld false 1 (.s 37)⟩,
    ⟨some 39, some (34, false), .len (.s 38)⟩,
    ⟨some 40, some (34, false), .bin .neq (.s 39) (.c (.t (.int .i64 1)))⟩,
    ⟨some 41, none, .pick (.s 34) (.c (.t (.bool true))) (.s 40)⟩,
    ⟨some 42, none, .mv (.s 41)⟩,
    ⟨some 43, some (42, false), .mv (.s 4)⟩,
    ⟨some 44, some (42, false), .len (.s 43)⟩,
    ⟨some 45, some (42, false), .bin .neq (.s 44) (.c (.t (.int .i64 1)))⟩,
    ⟨some 46, none, .pick (.s 42) (.c (.t (.bool true))) (.s 45)⟩,
    ⟨some 47, none, .mv (.s 46)⟩,
    ⟨some 48, some (47, false), .mv (.s 4)⟩,
    ⟨some 49, some (47, false), .ia 1 (.s 48) (.c (.t (.int .i64 0)))⟩,
    ⟨some 50, some (47, false), .ld false 1 (.s 49)⟩,
    ⟨some 51, some (47, false), .len (.s 50)⟩,
    ⟨some 52, some (47, false), .bin .neq (.s 51) (.c (.t (.int .i64 2)))⟩,
    ⟨some 53, none, .pick (.s 47) (.c (.t (.bool true))) (.s 52)⟩,
    ⟨some 54, none, .mv (.s 53)⟩,
    ⟨some 55, some (54, false), .fa 3 (.s 6)⟩,
    ⟨some 56, some (54, false), .ld false 1 (.s 55)⟩,
    ⟨some 57, some (54, false), .len (.s 56)⟩,
    ⟨some 58, some (54, false), .bin .neq (.s 57) (.c (.t (.int .i64 2)))⟩,
    ⟨some 59, none, .pick (.s 54) (.c (.t (.bool true))) (.s 58)⟩,
    ⟨some 60, none, .mv (.s 59)⟩,
    ⟨some 61, some (60, false), .fa 3 (.s 6)⟩,
    ⟨some 62, some (60, false), .ld false 1 (.s 61)⟩,
    ⟨some 63, some (60, false), .ia 5 (.s 62) (.c (.t (.int .i64 1)))⟩,
    ⟨some 64, some (60, false), .fa 3 (.s 63)⟩,
    ⟨some 65, some (60, false), .ld false 1 (.s 64)⟩,
    ⟨some 66, some (60, false), .len (.s 65)⟩,
    ⟨some 67, some (60, false), .bin .neq (.s 66) (.c (.t (.int .i64 3)))⟩,
    ⟨some 68, none, .pick (.s 60) (.c (.t (.bool true))) (.s 67)⟩] [] [1, 4, 6, 68]) c14_2) c14_0)
def c14_4 : ACode :=
  (.seq (.region true [⟨some 23, none, .mv (.s 2)⟩,
    ⟨some 24, none, .mv (.s 4)⟩,
    ⟨some 25, none, .bsl true 1 [[.str []], [.str []]] [(0, (.c (.t (.str [95, 95, 116])))), (1, (.c (.t (.str [109, 101]))))]⟩,
    ⟨some 26, none, .call 48 [(.c (.t (.str [81, 117, 101, 114, 121])))]⟩,
    ⟨some 27, none, .ld true 5 (.s 5)⟩,
    ⟨some 28, none, .bsl true 5 [[.int .i64 0, .int .i64 0, .str [], .lst [], .lst []], [.int .i64 0, .int .i64 0, .str [], .lst [], .lst []]] [(0, (.s 26)), (1, (.s 27))]⟩,
    ⟨some 29, none, .build [.t (.int .i64 0), .t (.int .i64 0), .t (.str []), .nils, .nils] [(0, 1, (.c (.t (.int .i64 6)))), (4, 1, (.s 25)), (3, 1, (.s 28))]⟩,
    ⟨some 30, none, .call 24 [(.s 23), (.s 24), (.s 29)]⟩,
    ⟨some 6, none, .alloc [.t (.int .i64 0), .t (.int .i64 0), .t (.str []), .nils, .nils]⟩,
    ⟨none, none, .st 5 (.s 6) (.s 30)⟩] [[], [], [], [], [], [3, 4], [2, 5], [0, 1, 6, 3], [], [8, 7, 7, 0, 1, 2, 3, 4, 5, 6, 7, 8]] [1, 3, 4, 6]) c14_3)
def c14_5 : ACode :=
  (.seq (.region false [⟨some 18, none, .bsl true 1 [[.str []], [.str []]] [(0, (.c (.t (.str [95, 95, 116])))), (1, (.c (.t (.str [110, 97, 109, 101]))))]⟩,
    ⟨some 19, none, .call 48 [(.c (.t (.str [85, 115, 101, 114])))]⟩,
    ⟨some 20, none, .call 48 [(.c (.t (.str [97])))]⟩,
    ⟨some 21, none, .bsl true 5 [[.int .i64 0, .int .i64 0, .str [], .lst [], .lst []], [.int .i64 0, .int .i64 0, .str [], .lst [], .lst []]] [(0, (.s 19)), (1, (.s 20))]⟩,
    ⟨some 22, none, .build [.t (.int .i64 0), .t (.int .i64 0), .t (.str []), .nils, .nils] [(0, 1, (.c (.t (.int .i64 6)))), (4, 1, (.s 18)), (3, 1, (.s 21))]⟩,
    ⟨some 5, none, .alloc [.t (.int .i64 0), .t (.int .i64 0), .t (.str []), .nils, .nils]⟩,
    ⟨none, none, .st 5 (.s 5) (.s 22)⟩] [] [1, 2, 3, 4, 5]) c14_4)
def c14_6 : ACode :=
  (.seq (.region false [⟨some 12, none, .ld true 1 (.s 1)⟩,
    ⟨some 13, none, .mv (.s 2)⟩,
    ⟨some 14, none, .build [.t (.bool false), .nils] [(0, 1, (.c (.t (.bool true))))]⟩,
    ⟨some 15, none, .call 19 [(.s 12), (.s 13), (.s 14)]⟩,
    ⟨some 11, none, .mv (.s 15)⟩,
    ⟨some 16, none, .ext (.s 11) 0⟩,
    ⟨some 17, none, .ext (.s 11) 1⟩,
    ⟨some 3, none, .mv (.s 16)⟩,
    ⟨some 4, none, .mv (.s 17)⟩] [] [1, 2, 3, 4]) c14_5)
def c14_7 : ACode :=
  (.seq (.region false [⟨some 8, none, .call 47 []⟩,
    ⟨some 7, none, .mv (.s 8)⟩,
    ⟨some 9, none, .ext (.s 7) 0⟩,
    ⟨some 10, none, .ext (.s 7) 1⟩,
    ⟨some 1, none, .alloc [.nils]⟩,
    ⟨none, none, .st 1 (.s 1) (.s 9)⟩,
    ⟨some 2, none, .mv (.s 10)⟩] [] [1, 2]) c14_6)
def c14 : ACode :=
  (.seq (.region false [⟨some 0, none, .cst (.t (.bool false))⟩] [] []) c14_7)
def r14 : List ARes := [.tmp 0]
def n14 : Nat := 105
/- 15 supergraph auth.May -/
def c15_0 : ACode :=
  (.seq (.region false [⟨some 30, none, .mv (.s 12)⟩,
    ⟨some 31, none, .un .not (.s 30)⟩,
    ⟨some 32, none, .mv (.s 31)⟩,
    ⟨some 33, some (32, false), .fa 4 (.s 11)⟩,
    ⟨some 34, some (32, false), .ld false 1 (.s 33)⟩,
    ⟨some 35, some (32, false), .ld true 2 (.s 7)⟩,
    ⟨some 36, some (32, false), .call 51 [(.s 34), (.s 35)]⟩,
    ⟨some 37, some (32, false), .mv (.s 36)⟩,
    ⟨some 38, some (37, true), .ld true 1 (.s 4)⟩,
    ⟨some 39, some (37, true), .fa 2 (.s 11)⟩,
    ⟨some 40, some (37, true), .fa 0 (.s 39)⟩,
    ⟨some 41, some (37, true), .ld false 1 (.s 40)⟩,
    ⟨some 42, some (37, true), .ld true 2 (.s 7)⟩,
    ⟨some 43, some (37, true), .call 17 [(.s 38), (.s 41), (.s 42)]⟩,
    ⟨some 44, some (32, false), .pick (.s 37) (.s 43) (.c (.t (.bool false)))⟩,
    ⟨some 45, none, .pick (.s 32) (.c (.t (.bool true))) (.s 44)⟩,
    ⟨some 8, none, .mv (.s 45)⟩] [] [8]) .ret)
def c15_1 : ACode :=
  (.seq (.region false [⟨some 25, none, .ld true 7 (.s 9)⟩,
    ⟨some 26, none, .mv (.s 2)⟩,
    ⟨some 27, none, .call 50 [(.s 25), (.s 26)]⟩,
    ⟨some 24, none, .mv (.s 27)⟩,
    ⟨some 28, none, .ext (.s 24) 0⟩,
    ⟨some 29, none, .ext (.s 24) 1⟩,
    ⟨some 11, none, .alloc [.t (.str []), .nils, .t (.str []), .nils, .nils]⟩,
    ⟨none, none, .st 5 (.s 11) (.s 28)⟩,
    ⟨some 12, none, .mv (.s 29)⟩] [] [4, 7, 11, 12]) c15_0)
def c15_2 : ACode :=
  (.seq (.region false [⟨some 19, none, .ld true 1 (.s 4)⟩,
    ⟨some 20, none, .mv (.s 1)⟩,
    ⟨some 21, none, .call 49 [(.s 19), (.s 20)]⟩,
    ⟨some 18, none, .mv (.s 21)⟩,
    ⟨some 22, none, .ext (.s 18) 0⟩,
    ⟨some 23, none, .ext (.s 18) 1⟩,
    ⟨some 9, none, .alloc [.t (.int .i64 0), .t (.str []), .nils, .nils, .nils, .nils, .nils]⟩,
    ⟨none, none, .st 7 (.s 9) (.s 22)⟩,
    ⟨some 10, none, .mv (.s 23)⟩] [] [2, 4, 7, 9]) c15_1)
def c15_3 : ACode :=
  (.seq (.region false [⟨some 8, none, .cst (.t (.bool false))⟩] [] [8]) .ret)
def c15_4 : ACode :=
  (.cond (.s 17) c15_3 .skip)
def c15_5 : ACode :=
  (.seq (.seq (.region false [⟨some 13, none, .ld true 1 (.s 4)⟩,
    ⟨some 14, none, .mv (.s 1)⟩,
    ⟨some 15, none, .ld true 2 (.s 7)⟩,
    ⟨some 16, none, .call 17 [(.s 13), (.s 14), (.s 15)]⟩,
    ⟨some 17, none, .un .not (.s 16)⟩] [] [1, 2, 4, 7, 17]) c15_4) c15_2)
def c15 : ACode :=
  (.seq (.region false [⟨some 4, none, .box 1 (.s 0)⟩,
    ⟨some 7, none, .box 2 (.s 3)⟩,
    ⟨some 8, none, .cst (.t (.bool false))⟩] [] [1, 2, 4, 7]) c15_5)
def r15 : List ARes := [.tmp 8]
def n15 : Nat := 46
/- 16 supergraph supergraphref43.May -/
def c16_0 : ACode :=
  (.seq (.region false [⟨some 30, none, .mv (.s 12)⟩,
    ⟨some 31, none, .un .not (.s 30)⟩,
    ⟨some 32, none, .mv (.s 31)⟩,
    ⟨some 33, some (32, false), .fa 4 (.s 11)⟩,
    ⟨some 34, some (32, false), .ld false 1 (.s 33)⟩,
    ⟨some 35, some (32, false), .ld true 2 (.s 7)⟩,
    ⟨some 36, some (32, false), .call 54 [(.s 34), (.s 35)]⟩,
    ⟨some 37, some (32, false), .mv (.s 36)⟩,
    ⟨some 38, some (37, true), .ld true 1 (.s 4)⟩,
    ⟨some 39, some (37, true), .fa 2 (.s 11)⟩,
    ⟨some 40, some (37, true), .fa 0 (.s 39)⟩,
    ⟨some 41, some (37, true), .ld false 1 (.s 40)⟩,
    ⟨some 42, some (37, true), .ld true 2 (.s 7)⟩,
    ⟨some 43, some (37, true), .call 18 [(.s 38), (.s 41), (.s 42)]⟩,
    ⟨some 44, some (32, false), .pick (.s 37) (.s 43) (.c (.t (.bool false)))⟩,
    ⟨some 45, none, .pick (.s 32) (.c (.t (.bool true))) (.s 44)⟩,
    ⟨some 8, none, .mv (.s 45)⟩] [] [8]) .ret)
def c16_1 : ACode :=
  (.seq (.region false [⟨some 25, none, .ld true 7 (.s 9)⟩,
    ⟨some 26, none, .mv (.s 2)⟩,
    ⟨some 27, none, .call 53 [(.s 25), (.s 26)]⟩,
    ⟨some 24, none, .mv (.s 27)⟩,
    ⟨some 28, none, .ext (.s 24) 0⟩,
    ⟨some 29, none, .ext (.s 24) 1⟩,
    ⟨some 11, none, .alloc [.t (.str []), .nils, .t (.str []), .nils, .nils]⟩,
    ⟨none, none, .st 5 (.s 11) (.s 28)⟩,
    ⟨some 12, none, .mv (.s 29)⟩] [] [4, 7, 11, 12]) c16_0)
def c16_2 : ACode :=
  (.seq (.region false [⟨some 19, none, .ld true 1 (.s 4)⟩,
    ⟨some 20, none, .mv (.s 1)⟩,
    ⟨some 21, none, .call 52 [(.s 19), (.s 20)]⟩,
    ⟨some 18, none, .mv (.s 21)⟩,
    ⟨some 22, none, .ext (.s 18) 0⟩,
    ⟨some 23, none, .ext (.s 18) 1⟩,
    ⟨some 9, none, .alloc [.t (.int .i64 0), .t (.str []), .nils, .nils, .nils, .nils, .nils]⟩,
    ⟨none, none, .st 7 (.s 9) (.s 22)⟩,
    ⟨some 10, none, .mv (.s 23)⟩] [] [2, 4, 7, 9]) c16_1)
def c16_3 : ACode :=
  (.seq (.region false [⟨some 8, none, .cst (.t (.bool false))⟩] [] [8]) .ret)
def c16_4 : ACode :=
  (.cond (.s 17) c16_3 .skip)
def c16_5 : ACode :=
  (.seq (.seq (.region false [⟨some 13, none, .ld true 1 (.s 4)⟩,
    ⟨some 14, none, .mv (.s 1)⟩,
    ⟨some 15, none, .ld true 2 (.s 7)⟩,
    ⟨some 16, none, .call 18 [(.s 13), (.s 14), (.s 15)]⟩,
    ⟨some 17, none, .un .not (.s 16)⟩] [] [1, 2, 4, 7, 17]) c16_4) c16_2)
def c16 : ACode :=
  (.seq (.region false [⟨some 4, none, .box 1 (.s 0)⟩,
    ⟨some 7, none, .box 2 (.s 3)⟩,
    ⟨some 8, none, .cst (.t (.bool false))⟩] [] [1, 2, 4, 7]) c16_5)
def r16 : List ARes := [.tmp 8]
def n16 : Nat := 46
/- 17 supergraph auth.Type -/
def c17_0 : ACode :=
  (.seq (.region false [⟨some 15, none, .mv (.s 8)⟩,
    ⟨some 16, none, .un .not (.s 15)⟩,
    ⟨some 17, none, .mv (.s 16)⟩,
    ⟨some 18, some (17, false), .fa 3 (.s 7)⟩,
    ⟨some 19, some (17, false), .ld false 1 (.s 18)⟩,
    ⟨some 20, some (17, false), .ld true 2 (.s 5)⟩,
    ⟨some 21, some (17, false), .call 51 [(.s 19), (.s 20)]⟩,
    ⟨some 22, none, .pick (.s 17) (.c (.t (.bool true))) (.s 21)⟩,
    ⟨some 6, none, .mv (.s 22)⟩] [] [6]) .ret)
def c17_1 : ACode :=
  (.seq (.region false [⟨some 10, none, .ld true 1 (.s 3)⟩,
    ⟨some 11, none, .mv (.s 1)⟩,
    ⟨some 12, none, .call 49 [(.s 10), (.s 11)]⟩,
    ⟨some 9, none, .mv (.s 12)⟩,
    ⟨some 13, none, .ext (.s 9) 0⟩,
    ⟨some 14, none, .ext (.s 9) 1⟩,
    ⟨some 7, none, .alloc [.t (.int .i64 0), .t (.str []), .nils, .nils, .nils, .nils, .nils]⟩,
    ⟨none, none, .st 7 (.s 7) (.s 13)⟩,
    ⟨some 8, none, .mv (.s 14)⟩] [] [5, 7, 8]) c17_0)
def c17 : ACode :=
  (.seq (.region false [⟨some 3, none, .box 1 (.s 0)⟩,
    ⟨some 5, none, .box 2 (.s 2)⟩,
    ⟨some 6, none, .cst (.t (.bool false))⟩] [] [1, 3, 5]) c17_1)
def r17 : List ARes := [.tmp 6]
def n17 : Nat := 23
/- 18 supergraph supergraphref43.Type -/
def c18_0 : ACode :=
  (.seq (.region false [⟨some 15, none, .mv (.s 8)⟩,
    ⟨some 16, none, .un .not (.s 15)⟩,
    ⟨some 17, none, .mv (.s 16)⟩,
    ⟨some 18, some (17, false), .fa 3 (.s 7)⟩,
    ⟨some 19, some (17, false), .ld false 1 (.s 18)⟩,
    ⟨some 20, some (17, false), .ld true 2 (.s 5)⟩,
    ⟨some 21, some (17, false), .call 54 [(.s 19), (.s 20)]⟩,
    ⟨some 22, none, .pick (.s 17) (.c (.t (.bool true))) (.s 21)⟩,
    ⟨some 6, none, .mv (.s 22)⟩] [] [6]) .ret)
def c18_1 : ACode :=
  (.seq (.region false [⟨some 10, none, .ld true 1 (.s 3)⟩,
    ⟨some 11, none, .mv (.s 1)⟩,
    ⟨some 12, none, .call 52 [(.s 10), (.s 11)]⟩,
    ⟨some 9, none, .mv (.s 12)⟩,
    ⟨some 13, none, .ext (.s 9) 0⟩,
    ⟨some 14, none, .ext (.s 9) 1⟩,
    ⟨some 7, none, .alloc [.t (.int .i64 0), .t (.str []), .nils, .nils, .nils, .nils, .nils]⟩,
    ⟨none, none, .st 7 (.s 7) (.s 13)⟩,
    ⟨some 8, none, .mv (.s 14)⟩] [] [5, 7, 8]) c18_0)
def c18 : ACode :=
  (.seq (.region false [⟨some 3, none, .box 1 (.s 0)⟩,
    ⟨some 5, none, .box 2 (.s 2)⟩,
    ⟨some 6, none, .cst (.t (.bool false))⟩] [] [1, 3, 5]) c18_1)
def r18 : List ARes := [.tmp 6]
def n18 : Nat := 23
/- 19 supergraph auth.Filter -/
def c19_0 : ACode :=
  (.seq (.region false [⟨some 8, none, .ld true 1 (.s 3)⟩,
    ⟨some 9, none, .mv (.s 1)⟩,
    ⟨some 10, none, .ld true 2 (.s 5)⟩,
    ⟨some 11, none, .call 55 [(.s 8), (.s 9), (.s 10), (.c (.nils))]⟩,
    ⟨some 12, none, .ext (.s 11) 0⟩,
    ⟨some 13, none, .ext (.s 11) 1⟩,
    ⟨some 6, none, .mv (.s 12)⟩,
    ⟨some 7, none, .mv (.s 13)⟩] [] [6, 7]) .ret)
def c19 : ACode :=
  (.seq (.region false [⟨some 3, none, .box 1 (.s 0)⟩,
    ⟨some 5, none, .box 2 (.s 2)⟩,
    ⟨some 6, none, .cst (.nils)⟩,
    ⟨some 7, none, .cst (.nils)⟩] [] [1, 3, 5]) c19_0)
def r19 : List ARes := [.tmp 6, .tmp 7]
def n19 : Nat := 14
/- 20 supergraph supergraphref43.Filter -/
def c20_0 : ACode :=
  (.seq (.region false [⟨some 8, none, .ld true 1 (.s 3)⟩,
    ⟨some 9, none, .mv (.s 1)⟩,
    ⟨some 10, none, .ld true 2 (.s 5)⟩,
    ⟨some 11, none, .call 56 [(.s 8), (.s 9), (.s 10), (.c (.nils))]⟩,
    ⟨some 12, none, .ext (.s 11) 0⟩,
    ⟨some 13, none, .ext (.s 11) 1⟩,
    ⟨some 6, none, .mv (.s 12)⟩,
    ⟨some 7, none, .mv (.s 13)⟩] [] [6, 7]) .ret)
def c20 : ACode :=
  (.seq (.region false [⟨some 3, none, .box 1 (.s 0)⟩,
    ⟨some 5, none, .box 2 (.s 2)⟩,
    ⟨some 6, none, .cst (.nils)⟩,
    ⟨some 7, none, .cst (.nils)⟩] [] [1, 3, 5]) c20_0)
def r20 : List ARes := [.tmp 6, .tmp 7]
def n20 : Nat := 14
/- 21 supergraph supergraphref19.Same -/
def c21_0 : ACode :=
  (.seq (.region false [⟨some 4, none, .cst (.t (.bool true))⟩] [] [4]) .ret)
def c21_1 : ACode :=
  (.region false [⟨some 18, none, .mv (.s 5)⟩,
    ⟨some 19, none, .bin .add (.s 18) (.c (.t (.int .i64 1)))⟩,
    ⟨some 5, none, .mv (.s 19)⟩] [] [0, 1, 5])
def c21_2 : ACode :=
  (.region false [⟨some 91, none, .mv (.s 8)⟩,
    ⟨some 92, none, .bin .add (.s 91) (.c (.t (.int .i64 1)))⟩,
    ⟨some 8, none, .mv (.s 92)⟩] [] [0, 1, 5, 6, 7, 8])
def c21_3 : ACode :=
  (.seq (.region false [⟨some 4, none, .cst (.t (.bool false))⟩] [] [4]) .ret)
def c21_4 : ACode :=
  (.cond (.s 121) c21_3 .skip)
def c21_5 : ACode :=
  (.seq (.region true [⟨some 93, none, .fa 3 (.s 6)⟩,
    ⟨some 94, none, .ld false 1 (.s 93)⟩,
    ⟨some 95, none, .mv (.s 8)⟩,
    ⟨some 96, none, .ia 6 (.s 94) (.s 95)⟩,
    ⟨some 97, none, .fa 0 (.s 96)⟩,
    ⟨some 98, none, .ld false 1 (.s 97)⟩,
    ⟨some 99, none, .fa 3 (.s 7)⟩,
    ⟨some 100, none, .ld false 1 (.s 99)⟩,
    ⟨some 101, none, .mv (.s 8)⟩,
    ⟨some 102, none, .ia 6 (.s 100) (.s 101)⟩,
    ⟨some 103, none, .fa 0 (.s 102)⟩,
    ⟨some 104, none, .ld false 1 (.s 103)⟩,
    ⟨some 105, none, .bin .neq (.s 98) (.s 104)⟩,
    ⟨some 106, none, .mv (.s 105)⟩,
    ⟨some 107, some (106, false), .fa 3 (.s 6)⟩,
    ⟨some 108, some (106, false), .ld false 1 (.s 107)⟩,
    ⟨some 109, some (106, false), .mv (.s 8)⟩,
    ⟨some 110, some (106, false), .ia 6 (.s 108) (.s 109)⟩,
    ⟨some 111, some (106, false), .fa 1 (.s 110)⟩,
    ⟨some 112, some (106, false), .ld true 5 (.s 111)⟩,
    ⟨some 113, some (106, false), .fa 3 (.s 7)⟩,
    ⟨some 114, some (106, false), .ld false 1 (.s 113)⟩,
    ⟨some 115, some (106, false), .mv (.s 8)⟩,
    ⟨some 116, some (106, false), .ia 6 (.s 114) (.s 115)⟩,
    ⟨some 117, some (106, false), .fa 1 (.s 116)⟩,
    ⟨some 118, some (106, false), .ld true 5 (.s 117)⟩,
    ⟨some 119, some (106, false), .call 58 [(.s 112), (.s 118)]⟩,
    ⟨some 120, some (106, false), .un .not (.s 119)⟩,
    ⟨some 121, none, .pick (.s 106) (.c (.t (.bool true))) (.s 120)⟩] [[], [0], [], [1, 2], [3], [4], [], [6], [], [7, 8], [9], [10], [5, 11], [12], [13], [14, 13], [13], [15, 16, 13], [17, 13], [18, 13], [13], [20, 13], [13], [21, 22, 13], [23, 13], [24, 13], [19, 25, 13, 13], [26, 13], [13, 27]] [0, 1, 5, 6, 7, 8, 121]) c21_4)
def c21_6 : ACode :=
  (.seq (.block 3 c21_5) c21_2)
def c21_7 : ACode :=
  (.cond (.s 90) .skip (.exit 2))
def c21_8 : ACode :=
  (.seq (.seq (.region false [⟨some 86, none, .mv (.s 8)⟩,
    ⟨some 87, none, .fa 3 (.s 6)⟩,
    ⟨some 88, none, .ld false 1 (.s 87)⟩,
    ⟨some 89, none, .len (.s 88)⟩,
    ⟨some 90, none, .bin .lss (.s 86) (.s 89)⟩] [] [0, 1, 5, 6, 7, 8, 90]) c21_7) c21_6)
def c21_9 : ACode :=
  (.loop c21_8)
def c21_10 : ACode :=
  (.block 2 c21_9)
def c21_11 : ACode :=
  (.seq (.region false [⟨some 8, none, .cst (.t (.int .i64 0))⟩] [] [0, 1, 5, 6, 7, 8]) c21_10)
def c21_12 : ACode :=
  (.seq (.region false [⟨some 4, none, .cst (.t (.bool false))⟩] [] [4]) .ret)
def c21_13 : ACode :=
  (.cond (.s 85) c21_12 .skip)
def c21_14 : ACode :=
  (.seq (.seq (.region false [⟨some 28, none, .fa 0 (.s 6)⟩,
    ⟨some 29, none, .ld false 1 (.s 28)⟩,
    ⟨some 30, none, .fa 0 (.s 7)⟩,
    ⟨some 31, none, .ld false 1 (.s 30)⟩,
    ⟨some 32, none, .bin .neq (.s 29) (.s 31)⟩,
    ⟨some 33, none, .mv (.s 32)⟩,
    ⟨some 34, some (33, false), .fa 1 (.s 6)⟩,
    ⟨some 35, some (33, false), .ld false 1 (.s 34)⟩,
    ⟨some 36, some (33, false), .fa 1 (.s 7)⟩,
    ⟨some 37, some (33, false), .ld false 1 (.s 36)⟩,
    ⟨some 38, some (33, false), .bin .neq (.s 35) (.s 37)⟩,
    ⟨some 39, none, .pick (.s 33) (.c (.t (.bool true))) (.s 38)⟩,
    ⟨some 40, none, .mv (.s 39)⟩,
    ⟨some 41, some (40, false), .fa 2 (.s 6)⟩,
    ⟨some 42, some (40, false), .ld false 1 (.s 41)⟩,
    ⟨some 43, some (40, false), .fa 2 (.s 7)⟩,
    ⟨some 44, some (40, false), .ld false 1 (.s 43)⟩,
    ⟨some 45, some (40, false), .bin .neq (.s 42) (.s 44)⟩,
    ⟨some 46, none, .pick (.s 40) (.c (.t (.bool true))) (.s 45)⟩,
    ⟨some 47, none, .mv (.s 46)⟩,
    ⟨some 48, some (47, false), .fa 6 (.s 6)⟩,
    ⟨some 49, some (47, false), .ld false 1 (.s 48)⟩,
    ⟨some 50, some (47, false), .fa 6 (.s 7)⟩,
    ⟨some 51, some (47, false), .ld false 1 (.s 50)⟩,
    ⟨some 52, some (47, false), .bin .neq (.s 49) (.s 51)⟩,
    ⟨some 53, none, .pick (.s 47) (.c (.t (.bool true))) (.s 52)⟩,
    ⟨some 54, none, .mv (.s 53)⟩,
    ⟨some 55, some (54, false), .fa 7 (.s 6)⟩,
    ⟨some 56, some (54, false), .ld false 1 (.s 55)⟩,
    ⟨some 57, some (54, false), .fa 7 (.s 7)⟩,
    ⟨some 58, some (54, false), .ld false 1 (.s 57)⟩,
    ⟨some 59, some (54, false), .bin .neq (.s 56) (.s 58)⟩,
    ⟨some 60, none, .pick (.s 54) (.c (.t (.bool true))) (.s 59)⟩,
    ⟨some 61, none, .mv (.s 60)⟩,
    ⟨some 62, some (61, false), .fa 4 (.s 6)⟩,
    ⟨some 63, some (61, false), .ld true 2 (.s 62)⟩,
    ⟨some 64, some (61, false), .fa 4 (.s 7)⟩,
    ⟨some 65, some (61, false), .ld true 2 (.s 64)⟩,
    ⟨some 66, some (61, false), .call 57 [(.s 63), (.s 65)]⟩,
    ⟨some 67, some (61, false), .un .not (.s 66)⟩,
    ⟨some 68, none, .pick (.s 61) (.c (.t (.bool true))) (.s 67)⟩,
    ⟨some 69, none, .mv (.s 68)⟩,
    ⟨some 70, some (69, false), .fa 3 (.s 6)⟩,
    ⟨some 71, some (69, false), .ld false 1 (.s 70)⟩,
    ⟨some 72, some (69, false), .len (.s 71)⟩,
    ⟨some 73, some (69, false), .fa 3 (.s 7)⟩,
    ⟨some 74, some (69, false), .ld false 1 (.s 73)⟩,
    ⟨some 75, some (69, false), .len (.s 74)⟩,
    ⟨some 76, some (69, false), .bin .neq (.s 72) (.s 75)⟩,
    ⟨some 77, none, .pick (.s 69) (.c (.t (.bool true))) (.s 76)⟩,
    ⟨some 78, none, .mv (.s 77)⟩,
    ⟨some 79, some (78, false), .fa 8 (.s 6)⟩,
    ⟨some 80, some (78, false), .ld false 1 (.s 79)⟩,
    ⟨some 81, some (78, false), .fa 8 (.s 7)⟩,
    ⟨some 82, some (78, false), .ld false 1 (.s 81)⟩,
    ⟨some 83, some (78, false), .call 21 [(.s 80), (.s 82)]⟩,
    ⟨some 84, some (78, false), .un .not (.s 83)⟩,
    ⟨some 85, none, .pick (.s 78) (.c (.t (.bool true))) (.s 84)⟩] [] [0, 1, 5, 6, 7, 85]) c21_13) c21_11)
def c21_15 : ACode :=
  (.seq (.region true [⟨some 20, none, .mv (.s 0)⟩,
    ⟨some 21, none, .mv (.s 5)⟩,
    ⟨some 22, none, .ia 9 (.s 20) (.s 21)⟩,
    ⟨some 23, none, .ld true 9 (.s 22)⟩,
    ⟨some 24, none, .mv (.s 1)⟩,
    ⟨some 25, none, .mv (.s 5)⟩,
    ⟨some 26, none, .ia 9 (.s 24) (.s 25)⟩,
    ⟨some 27, none, .ld true 9 (.s 26)⟩,
    ⟨some 6, none, .alloc [.t (.str []), .t (.str []), .t (.str []), .nils, .t (.str []), .nils, .t (.str []), .t (.int .i64 0), .nils]⟩,
    ⟨some 7, none, .alloc [.t (.str []), .t (.str []), .t (.str []), .nils, .t (.str []), .nils, .t (.str []), .t (.int .i64 0), .nils]⟩,
    ⟨none, none, .st 9 (.s 6) (.s 23)⟩,
    ⟨none, none, .st 9 (.s 7) (.s 27)⟩] [[], [], [0, 1], [2], [], [], [4, 5], [6], [], [], [8, 3, 0, 1, 2, 3, 8, 9], [9, 7, 10, 0, 1, 2, 3, 4, 5, 6, 7, 8, 9, 10]] [0, 1, 5, 6, 7]) c21_14)
def c21_16 : ACode :=
  (.seq (.block 1 c21_15) c21_1)
def c21_17 : ACode :=
  (.cond (.s 17) .skip (.exit 0))
def c21_18 : ACode :=
  (.seq (.seq (.region false [⟨some 14, none, .mv (.s 5)⟩,
    ⟨some 15, none, .mv (.s 0)⟩,
    ⟨some 16, none, .len (.s 15)⟩,
    ⟨some 17, none, .bin .lss (.s 14) (.s 16)⟩] [] [0, 1, 5, 17]) c21_17) c21_16)
def c21_19 : ACode :=
  (.loop c21_18)
def c21_20 : ACode :=
  (.block 0 c21_19)
def c21_21 : ACode :=
  (.seq (.seq (.region false [⟨some 5, none, .cst (.t (.int .i64 0))⟩] [] [0, 1, 5]) c21_20) c21_0)
def c21_22 : ACode :=
  (.seq (.region false [⟨some 4, none, .cst (.t (.bool false))⟩] [] [4]) .ret)
def c21_23 : ACode :=
  (.cond (.s 13) c21_22 .skip)
def c21_24 : ACode :=
  (.seq (.seq (.region false [⟨some 9, none, .mv (.s 0)⟩,
    ⟨some 10, none, .len (.s 9)⟩,
    ⟨some 11, none, .mv (.s 1)⟩,
    ⟨some 12, none, .len (.s 11)⟩,
    ⟨some 13, none, .bin .neq (.s 10) (.s 12)⟩] [] [0, 1, 13]) c21_23) c21_21)
def c21 : ACode :=
  (.seq (.region false [⟨some 4, none, .cst (.t (.bool false))⟩] [] [0, 1]) c21_24)
def r21 : List ARes := [.tmp 4]
def n21 : Nat := 122
/- 22 supergraph supergraphref43.SamePaths -/
def c22_0 : ACode :=
  (.seq (.region false [⟨some 4, none, .cst (.t (.bool true))⟩] [] [4]) .ret)
def c22_1 : ACode :=
  (.region false [⟨some 16, none, .mv (.s 5)⟩,
    ⟨some 17, none, .bin .add (.s 16) (.c (.t (.int .i64 1)))⟩,
    ⟨some 5, none, .mv (.s 17)⟩] [] [0, 1, 5])
def c22_2 : ACode :=
  (.region false [⟨some 36, none, .mv (.s 6)⟩,
    ⟨some 37, none, .bin .add (.s 36) (.c (.t (.int .i64 1)))⟩,
    ⟨some 6, none, .mv (.s 37)⟩] [] [0, 1, 5, 6])
def c22_3 : ACode :=
  (.seq (.region false [⟨some 4, none, .cst (.t (.bool false))⟩] [] [4]) .ret)
def c22_4 : ACode :=
  (.cond (.s 52) c22_3 .skip)
def c22_5 : ACode :=
  (.seq (.region true [⟨some 38, none, .mv (.s 0)⟩,
    ⟨some 39, none, .mv (.s 5)⟩,
    ⟨some 40, none, .ia 1 (.s 38) (.s 39)⟩,
    ⟨some 41, none, .ld false 1 (.s 40)⟩,
    ⟨some 42, none, .mv (.s 6)⟩,
    ⟨some 43, none, .ia 2 (.s 41) (.s 42)⟩,
    ⟨some 44, none, .ld true 2 (.s 43)⟩,
    ⟨some 45, none, .mv (.s 1)⟩,
    ⟨some 46, none, .mv (.s 5)⟩,
    ⟨some 47, none, .ia 1 (.s 45) (.s 46)⟩,
    ⟨some 48, none, .ld false 1 (.s 47)⟩,
    ⟨some 49, none, .mv (.s 6)⟩,
    ⟨some 50, none, .ia 2 (.s 48) (.s 49)⟩,
    ⟨some 51, none, .ld true 2 (.s 50)⟩,
    ⟨some 52, none, .nw (.eqst true [.str, .str] (.s 44) (.s 51))⟩] [[], [], [0, 1], [2], [], [3, 4], [5], [], [], [7, 8], [9], [], [10, 11], [12], [6, 13]] [0, 1, 5, 6, 52]) c22_4)
def c22_6 : ACode :=
  (.seq (.block 3 c22_5) c22_2)
def c22_7 : ACode :=
  (.cond (.s 35) .skip (.exit 2))
def c22_8 : ACode :=
  (.seq (.seq (.region false [⟨some 29, none, .mv (.s 6)⟩,
    ⟨some 30, none, .mv (.s 0)⟩,
    ⟨some 31, none, .mv (.s 5)⟩,
    ⟨some 32, none, .ia 1 (.s 30) (.s 31)⟩,
    ⟨some 33, none, .ld false 1 (.s 32)⟩,
    ⟨some 34, none, .len (.s 33)⟩,
    ⟨some 35, none, .bin .lss (.s 29) (.s 34)⟩] [] [0, 1, 5, 6, 35]) c22_7) c22_6)
def c22_9 : ACode :=
  (.loop c22_8)
def c22_10 : ACode :=
  (.block 2 c22_9)
def c22_11 : ACode :=
  (.seq (.region false [⟨some 6, none, .cst (.t (.int .i64 0))⟩] [] [0, 1, 5, 6]) c22_10)
def c22_12 : ACode :=
  (.seq (.region false [⟨some 4, none, .cst (.t (.bool false))⟩] [] [4]) .ret)
def c22_13 : ACode :=
  (.cond (.s 28) c22_12 .skip)
def c22_14 : ACode :=
  (.seq (.seq (.region true [⟨some 18, none, .mv (.s 0)⟩,
    ⟨some 19, none, .mv (.s 5)⟩,
    ⟨some 20, none, .ia 1 (.s 18) (.s 19)⟩,
    ⟨some 21, none, .ld false 1 (.s 20)⟩,
    ⟨some 22, none, .len (.s 21)⟩,
    ⟨some 23, none, .mv (.s 1)⟩,
    ⟨some 24, none, .mv (.s 5)⟩,
    ⟨some 25, none, .ia 1 (.s 23) (.s 24)⟩,
    ⟨some 26, none, .ld false 1 (.s 25)⟩,
    ⟨some 27, none, .len (.s 26)⟩,
    ⟨some 28, none, .bin .neq (.s 22) (.s 27)⟩] [[], [], [0, 1], [2], [3], [], [], [5, 6], [7], [8], [4, 9]] [0, 1, 5, 28]) c22_13) c22_11)
def c22_15 : ACode :=
  (.seq (.block 1 c22_14) c22_1)
def c22_16 : ACode :=
  (.cond (.s 15) .skip (.exit 0))
def c22_17 : ACode :=
  (.seq (.seq (.region false [⟨some 12, none, .mv (.s 5)⟩,
    ⟨some 13, none, .mv (.s 0)⟩,
    ⟨some 14, none, .len (.s 13)⟩,
    ⟨some 15, none, .bin .lss (.s 12) (.s 14)⟩] [] [0, 1, 5, 15]) c22_16) c22_15)
def c22_18 : ACode :=
  (.loop c22_17)
def c22_19 : ACode :=
  (.block 0 c22_18)
def c22_20 : ACode :=
  (.seq (.seq (.region false [⟨some 5, none, .cst (.t (.int .i64 0))⟩] [] [0, 1, 5]) c22_19) c22_0)
def c22_21 : ACode :=
  (.seq (.region false [⟨some 4, none, .cst (.t (.bool false))⟩] [] [4]) .ret)
def c22_22 : ACode :=
  (.cond (.s 11) c22_21 .skip)
def c22_23 : ACode :=
  (.seq (.seq (.region false [⟨some 7, none, .mv (.s 0)⟩,
    ⟨some 8, none, .len (.s 7)⟩,
    ⟨some 9, none, .mv (.s 1)⟩,
    ⟨some 10, none, .len (.s 9)⟩,
    ⟨some 11, none, .bin .neq (.s 8) (.s 10)⟩] [] [0, 1, 11]) c22_22) c22_20)
def c22 : ACode :=
  (.seq (.region false [⟨some 4, none, .cst (.t (.bool false))⟩] [] [0, 1]) c22_23)
def r22 : List ARes := [.tmp 4]
def n22 : Nat := 53
/- 23 supergraph supergraphref03.Weight -/
def c23_0 : ACode :=
  (.seq (.region false [⟨some 54, none, .mv (.s 5)⟩,
    ⟨some 4, none, .mv (.s 54)⟩] [] [4]) .ret)
def c23_1 : ACode :=
  (.region false [⟨some 43, none, .mv (.s 7)⟩,
    ⟨some 44, none, .bin .add (.s 43) (.c (.t (.int .i64 1)))⟩,
    ⟨some 7, none, .mv (.s 44)⟩] [] [1, 2, 5, 7])
def c23_2 : ACode :=
  (.region false [⟨some 45, none, .mv (.s 5)⟩,
    ⟨some 46, none, .fa 3 (.s 2)⟩,
    ⟨some 47, none, .ld false 1 (.s 46)⟩,
    ⟨some 48, none, .mv (.s 7)⟩,
    ⟨some 49, none, .ia 5 (.s 47) (.s 48)⟩,
    ⟨some 50, none, .ld true 5 (.s 49)⟩,
    ⟨some 51, none, .mv (.s 1)⟩,
    ⟨some 52, none, .call 23 [(.s 50), (.s 51)]⟩,
    ⟨some 53, none, .bin .add (.s 45) (.s 52)⟩,
    ⟨some 5, none, .mv (.s 53)⟩] [] [1, 2, 5, 7])
def c23_3 : ACode :=
  (.seq (.block 3 c23_2) c23_1)
def c23_4 : ACode :=
  (.cond (.s 42) .skip (.exit 2))
def c23_5 : ACode :=
  (.seq (.seq (.region false [⟨some 33, none, .mv (.s 7)⟩,
    ⟨some 34, none, .fa 3 (.s 2)⟩,
    ⟨some 35, none, .ld false 1 (.s 34)⟩,
    ⟨some 36, none, .len (.s 35)⟩,
    ⟨some 37, none, .bin .lss (.s 33) (.s 36)⟩,
    ⟨some 38, none, .mv (.s 37)⟩,
    ⟨some 39, some (38, true), .mv (.s 5)⟩,
    ⟨some 40, some (38, true), .mv (.s 1)⟩,
    ⟨some 41, some (38, true), .bin .leq (.s 39) (.s 40)⟩,
    ⟨some 42, none, .pick (.s 38) (.s 41) (.c (.t (.bool false)))⟩] [] [1, 2, 5, 7, 42]) c23_4) c23_3)
def c23_6 : ACode :=
  (.loop c23_5)
def c23_7 : ACode :=
  (.block 2 c23_6)
def c23_8 : ACode :=
  (.seq (.seq (.region false [⟨some 7, none, .cst (.t (.int .i64 0))⟩] [] [1, 2, 5, 7]) c23_7) c23_0)
def c23_9 : ACode :=
  (.region false [⟨some 22, none, .mv (.s 6)⟩,
    ⟨some 23, none, .bin .add (.s 22) (.c (.t (.int .i64 1)))⟩,
    ⟨some 6, none, .mv (.s 23)⟩] [] [1, 2, 5, 6])
def c23_10 : ACode :=
  (.region false [⟨some 24, none, .mv (.s 5)⟩,
    ⟨some 25, none, .bin .add (.s 24) (.c (.t (.int .i64 1)))⟩,
    ⟨some 26, none, .fa 4 (.s 2)⟩,
    ⟨some 27, none, .ld false 1 (.s 26)⟩,
    ⟨some 28, none, .mv (.s 6)⟩,
    ⟨some 29, none, .ia 1 (.s 27) (.s 28)⟩,
    ⟨some 30, none, .ld false 1 (.s 29)⟩,
    ⟨some 31, none, .lens (.s 30)⟩,
    ⟨some 32, none, .bin .add (.s 25) (.s 31)⟩,
    ⟨some 5, none, .mv (.s 32)⟩] [] [1, 2, 5, 6])
def c23_11 : ACode :=
  (.seq (.block 1 c23_10) c23_9)
def c23_12 : ACode :=
  (.cond (.s 21) .skip (.exit 0))
def c23_13 : ACode :=
  (.seq (.seq (.region false [⟨some 12, none, .mv (.s 6)⟩,
    ⟨some 13, none, .fa 4 (.s 2)⟩,
    ⟨some 14, none, .ld false 1 (.s 13)⟩,
    ⟨some 15, none, .len (.s 14)⟩,
    ⟨some 16, none, .bin .lss (.s 12) (.s 15)⟩,
    ⟨some 17, none, .mv (.s 16)⟩,
    ⟨some 18, some (17, true), .mv (.s 5)⟩,
    ⟨some 19, some (17, true), .mv (.s 1)⟩,
    ⟨some 20, some (17, true), .bin .leq (.s 18) (.s 19)⟩,
    ⟨some 21, none, .pick (.s 17) (.s 20) (.c (.t (.bool false)))⟩] [] [1, 2, 5, 6, 21]) c23_12) c23_11)
def c23_14 : ACode :=
  (.loop c23_13)
def c23_15 : ACode :=
  (.block 0 c23_14)
def c23_16 : ACode :=
  (.seq (.seq (.region false [⟨some 6, none, .cst (.t (.int .i64 0))⟩] [] [1, 2, 5, 6]) c23_15) c23_8)
def c23_17 : ACode :=
  (.seq (.region false [⟨some 8, none, .fa 2 (.s 2)⟩,
    ⟨some 9, none, .ld false 1 (.s 8)⟩,
    ⟨some 10, none, .lens (.s 9)⟩,
    ⟨some 11, none, .bin .add (.c (.t (.int .i64 1))) (.s 10)⟩,
    ⟨some 5, none, .mv (.s 11)⟩] [] [1, 2, 5]) c23_16)
def c23 : ACode :=
  (.seq (.region false [⟨some 2, none, .box 5 (.s 0)⟩,
    ⟨some 4, none, .cst (.t (.int .i64 0))⟩] [] [1, 2]) c23_17)
def r23 : List ARes := [.tmp 4]
def n23 : Nat := 55
/- 24 supergraph auth.Mark -/
def c24_0 : ACode :=
  (.seq (.region false [⟨some 23, none, .mv (.s 1)⟩,
    ⟨some 24, none, .build [.nils] [(0, 1, (.s 23))]⟩,
    ⟨some 25, none, .mv (.s 0)⟩,
    ⟨some 26, none, .ld true 5 (.s 5)⟩,
    ⟨some 27, none, .call 60 [(.s 24), (.s 25), (.s 26), (.c (.nils))]⟩,
    ⟨none, none, .st 5 (.s 6) (.s 27)⟩] [] [6]) .ret)
def c24_1 : ACode :=
  (.region false [⟨some 15, none, .bsl true 1 [[.str []]] [(0, (.c (.t (.str [95, 95, 116]))))]⟩,
    ⟨some 16, none, .mv (.s 0)⟩,
    ⟨some 17, none, .ia 9 (.s 16) (.c (.t (.int .i64 0)))⟩,
    ⟨some 18, none, .fa 1 (.s 17)⟩,
    ⟨some 19, none, .ld false 1 (.s 18)⟩,
    ⟨some 20, none, .call 59 [(.s 19)]⟩,
    ⟨some 21, none, .bsl true 5 [[.int .i64 0, .int .i64 0, .str [], .lst [], .lst []]] [(0, (.s 20))]⟩,
    ⟨some 22, none, .build [.t (.int .i64 0), .t (.int .i64 0), .t (.str []), .nils, .nils] [(0, 1, (.c (.t (.int .i64 6)))), (4, 1, (.s 15)), (3, 1, (.s 21))]⟩,
    ⟨none, none, .st 5 (.s 5) (.s 22)⟩] [] [0, 1, 5, 6])
def c24_2 : ACode :=
  (.cond (.s 14) c24_1 .skip)
def c24_3 : ACode :=
  (.seq (.seq (.region false [⟨some 7, none, .fa 0 (.s 5)⟩,
    ⟨some 8, none, .ld false 1 (.s 7)⟩,
    ⟨some 9, none, .bin .eql (.s 8) (.c (.t (.int .i64 0)))⟩,
    ⟨some 10, none, .mv (.s 9)⟩,
    ⟨some 11, some (10, true), .mv (.s 0)⟩,
    ⟨some 12, some (10, true), .len (.s 11)⟩,
    ⟨some 13, some (10, true), .bin .gtr (.s 12) (.c (.t (.int .i64 0)))⟩,
    ⟨some 14, none, .pick (.s 10) (.s 13) (.c (.t (.bool false)))⟩] [] [0, 1, 5, 6, 14]) c24_2) c24_0)
def c24 : ACode :=
  (.seq (.region false [⟨some 5, none, .box 5 (.s 2)⟩,
    ⟨some 6, none, .alloc [.t (.int .i64 0), .t (.int .i64 0), .t (.str []), .nils, .nils]⟩] [] [0, 1, 5, 6]) c24_3)
def r24 : List ARes := [.cell 6 true 5]
def n24 : Nat := 28
/- 25 supergraph supergraphref43.Mark -/
def c25_0 : ACode :=
  (.seq (.region false [⟨some 23, none, .mv (.s 0)⟩,
    ⟨some 24, none, .mv (.s 1)⟩,
    ⟨some 25, none, .ld true 5 (.s 5)⟩,
    ⟨some 26, none, .call 61 [(.s 23), (.s 24), (.s 25), (.c (.nils))]⟩,
    ⟨none, none, .st 5 (.s 6) (.s 26)⟩] [] [6]) .ret)
def c25_1 : ACode :=
  (.region false [⟨some 15, none, .bsl true 1 [[.str []]] [(0, (.c (.t (.str [95, 95, 116]))))]⟩,
    ⟨some 16, none, .mv (.s 0)⟩,
    ⟨some 17, none, .ia 9 (.s 16) (.c (.t (.int .i64 0)))⟩,
    ⟨some 18, none, .fa 1 (.s 17)⟩,
    ⟨some 19, none, .ld false 1 (.s 18)⟩,
    ⟨some 20, none, .build [.t (.int .i64 0), .t (.int .i64 0), .t (.str []), .nils, .nils] [(0, 1, (.c (.t (.int .i64 3)))), (2, 1, (.s 19))]⟩,
    ⟨some 21, none, .bsl true 5 [[.int .i64 0, .int .i64 0, .str [], .lst [], .lst []]] [(0, (.s 20))]⟩,
    ⟨some 22, none, .build [.t (.int .i64 0), .t (.int .i64 0), .t (.str []), .nils, .nils] [(0, 1, (.c (.t (.int .i64 6)))), (4, 1, (.s 15)), (3, 1, (.s 21))]⟩,
    ⟨none, none, .st 5 (.s 5) (.s 22)⟩] [] [0, 1, 5, 6])
def c25_2 : ACode :=
  (.cond (.s 14) c25_1 .skip)
def c25_3 : ACode :=
  (.seq (.seq (.region false [⟨some 7, none, .fa 0 (.s 5)⟩,
    ⟨some 8, none, .ld false 1 (.s 7)⟩,
    ⟨some 9, none, .bin .eql (.s 8) (.c (.t (.int .i64 0)))⟩,
    ⟨some 10, none, .mv (.s 9)⟩,
    ⟨some 11, some (10, true), .mv (.s 0)⟩,
    ⟨some 12, some (10, true), .len (.s 11)⟩,
    ⟨some 13, some (10, true), .bin .gtr (.s 12) (.c (.t (.int .i64 0)))⟩,
    ⟨some 14, none, .pick (.s 10) (.s 13) (.c (.t (.bool false)))⟩] [] [0, 1, 5, 6, 14]) c25_2) c25_0)
def c25 : ACode :=
  (.seq (.region false [⟨some 5, none, .box 5 (.s 2)⟩,
    ⟨some 6, none, .alloc [.t (.int .i64 0), .t (.int .i64 0), .t (.str []), .nils, .nils]⟩] [] [0, 1, 5, 6]) c25_3)
def r25 : List ARes := [.cell 6 true 5]
def n25 : Nat := 27
/- 26 supergraph supergraphref03.Equal -/
def c26_0 : ACode :=
  (.seq (.region false [⟨some 4, none, .cst (.t (.bool true))⟩] [] [4]) .ret)
def c26_1 : ACode :=
  (.region false [⟨some 67, none, .mv (.s 6)⟩,
    ⟨some 68, none, .bin .add (.s 67) (.c (.t (.int .i64 1)))⟩,
    ⟨some 6, none, .mv (.s 68)⟩] [] [2, 3, 6])
def c26_2 : ACode :=
  (.seq (.region false [⟨some 4, none, .cst (.t (.bool false))⟩] [] [4]) .ret)
def c26_3 : ACode :=
  (.cond (.s 80) c26_2 .skip)
def c26_4 : ACode :=
  (.seq (.region true [⟨some 69, none, .fa 3 (.s 2)⟩,
    ⟨some 70, none, .ld false 1 (.s 69)⟩,
    ⟨some 71, none, .mv (.s 6)⟩,
    ⟨some 72, none, .ia 5 (.s 70) (.s 71)⟩,
    ⟨some 73, none, .ld true 5 (.s 72)⟩,
    ⟨some 74, none, .fa 3 (.s 3)⟩,
    ⟨some 75, none, .ld false 1 (.s 74)⟩,
    ⟨some 76, none, .mv (.s 6)⟩,
    ⟨some 77, none, .ia 5 (.s 75) (.s 76)⟩,
    ⟨some 78, none, .ld true 5 (.s 77)⟩,
    ⟨some 79, none, .call 26 [(.s 73), (.s 78)]⟩,
    ⟨some 80, none, .un .not (.s 79)⟩] [[], [0], [], [1, 2], [3], [], [5], [], [6, 7], [8], [4, 9], [10]] [2, 3, 6, 80]) c26_3)
def c26_5 : ACode :=
  (.seq (.block 3 c26_4) c26_1)
def c26_6 : ACode :=
  (.cond (.s 66) .skip (.exit 2))
def c26_7 : ACode :=
  (.seq (.seq (.region false [⟨some 62, none, .mv (.s 6)⟩,
    ⟨some 63, none, .fa 3 (.s 2)⟩,
    ⟨some 64, none, .ld false 1 (.s 63)⟩,
    ⟨some 65, none, .len (.s 64)⟩,
    ⟨some 66, none, .bin .lss (.s 62) (.s 65)⟩] [] [2, 3, 6, 66]) c26_6) c26_5)
def c26_8 : ACode :=
  (.loop c26_7)
def c26_9 : ACode :=
  (.block 2 c26_8)
def c26_10 : ACode :=
  (.seq (.seq (.region false [⟨some 6, none, .cst (.t (.int .i64 0))⟩] [] [2, 3, 6]) c26_9) c26_0)
def c26_11 : ACode :=
  (.region false [⟨some 49, none, .mv (.s 5)⟩,
    ⟨some 50, none, .bin .add (.s 49) (.c (.t (.int .i64 1)))⟩,
    ⟨some 5, none, .mv (.s 50)⟩] [] [2, 3, 5])
def c26_12 : ACode :=
  (.seq (.region false [⟨some 4, none, .cst (.t (.bool false))⟩] [] [4]) .ret)
def c26_13 : ACode :=
  (.cond (.s 61) c26_12 .skip)
def c26_14 : ACode :=
  (.seq (.region true [⟨some 51, none, .fa 4 (.s 2)⟩,
    ⟨some 52, none, .ld false 1 (.s 51)⟩,
    ⟨some 53, none, .mv (.s 5)⟩,
    ⟨some 54, none, .ia 1 (.s 52) (.s 53)⟩,
    ⟨some 55, none, .ld false 1 (.s 54)⟩,
    ⟨some 56, none, .fa 4 (.s 3)⟩,
    ⟨some 57, none, .ld false 1 (.s 56)⟩,
    ⟨some 58, none, .mv (.s 5)⟩,
    ⟨some 59, none, .ia 1 (.s 57) (.s 58)⟩,
    ⟨some 60, none, .ld false 1 (.s 59)⟩,
    ⟨some 61, none, .bin .neq (.s 55) (.s 60)⟩] [[], [0], [], [1, 2], [3], [], [5], [], [6, 7], [8], [4, 9]] [2, 3, 5, 61]) c26_13)
def c26_15 : ACode :=
  (.seq (.block 1 c26_14) c26_11)
def c26_16 : ACode :=
  (.cond (.s 48) .skip (.exit 0))
def c26_17 : ACode :=
  (.seq (.seq (.region false [⟨some 44, none, .mv (.s 5)⟩,
    ⟨some 45, none, .fa 4 (.s 2)⟩,
    ⟨some 46, none, .ld false 1 (.s 45)⟩,
    ⟨some 47, none, .len (.s 46)⟩,
    ⟨some 48, none, .bin .lss (.s 44) (.s 47)⟩] [] [2, 3, 5, 48]) c26_16) c26_15)
def c26_18 : ACode :=
  (.loop c26_17)
def c26_19 : ACode :=
  (.block 0 c26_18)
def c26_20 : ACode :=
  (.seq (.seq (.region false [⟨some 5, none, .cst (.t (.int .i64 0))⟩] [] [2, 3, 5]) c26_19) c26_10)
def c26_21 : ACode :=
  (.seq (.region false [⟨some 4, none, .cst (.t (.bool false))⟩] [] [4]) .ret)
def c26_22 : ACode :=
  (.cond (.s 43) c26_21 .skip)
def c26_23 : ACode :=
  (.seq (.seq (.region false [⟨some 7, none, .fa 0 (.s 2)⟩,
    ⟨some 8, none, .ld false 1 (.s 7)⟩,
    ⟨some 9, none, .fa 0 (.s 3)⟩,
    ⟨some 10, none, .ld false 1 (.s 9)⟩,
    ⟨some 11, none, .bin .neq (.s 8) (.s 10)⟩,
    ⟨some 12, none, .mv (.s 11)⟩,
    ⟨some 13, some (12, false), .fa 1 (.s 2)⟩,
    ⟨some 14, some (12, false), .ld false 1 (.s 13)⟩,
    ⟨some 15, some (12, false), .fa 1 (.s 3)⟩,
    ⟨some 16, some (12, false), .ld false 1 (.s 15)⟩,
    ⟨some 17, some (12, false), .bin .neq (.s 14) (.s 16)⟩,
    ⟨some 18, none, .pick (.s 12) (.c (.t (.bool true))) (.s 17)⟩,
    ⟨some 19, none, .mv (.s 18)⟩,
    ⟨some 20, some (19, false), .fa 2 (.s 2)⟩,
    ⟨some 21, some (19, false), .ld false 1 (.s 20)⟩,
    ⟨some 22, some (19, false), .fa 2 (.s 3)⟩,
    ⟨some 23, some (19, false), .ld false 1 (.s 22)⟩,
    ⟨some 24, some (19, false), .bin .neq (.s 21) (.s 23)⟩,
    ⟨some 25, none, .pick (.s 19) (.c (.t (.bool true))) (.s 24)⟩,
    ⟨some 26, none, .mv (.s 25)⟩,
    ⟨some 27, some (26, false), .fa 3 (.s 2)⟩,
    ⟨some 28, some (26, false), .ld false 1 (.s 27)⟩,
    ⟨some 29, some (26, false), .len (.s 28)⟩,
    ⟨some 30, some (26, false), .fa 3 (.s 3)⟩,
    ⟨some 31, some (26, false), .ld false 1 (.s 30)⟩,
    ⟨some 32, some (26, false), .len (.s 31)⟩,
    ⟨some 33, some (26, false), .bin .neq (.s 29) (.s 32)⟩,
    ⟨some 34, none, .pick (.s 26) (.c (.t (.bool true))) (.s 33)⟩,
    ⟨some 35, none, .mv (.s 34)⟩,
    ⟨some 36, some (35, false), .fa 4 (.s 2)⟩,
    ⟨some 37, some (35, false), .ld false 1 (.s 36)⟩,
    ⟨some 38, some (35, false), .len (.s 37)⟩,
    ⟨some 39, some (35, false), .fa 4 (.s 3)⟩,
    ⟨some 40, some (35, false), .ld false 1 (.s 39)⟩,
    ⟨some 41, some (35, false), .len (.s 40)⟩,
    ⟨some 42, some (35, false), .bin .neq (.s 38) (.s 41)⟩,
    ⟨some 43, none, .pick (.s 35) (.c (.t (.bool true))) (.s 42)⟩] [] [2, 3, 43]) c26_22) c26_20)
def c26 : ACode :=
  (.seq (.region false [⟨some 2, none, .box 5 (.s 0)⟩,
    ⟨some 3, none, .box 5 (.s 1)⟩,
    ⟨some 4, none, .cst (.t (.bool false))⟩] [] [2, 3]) c26_23)
def r26 : List ARes := [.tmp 4]
def n26 : Nat := 81
/- 27 supergraph supergraphlaw43.deep -/
def c27_0 : ACode :=
  (.seq (.region false [⟨some 31, none, .mv (.s 5)⟩,
    ⟨some 4, none, .mv (.s 31)⟩] [] [4]) .ret)
def c27_1 : ACode :=
  (.region false [⟨some 19, none, .mv (.s 6)⟩,
    ⟨some 20, none, .bin .add (.s 19) (.c (.t (.int .i64 1)))⟩,
    ⟨some 6, none, .mv (.s 20)⟩] [] [0, 1, 5, 6])
def c27_2 : ACode :=
  (.region false [⟨some 21, none, .mv (.s 5)⟩,
    ⟨some 22, none, .mv (.s 0)⟩,
    ⟨some 23, none, .mv (.s 6)⟩,
    ⟨some 24, none, .ia 9 (.s 22) (.s 23)⟩,
    ⟨some 25, none, .fa 8 (.s 24)⟩,
    ⟨some 26, none, .ld false 1 (.s 25)⟩,
    ⟨some 27, none, .mv (.s 1)⟩,
    ⟨some 28, none, .bin .add (.s 27) (.c (.t (.int .i64 1)))⟩,
    ⟨some 29, none, .call 27 [(.s 26), (.s 28)]⟩,
    ⟨some 30, none, .bin .add (.s 21) (.s 29)⟩,
    ⟨some 5, none, .mv (.s 30)⟩] [] [0, 1, 5, 6])
def c27_3 : ACode :=
  (.seq (.block 1 c27_2) c27_1)
def c27_4 : ACode :=
  (.cond (.s 18) .skip (.exit 0))
def c27_5 : ACode :=
  (.seq (.seq (.region false [⟨some 11, none, .mv (.s 6)⟩,
    ⟨some 12, none, .mv (.s 0)⟩,
    ⟨some 13, none, .len (.s 12)⟩,
    ⟨some 14, none, .bin .lss (.s 11) (.s 13)⟩,
    ⟨some 15, none, .mv (.s 14)⟩,
    ⟨some 16, some (15, true), .mv (.s 5)⟩,
    ⟨some 17, some (15, true), .bin .leq (.s 16) (.c (.t (.int .i64 200)))⟩,
    ⟨some 18, none, .pick (.s 15) (.s 17) (.c (.t (.bool false)))⟩] [] [0, 1, 5, 6, 18]) c27_4) c27_3)
def c27_6 : ACode :=
  (.loop c27_5)
def c27_7 : ACode :=
  (.block 0 c27_6)
def c27_8 : ACode :=
  (.seq (.seq (.region false [⟨some 6, none, .cst (.t (.int .i64 0))⟩] [] [0, 1, 5, 6]) c27_7) c27_0)
def c27_9 : ACode :=
  (.seq (.region false [⟨some 9, none, .mv (.s 0)⟩,
    ⟨some 10, none, .len (.s 9)⟩,
    ⟨some 5, none, .mv (.s 10)⟩] [] [0, 1, 5]) c27_8)
def c27_10 : ACode :=
  (.seq (.region false [⟨some 4, none, .cst (.t (.int .i64 201))⟩] [] [4]) .ret)
def c27_11 : ACode :=
  (.cond (.s 8) c27_10 .skip)
def c27_12 : ACode :=
  (.seq (.seq (.region false [⟨some 7, none, .mv (.s 1)⟩,
    ⟨some 8, none, .bin .gtr (.s 7) (.c (.t (.int .i64 30)))⟩] [] [0, 1, 8]) c27_11) c27_9)
def c27 : ACode :=
  (.seq (.region false [⟨some 4, none, .cst (.t (.int .i64 0))⟩] [] [0, 1]) c27_12)
def r27 : List ARes := [.tmp 4]
def n27 : Nat := 32
/- 28 supergraph supergraphlaw43.permitted -/
def c28_0 : ACode :=
  (.seq (.region false [⟨some 6, none, .cst (.t (.bool true))⟩] [] [6]) .ret)
def c28_1 : ACode :=
  (.region false [⟨some 12, none, .mv (.s 7)⟩,
    ⟨some 13, none, .bin .add (.s 12) (.c (.t (.int .i64 1)))⟩,
    ⟨some 7, none, .mv (.s 13)⟩] [] [1, 3, 5, 7])
def c28_2 : ACode :=
  (.seq (.region false [⟨some 6, none, .cst (.t (.bool false))⟩] [] [6]) .ret)
def c28_3 : ACode :=
  (.cond (.s 38) c28_2 .skip)
def c28_4 : ACode :=
  (.seq (.region true [⟨some 14, none, .ld true 1 (.s 3)⟩,
    ⟨some 15, none, .mv (.s 1)⟩,
    ⟨some 16, none, .mv (.s 7)⟩,
    ⟨some 17, none, .ia 9 (.s 15) (.s 16)⟩,
    ⟨some 18, none, .fa 1 (.s 17)⟩,
    ⟨some 19, none, .ld false 1 (.s 18)⟩,
    ⟨some 20, none, .mv (.s 1)⟩,
    ⟨some 21, none, .mv (.s 7)⟩,
    ⟨some 22, none, .ia 9 (.s 20) (.s 21)⟩,
    ⟨some 23, none, .fa 2 (.s 22)⟩,
    ⟨some 24, none, .ld false 1 (.s 23)⟩,
    ⟨some 25, none, .ld true 2 (.s 5)⟩,
    ⟨some 26, none, .call 15 [(.s 14), (.s 19), (.s 24), (.s 25)]⟩,
    ⟨some 27, none, .un .not (.s 26)⟩,
    ⟨some 28, none, .mv (.s 27)⟩,
    ⟨some 29, some (28, false), .ld true 1 (.s 3)⟩,
    ⟨some 30, some (28, false), .mv (.s 1)⟩,
    ⟨some 31, some (28, false), .mv (.s 7)⟩,
    ⟨some 32, some (28, false), .ia 9 (.s 30) (.s 31)⟩,
    ⟨some 33, some (28, false), .fa 8 (.s 32)⟩,
    ⟨some 34, some (28, false), .ld false 1 (.s 33)⟩,
    ⟨some 35, some (28, false), .ld true 2 (.s 5)⟩,
    ⟨some 36, some (28, false), .call 28 [(.s 29), (.s 34), (.s 35)]⟩,
    ⟨some 37, some (28, false), .un .not (.s 36)⟩,
    ⟨some 38, none, .pick (.s 28) (.c (.t (.bool true))) (.s 37)⟩] [[], [], [], [1, 2], [3], [4], [], [], [6, 7], [8], [9], [], [0, 5, 10, 11], [12], [13, 12], [14], [14], [14], [16, 17, 14], [18, 14], [19, 14], [14], [15, 20, 21, 14, 14], [22, 14], [14, 23]] [1, 3, 5, 7, 38]) c28_3)
def c28_5 : ACode :=
  (.seq (.block 1 c28_4) c28_1)
def c28_6 : ACode :=
  (.cond (.s 11) .skip (.exit 0))
def c28_7 : ACode :=
  (.seq (.seq (.region false [⟨some 8, none, .mv (.s 7)⟩,
    ⟨some 9, none, .mv (.s 1)⟩,
    ⟨some 10, none, .len (.s 9)⟩,
    ⟨some 11, none, .bin .lss (.s 8) (.s 10)⟩] [] [1, 3, 5, 7, 11]) c28_6) c28_5)
def c28_8 : ACode :=
  (.loop c28_7)
def c28_9 : ACode :=
  (.block 0 c28_8)
def c28_10 : ACode :=
  (.seq (.seq (.region false [⟨some 7, none, .cst (.t (.int .i64 0))⟩] [] [1, 3, 5, 7]) c28_9) c28_0)
def c28 : ACode :=
  (.seq (.region false [⟨some 3, none, .box 1 (.s 0)⟩,
    ⟨some 5, none, .box 2 (.s 2)⟩,
    ⟨some 6, none, .cst (.t (.bool false))⟩] [] [1, 3, 5]) c28_10)
def r28 : List ARes := [.tmp 6]
def n28 : Nat := 39
/- 29 supergraph supergraphlaw43.known -/
def c29_0 : ACode :=
  (.seq (.region false [⟨some 2, none, .cst (.t (.bool true))⟩] [] [2]) .ret)
def c29_1 : ACode :=
  (.region false [⟨some 12, none, .mv (.s 3)⟩,
    ⟨some 13, none, .bin .add (.s 12) (.c (.t (.int .i64 1)))⟩,
    ⟨some 3, none, .mv (.s 13)⟩] [] [0, 3])
def c29_2 : ACode :=
  (.region false [⟨some 30, none, .mv (.s 4)⟩,
    ⟨some 31, none, .bin .add (.s 30) (.c (.t (.int .i64 1)))⟩,
    ⟨some 4, none, .mv (.s 31)⟩] [] [0, 3, 4])
def c29_3 : ACode :=
  (.region false [⟨some 46, none, .mv (.s 6)⟩,
    ⟨some 47, none, .bin .add (.s 46) (.c (.t (.int .i64 1)))⟩,
    ⟨some 6, none, .mv (.s 47)⟩] [] [0, 3, 4, 5, 6])
def c29_4 : ACode :=
  (.seq (.region false [⟨some 2, none, .cst (.t (.bool false))⟩] [] [2]) .ret)
def c29_5 : ACode :=
  (.cond (.s 72) c29_4 .skip)
def c29_6 : ACode :=
  (.seq (.region false [⟨some 54, none, .fa 3 (.s 5)⟩,
    ⟨some 55, none, .ld false 1 (.s 54)⟩,
    ⟨some 56, none, .mv (.s 6)⟩,
    ⟨some 57, none, .ia 5 (.s 55) (.s 56)⟩,
    ⟨some 58, none, .fa 0 (.s 57)⟩,
    ⟨some 59, none, .ld false 1 (.s 58)⟩,
    ⟨some 60, none, .bin .neq (.s 59) (.c (.t (.int .i64 3)))⟩,
    ⟨some 61, none, .mv (.s 60)⟩,
    ⟨some 62, some (61, false), .mv (.s 7)⟩,
    ⟨some 63, some (61, false), .bin .neq (.s 62) (.c (.t (.str [97])))⟩,
    ⟨some 64, some (61, false), .mv (.s 63)⟩,
    ⟨some 65, some (64, true), .mv (.s 7)⟩,
    ⟨some 66, some (64, true), .bin .neq (.s 65) (.c (.t (.str [98])))⟩,
    ⟨some 67, some (61, false), .pick (.s 64) (.s 66) (.c (.t (.bool false)))⟩,
    ⟨some 68, some (61, false), .mv (.s 67)⟩,
    ⟨some 69, some (68, true), .mv (.s 7)⟩,
    ⟨some 70, some (68, true), .bin .neq (.s 69) (.c (.t (.str [99])))⟩,
    ⟨some 71, some (61, false), .pick (.s 68) (.s 70) (.c (.t (.bool false)))⟩,
    ⟨some 72, none, .pick (.s 61) (.c (.t (.bool true))) (.s 71)⟩] [] [0, 3, 4, 5, 6, 72]) c29_5)
def c29_7 : ACode :=
  (.seq (.region false [⟨some 48, none, .fa 3 (.s 5)⟩,
    ⟨some 49, none, .ld false 1 (.s 48)⟩,
    ⟨some 50, none, .mv (.s 6)⟩,
    ⟨some 51, none, .ia 5 (.s 49) (.s 50)⟩,
    ⟨some 52, none, .fa 2 (.s 51)⟩,
    ⟨some 53, none, .ld false 1 (.s 52)⟩,
    ⟨some 7, none, .mv (.s 53)⟩] [] [0, 3, 4, 5, 6, 7]) c29_6)
def c29_8 : ACode :=
  (.seq (.block 5 c29_7) c29_3)
def c29_9 : ACode :=
  (.cond (.s 45) .skip (.exit 4))
def c29_10 : ACode :=
  (.seq (.seq (.region false [⟨some 41, none, .mv (.s 6)⟩,
    ⟨some 42, none, .fa 3 (.s 5)⟩,
    ⟨some 43, none, .ld false 1 (.s 42)⟩,
    ⟨some 44, none, .len (.s 43)⟩,
    ⟨some 45, none, .bin .lss (.s 41) (.s 44)⟩] [] [0, 3, 4, 5, 6, 45]) c29_9) c29_8)
def c29_11 : ACode :=
  (.loop c29_10)
def c29_12 : ACode :=
  (.block 4 c29_11)
def c29_13 : ACode :=
  (.seq (.region false [⟨some 6, none, .cst (.t (.int .i64 0))⟩] [] [0, 3, 4, 5, 6]) c29_12)
def c29_14 : ACode :=
  (.seq (.region false [⟨some 32, none, .mv (.s 0)⟩,
    ⟨some 33, none, .mv (.s 3)⟩,
    ⟨some 34, none, .ia 2 (.s 32) (.s 33)⟩,
    ⟨some 35, none, .fa 1 (.s 34)⟩,
    ⟨some 36, none, .ld false 1 (.s 35)⟩,
    ⟨some 37, none, .mv (.s 4)⟩,
    ⟨some 38, none, .ia 6 (.s 36) (.s 37)⟩,
    ⟨some 39, none, .fa 1 (.s 38)⟩,
    ⟨some 40, none, .ld true 5 (.s 39)⟩,
    ⟨some 5, none, .alloc [.t (.int .i64 0), .t (.int .i64 0), .t (.str []), .nils, .nils]⟩,
    ⟨none, none, .st 5 (.s 5) (.s 40)⟩] [] [0, 3, 4, 5]) c29_13)
def c29_15 : ACode :=
  (.seq (.block 3 c29_14) c29_2)
def c29_16 : ACode :=
  (.cond (.s 29) .skip (.exit 2))
def c29_17 : ACode :=
  (.seq (.seq (.region false [⟨some 14, none, .mv (.s 4)⟩,
    ⟨some 15, none, .mv (.s 0)⟩,
    ⟨some 16, none, .mv (.s 3)⟩,
    ⟨some 17, none, .ia 2 (.s 15) (.s 16)⟩,
    ⟨some 18, none, .fa 1 (.s 17)⟩,
    ⟨some 19, none, .ld false 1 (.s 18)⟩,
    ⟨some 20, none, .len (.s 19)⟩,
    ⟨some 21, none, .bin .lss (.s 14) (.s 20)⟩,
    ⟨some 22, none, .mv (.s 21)⟩,
    ⟨some 23, some (22, true), .mv (.s 0)⟩,
    ⟨some 24, some (22, true), .mv (.s 3)⟩,
    ⟨some 25, some (22, true), .ia 2 (.s 23) (.s 24)⟩,
    ⟨some 26, some (22, true), .fa 0 (.s 25)⟩,
    ⟨some 27, some (22, true), .ld false 1 (.s 26)⟩,
    ⟨some 28, some (22, true), .bin .eql (.s 27) (.c (.t (.str [115, 99, 111, 112, 101, 115])))⟩,
    ⟨some 29, none, .pick (.s 22) (.s 28) (.c (.t (.bool false)))⟩] [] [0, 3, 4, 29]) c29_16) c29_15)
def c29_18 : ACode :=
  (.loop c29_17)
def c29_19 : ACode :=
  (.block 2 c29_18)
def c29_20 : ACode :=
  (.seq (.region false [⟨some 4, none, .cst (.t (.int .i64 0))⟩] [] [0, 3, 4]) c29_19)
def c29_21 : ACode :=
  (.seq (.block 1 c29_20) c29_1)
def c29_22 : ACode :=
  (.cond (.s 11) .skip (.exit 0))
def c29_23 : ACode :=
  (.seq (.seq (.region false [⟨some 8, none, .mv (.s 3)⟩,
    ⟨some 9, none, .mv (.s 0)⟩,
    ⟨some 10, none, .len (.s 9)⟩,
    ⟨some 11, none, .bin .lss (.s 8) (.s 10)⟩] [] [0, 3, 11]) c29_22) c29_21)
def c29_24 : ACode :=
  (.loop c29_23)
def c29_25 : ACode :=
  (.block 0 c29_24)
def c29_26 : ACode :=
  (.seq (.seq (.region false [⟨some 3, none, .cst (.t (.int .i64 0))⟩] [] [0, 3]) c29_25) c29_0)
def c29 : ACode :=
  (.seq (.region false [⟨some 2, none, .cst (.t (.bool false))⟩] [] [0]) c29_26)
def r29 : List ARes := [.tmp 2]
def n29 : Nat := 73
/- 30 supergraph supergraphlaw43.exact -/
def c30_0 : ACode :=
  (.seq (.region false [⟨some 170, none, .mv (.s 6)⟩,
    ⟨some 171, none, .fa 4 (.s 3)⟩,
    ⟨some 172, none, .ld false 1 (.s 171)⟩,
    ⟨some 173, none, .len (.s 172)⟩,
    ⟨some 174, none, .bin .eql (.s 170) (.s 173)⟩,
    ⟨some 4, none, .mv (.s 174)⟩] [] [4]) .ret)
def c30_1 : ACode :=
  (.region false [⟨some 107, none, .mv (.s 7)⟩,
    ⟨some 108, none, .bin .add (.s 107) (.c (.t (.int .i64 1)))⟩,
    ⟨some 7, none, .mv (.s 108)⟩] [] [0, 3, 6, 7])
def c30_2 : ACode :=
  (.region false [⟨some 168, none, .mv (.s 6)⟩,
    ⟨some 169, none, .bin .add (.s 168) (.c (.t (.int .i64 1)))⟩,
    ⟨some 6, none, .mv (.s 169)⟩] [] [0, 3, 6, 7])
def c30_3 : ACode :=
  (.region false [⟨some 155, none, .mv (.s 8)⟩,
    ⟨some 156, none, .bin .add (.s 155) (.c (.t (.int .i64 1)))⟩,
    ⟨some 8, none, .mv (.s 156)⟩] [] [0, 3, 6, 7, 8])
def c30_4 : ACode :=
  (.seq (.region false [⟨some 4, none, .cst (.t (.bool false))⟩] [] [4]) .ret)
def c30_5 : ACode :=
  (.cond (.s 167) c30_4 .skip)
def c30_6 : ACode :=
  (.seq (.region true [⟨some 157, none, .fa 4 (.s 3)⟩,
    ⟨some 158, none, .ld false 1 (.s 157)⟩,
    ⟨some 159, none, .mv (.s 8)⟩,
    ⟨some 160, none, .ia 1 (.s 158) (.s 159)⟩,
    ⟨some 161, none, .ld false 1 (.s 160)⟩,
    ⟨some 162, none, .fa 4 (.s 3)⟩,
    ⟨some 163, none, .ld false 1 (.s 162)⟩,
    ⟨some 164, none, .mv (.s 6)⟩,
    ⟨some 165, none, .ia 1 (.s 163) (.s 164)⟩,
    ⟨some 166, none, .ld false 1 (.s 165)⟩,
    ⟨some 167, none, .bin .eql (.s 161) (.s 166)⟩] [[], [0], [], [1, 2], [3], [], [5], [], [6, 7], [8], [4, 9]] [0, 3, 6, 7, 8, 167]) c30_5)
def c30_7 : ACode :=
  (.seq (.block 5 c30_6) c30_3)
def c30_8 : ACode :=
  (.cond (.s 154) .skip (.exit 4))
def c30_9 : ACode :=
  (.seq (.seq (.region false [⟨some 152, none, .mv (.s 8)⟩,
    ⟨some 153, none, .mv (.s 6)⟩,
    ⟨some 154, none, .bin .lss (.s 152) (.s 153)⟩] [] [0, 3, 6, 7, 8, 154]) c30_8) c30_7)
def c30_10 : ACode :=
  (.loop c30_9)
def c30_11 : ACode :=
  (.block 4 c30_10)
def c30_12 : ACode :=
  (.seq (.seq (.region false [⟨some 8, none, .cst (.t (.int .i64 0))⟩] [] [0, 3, 6, 7, 8]) c30_11) c30_2)
def c30_13 : ACode :=
  (.seq (.region false [⟨some 4, none, .cst (.t (.bool false))⟩] [] [4]) .ret)
def c30_14 : ACode :=
  (.cond (.s 151) c30_13 .skip)
def c30_15 : ACode :=
  (.seq (.seq (.region true [⟨some 120, none, .mv (.s 6)⟩,
    ⟨some 121, none, .fa 4 (.s 3)⟩,
    ⟨some 122, none, .ld false 1 (.s 121)⟩,
    ⟨some 123, none, .len (.s 122)⟩,
    ⟨some 124, none, .bin .geq (.s 120) (.s 123)⟩,
    ⟨some 125, none, .mv (.s 124)⟩,
    ⟨some 126, some (125, false), .fa 4 (.s 3)⟩,
    ⟨some 127, some (125, false), .ld false 1 (.s 126)⟩,
    ⟨some 128, some (125, false), .mv (.s 6)⟩,
    ⟨some 129, some (125, false), .ia 1 (.s 127) (.s 128)⟩,
    ⟨some 130, some (125, false), .ld false 1 (.s 129)⟩,
    ⟨some 131, some (125, false), .mv (.s 0)⟩,
    ⟨some 132, some (125, false), .mv (.s 7)⟩,
    ⟨some 133, some (125, false), .ia 9 (.s 131) (.s 132)⟩,
    ⟨some 134, some (125, false), .fa 0 (.s 133)⟩,
    ⟨some 135, some (125, false), .ld false 1 (.s 134)⟩,
    ⟨some 136, some (125, false), .bin .neq (.s 130) (.s 135)⟩,
    ⟨some 137, none, .pick (.s 125) (.c (.t (.bool true))) (.s 136)⟩,
    ⟨some 138, none, .mv (.s 137)⟩,
    ⟨some 139, some (138, false), .mv (.s 0)⟩,
    ⟨some 140, some (138, false), .mv (.s 7)⟩,
    ⟨some 141, some (138, false), .ia 9 (.s 139) (.s 140)⟩,
    ⟨some 142, some (138, false), .fa 8 (.s 141)⟩,
    ⟨some 143, some (138, false), .ld false 1 (.s 142)⟩,
    ⟨some 144, some (138, false), .fa 3 (.s 3)⟩,
    ⟨some 145, some (138, false), .ld false 1 (.s 144)⟩,
    ⟨some 146, some (138, false), .mv (.s 6)⟩,
    ⟨some 147, some (138, false), .ia 5 (.s 145) (.s 146)⟩,
    ⟨some 148, some (138, false), .ld true 5 (.s 147)⟩,
    ⟨some 149, some (138, false), .call 30 [(.s 143), (.s 148)]⟩,
    ⟨some 150, some (138, false), .un .not (.s 149)⟩,
    ⟨some 151, none, .pick (.s 138) (.c (.t (.bool true))) (.s 150)⟩] [[], [], [1], [2], [0, 3], [4], [5], [6, 5], [5], [7, 8, 5], [9, 5], [5], [5], [11, 12, 5], [13, 5], [14, 5], [10, 15, 5], [5, 16], [17, 5], [18], [18], [19, 20, 18], [21, 18], [22, 18], [18], [24, 18], [18], [25, 26, 18], [27, 18], [23, 28, 18, 18], [29, 18], [18, 30]] [0, 3, 6, 7, 151]) c30_14) c30_12)
def c30_16 : ACode :=
  (.cond (.s 119) (.exit 3) .skip)
def c30_17 : ACode :=
  (.seq (.seq (.region true [⟨some 109, none, .mv (.s 0)⟩,
    ⟨some 110, none, .mv (.s 7)⟩,
    ⟨some 111, none, .ia 9 (.s 109) (.s 110)⟩,
    ⟨some 112, none, .fa 1 (.s 111)⟩,
    ⟨some 113, none, .ld false 1 (.s 112)⟩,
    ⟨some 114, none, .fa 3 (.s 3)⟩,
    ⟨some 115, none, .ld false 1 (.s 114)⟩,
    ⟨some 116, none, .ia 5 (.s 115) (.c (.t (.int .i64 0)))⟩,
    ⟨some 117, none, .fa 2 (.s 116)⟩,
    ⟨some 118, none, .ld false 1 (.s 117)⟩,
    ⟨some 119, none, .bin .neq (.s 113) (.s 118)⟩] [[], [], [0, 1], [2], [3], [], [5], [6], [7], [8], [4, 9]] [0, 3, 6, 7, 119]) c30_16) c30_15)
def c30_18 : ACode :=
  (.seq (.block 3 c30_17) c30_1)
def c30_19 : ACode :=
  (.cond (.s 106) .skip (.exit 2))
def c30_20 : ACode :=
  (.seq (.seq (.region false [⟨some 103, none, .mv (.s 7)⟩,
    ⟨some 104, none, .mv (.s 0)⟩,
    ⟨some 105, none, .len (.s 104)⟩,
    ⟨some 106, none, .bin .lss (.s 103) (.s 105)⟩] [] [0, 3, 6, 7, 106]) c30_19) c30_18)
def c30_21 : ACode :=
  (.loop c30_20)
def c30_22 : ACode :=
  (.block 2 c30_21)
def c30_23 : ACode :=
  (.seq (.seq (.region false [⟨some 7, none, .cst (.t (.int .i64 0))⟩] [] [0, 3, 6, 7]) c30_22) c30_0)
def c30_24 : ACode :=
  (.seq (.region false [⟨some 6, none, .cst (.t (.int .i64 1))⟩] [] [0, 3, 6]) c30_23)
def c30_25 : ACode :=
  (.seq (.region false [⟨some 4, none, .cst (.t (.bool false))⟩] [] [4]) .ret)
def c30_26 : ACode :=
  (.cond (.s 102) c30_25 .skip)
def c30_27 : ACode :=
  (.seq (.seq (.region true [⟨some 51, none, .fa 4 (.s 3)⟩,
    ⟨some 52, none, .ld false 1 (.s 51)⟩,
    ⟨some 53, none, .len (.s 52)⟩,
    ⟨some 54, none, .fa 3 (.s 3)⟩,
    ⟨some 55, none, .ld false 1 (.s 54)⟩,
    ⟨some 56, none, .len (.s 55)⟩,
    ⟨some 57, none, .bin .neq (.s 53) (.s 56)⟩,
    ⟨some 58, none, .mv (.s 57)⟩,
    ⟨some 59, some (58, false), .fa 4 (.s 3)⟩,
    ⟨some 60, some (58, false), .ld false 1 (.s 59)⟩,
    ⟨some 61, some (58, false), .len (.s 60)⟩,
    ⟨some 62, some (58, false), .bin .eql (.s 61) (.c (.t (.int .i64 0)))⟩,
    ⟨some 63, none, .pick (.s 58) (.c (.t (.bool true))) (.s 62)⟩,
    ⟨some 64, none, .mv (.s 63)⟩,
    ⟨some 65, some (64, false), .fa 4 (.s 3)⟩,
    ⟨some 66, some (64, false), .ld false 1 (.s 65)⟩,
    ⟨some 67, some (64, false), .ia 1 (.s 66) (.c (.t (.int .i64 0)))⟩,
    ⟨some 68, some (64, false), .ld false 1 (.s 67)⟩,
    ⟨some 69, some (64, false), .bin .neq (.s 68) (.c (.t (.str [95, 95, 116])))⟩,
    ⟨some 70, none, .pick (.s 64) (.c (.t (.bool true))) (.s 69)⟩,
    ⟨some 71, none, .mv (.s 70)⟩,
    ⟨some 72, some (71, false), .fa 3 (.s 3)⟩,
    ⟨some 73, some (71, false), .ld false 1 (.s 72)⟩,
    ⟨some 74, some (71, false), .ia 5 (.s 73) (.c (.t (.int .i64 0)))⟩,
    ⟨some 75, some (71, false), .fa 0 (.s 74)⟩,
    ⟨some 76, some (71, false), .ld false 1 (.s 75)⟩,
    ⟨some 77, some (71, false), .bin .neq (.s 76) (.c (.t (.int .i64 3)))⟩,
    ⟨some 78, none, .pick (.s 71) (.c (.t (.bool true))) (.s 77)⟩,
    ⟨some 79, none, .mv (.s 78)⟩,
    ⟨some 80, some (79, false), .fa 3 (.s 3)⟩,
    ⟨some 81, some (79, false), .ld false 1 (.s 80)⟩,
    ⟨some 82, some (79, false), .ia 5 (.s 81) (.c (.t (.int .i64 0)))⟩,
    ⟨some 83, some (79, false), .ld true 5 (.s 82)⟩,
    ⟨some 84, some (79, false), .fa 3 (.s 3)⟩,
    ⟨some 85, some (79, false), .ld false 1 (.s 84)⟩,
    ⟨some 86, some (79, false), .ia 5 (.s 85) (.c (.t (.int .i64 0)))⟩,
    ⟨some 87, some (79, false), .fa 2 (.s 86)⟩,
    ⟨some 88, some (79, false), .ld false 1 (.s 87)⟩,
    ⟨some 89, some (79, false), .call 48 [(.s 88)]⟩,
    ⟨some 90, some (79, false), .call 26 [(.s 83), (.s 89)]⟩,
    ⟨some 91, some (79, false), .un .not (.s 90)⟩,
    ⟨some 92, none, .pick (.s 79) (.c (.t (.bool true))) (.s 91)⟩,
    ⟨some 93, none, .mv (.s 92)⟩,
    ⟨some 94, some (93, false), .fa 1 (.s 3)⟩,
    ⟨some 95, some (93, false), .ld false 1 (.s 94)⟩,
    ⟨some 96, some (93, false), .bin .neq (.s 95) (.c (.t (.int .i64 0)))⟩,
    ⟨some 97, none, .pick (.s 93) (.c (.t (.bool true))) (.s 96)⟩,
    ⟨some 98, none, .mv (.s 97)⟩,
    ⟨some 99, some (98, false), .fa 2 (.s 3)⟩,
    ⟨some 100, some (98, false), .ld false 1 (.s 99)⟩,
    ⟨some 101, some (98, false), .bin .neq (.s 100) (.c (.t (.str [])))⟩,
    ⟨some 102, none, .pick (.s 98) (.c (.t (.bool true))) (.s 101)⟩] [[], [0], [1], [], [3], [4], [2, 5], [6], [7], [8, 7], [9, 7], [10, 7], [7, 11], [12, 7], [13], [14, 13], [15, 13], [16, 13], [17, 13], [13, 18], [19, 13], [20], [21, 20], [22, 20], [23, 20], [24, 20], [25, 20], [20, 26], [27, 20], [28], [29, 28], [30, 28], [31, 28], [28], [33, 28], [34, 28], [35, 28], [36, 28], [37, 28, 28], [32, 38, 38, 28], [39, 28], [28, 40], [41, 39], [42], [43, 42], [44, 42], [42, 45], [46, 42], [47], [48, 47], [49, 47], [47, 50]] [0, 3, 102]) c30_26) c30_24)
def c30_28 : ACode :=
  (.seq (.region false [⟨some 4, none, .cst (.t (.bool true))⟩] [] [4]) .ret)
def c30_29 : ACode :=
  (.cond (.s 50) c30_28 .skip)
def c30_30 : ACode :=
  (.seq (.seq (.region false [⟨some 48, none, .fa 0 (.s 3)⟩,
    ⟨some 49, none, .ld false 1 (.s 48)⟩,
    ⟨some 50, none, .bin .neq (.s 49) (.c (.t (.int .i64 6)))⟩] [] [0, 3, 50]) c30_29) c30_27)
def c30_31 : ACode :=
  (.seq (.region false [⟨some 4, none, .cst (.t (.bool false))⟩] [] [4]) .ret)
def c30_32 : ACode :=
  (.cond (.s 47) c30_31 .skip)
def c30_33 : ACode :=
  (.seq (.seq (.region false [⟨some 29, none, .fa 0 (.s 3)⟩,
    ⟨some 30, none, .ld false 1 (.s 29)⟩,
    ⟨some 31, none, .bin .eql (.s 30) (.c (.t (.int .i64 5)))⟩,
    ⟨some 32, none, .mv (.s 31)⟩,
    ⟨some 33, some (32, true), .fa 4 (.s 3)⟩,
    ⟨some 34, some (32, true), .ld false 1 (.s 33)⟩,
    ⟨some 35, some (32, true), .len (.s 34)⟩,
    ⟨some 36, some (32, true), .bin .gtr (.s 35) (.c (.t (.int .i64 0)))⟩,
    ⟨some 37, some (32, true), .mv (.s 36)⟩,
    ⟨some 38, some (37, false), .fa 1 (.s 3)⟩,
    ⟨some 39, some (37, false), .ld false 1 (.s 38)⟩,
    ⟨some 40, some (37, false), .bin .neq (.s 39) (.c (.t (.int .i64 0)))⟩,
    ⟨some 41, some (32, true), .pick (.s 37) (.c (.t (.bool true))) (.s 40)⟩,
    ⟨some 42, some (32, true), .mv (.s 41)⟩,
    ⟨some 43, some (42, false), .fa 2 (.s 3)⟩,
    ⟨some 44, some (42, false), .ld false 1 (.s 43)⟩,
    ⟨some 45, some (42, false), .bin .neq (.s 44) (.c (.t (.str [])))⟩,
    ⟨some 46, some (32, true), .pick (.s 42) (.c (.t (.bool true))) (.s 45)⟩,
    ⟨some 47, none, .pick (.s 32) (.s 46) (.c (.t (.bool false)))⟩] [] [0, 3, 47]) c30_32) c30_30)
def c30_34 : ACode :=
  (.region false [⟨some 19, none, .mv (.s 5)⟩,
    ⟨some 20, none, .bin .add (.s 19) (.c (.t (.int .i64 1)))⟩,
    ⟨some 5, none, .mv (.s 20)⟩] [] [0, 3, 5])
def c30_35 : ACode :=
  (.seq (.region false [⟨some 4, none, .cst (.t (.bool false))⟩] [] [4]) .ret)
def c30_36 : ACode :=
  (.cond (.s 28) c30_35 .skip)
def c30_37 : ACode :=
  (.seq (.region false [⟨some 21, none, .mv (.s 0)⟩,
    ⟨some 22, none, .fa 3 (.s 3)⟩,
    ⟨some 23, none, .ld false 1 (.s 22)⟩,
    ⟨some 24, none, .mv (.s 5)⟩,
    ⟨some 25, none, .ia 5 (.s 23) (.s 24)⟩,
    ⟨some 26, none, .ld true 5 (.s 25)⟩,
    ⟨some 27, none, .call 30 [(.s 21), (.s 26)]⟩,
    ⟨some 28, none, .un .not (.s 27)⟩] [] [0, 3, 5, 28]) c30_36)
def c30_38 : ACode :=
  (.seq (.block 1 c30_37) c30_34)
def c30_39 : ACode :=
  (.cond (.s 18) .skip (.exit 0))
def c30_40 : ACode :=
  (.seq (.seq (.region false [⟨some 9, none, .mv (.s 5)⟩,
    ⟨some 10, none, .fa 3 (.s 3)⟩,
    ⟨some 11, none, .ld false 1 (.s 10)⟩,
    ⟨some 12, none, .len (.s 11)⟩,
    ⟨some 13, none, .bin .lss (.s 9) (.s 12)⟩,
    ⟨some 14, none, .mv (.s 13)⟩,
    ⟨some 15, some (14, true), .fa 0 (.s 3)⟩,
    ⟨some 16, some (14, true), .ld false 1 (.s 15)⟩,
    ⟨some 17, some (14, true), .bin .eql (.s 16) (.c (.t (.int .i64 5)))⟩,
    ⟨some 18, none, .pick (.s 14) (.s 17) (.c (.t (.bool false)))⟩] [] [0, 3, 5, 18]) c30_39) c30_38)
def c30_41 : ACode :=
  (.loop c30_40)
def c30_42 : ACode :=
  (.block 0 c30_41)
def c30_43 : ACode :=
  (.seq (.seq (.region false [⟨some 5, none, .cst (.t (.int .i64 0))⟩] [] [0, 3, 5]) c30_42) c30_33)
def c30 : ACode :=
  (.seq (.region false [⟨some 3, none, .box 5 (.s 1)⟩,
    ⟨some 4, none, .cst (.t (.bool false))⟩] [] [0, 3]) c30_43)
def r30 : List ARes := [.tmp 4]
def n30 : Nat := 175
/- 31 supergraph supergraphlaw43.left -/
def c31_0 : ACode :=
  (.seq (.region false [⟨some 40, none, .mv (.s 7)⟩,
    ⟨some 6, none, .mv (.s 40)⟩] [] [6]) .ret)
def c31_1 : ACode :=
  (.region false [⟨some 15, none, .mv (.s 8)⟩,
    ⟨some 16, none, .bin .add (.s 15) (.c (.t (.int .i64 1)))⟩,
    ⟨some 8, none, .mv (.s 16)⟩] [] [1, 3, 5, 7, 8])
def c31_2 : ACode :=
  (.region true [⟨some 30, none, .mv (.s 7)⟩,
    ⟨some 31, none, .ld true 1 (.s 3)⟩,
    ⟨some 32, none, .mv (.s 1)⟩,
    ⟨some 33, none, .mv (.s 8)⟩,
    ⟨some 34, none, .ia 9 (.s 32) (.s 33)⟩,
    ⟨some 35, none, .fa 8 (.s 34)⟩,
    ⟨some 36, none, .ld false 1 (.s 35)⟩,
    ⟨some 37, none, .ld true 2 (.s 5)⟩,
    ⟨some 38, none, .call 31 [(.s 31), (.s 36), (.s 37)]⟩,
    ⟨some 39, none, .bin .add (.s 30) (.s 38)⟩,
    ⟨some 7, none, .mv (.s 39)⟩] [[], [], [], [], [2, 3], [4], [5], [], [1, 6, 7], [0, 8], [9, 8, 0, 1, 2, 3, 4, 5, 6, 7, 8, 9]] [1, 3, 5, 7, 8])
def c31_3 : ACode :=
  (.cond (.s 29) c31_2 .skip)
def c31_4 : ACode :=
  (.seq (.region true [⟨some 17, none, .ld true 1 (.s 3)⟩,
    ⟨some 18, none, .mv (.s 1)⟩,
    ⟨some 19, none, .mv (.s 8)⟩,
    ⟨some 20, none, .ia 9 (.s 18) (.s 19)⟩,
    ⟨some 21, none, .fa 1 (.s 20)⟩,
    ⟨some 22, none, .ld false 1 (.s 21)⟩,
    ⟨some 23, none, .mv (.s 1)⟩,
    ⟨some 24, none, .mv (.s 8)⟩,
    ⟨some 25, none, .ia 9 (.s 23) (.s 24)⟩,
    ⟨some 26, none, .fa 2 (.s 25)⟩,
    ⟨some 27, none, .ld false 1 (.s 26)⟩,
    ⟨some 28, none, .ld true 2 (.s 5)⟩,
    ⟨some 29, none, .call 15 [(.s 17), (.s 22), (.s 27), (.s 28)]⟩] [[], [], [], [1, 2], [3], [4], [], [], [6, 7], [8], [9], [], [0, 5, 10, 11]] [1, 3, 5, 7, 8, 29]) c31_3)
def c31_5 : ACode :=
  (.seq (.block 1 c31_4) c31_1)
def c31_6 : ACode :=
  (.cond (.s 14) .skip (.exit 0))
def c31_7 : ACode :=
  (.seq (.seq (.region false [⟨some 11, none, .mv (.s 8)⟩,
    ⟨some 12, none, .mv (.s 1)⟩,
    ⟨some 13, none, .len (.s 12)⟩,
    ⟨some 14, none, .bin .lss (.s 11) (.s 13)⟩] [] [1, 3, 5, 7, 8, 14]) c31_6) c31_5)
def c31_8 : ACode :=
  (.loop c31_7)
def c31_9 : ACode :=
  (.block 0 c31_8)
def c31_10 : ACode :=
  (.seq (.seq (.region false [⟨some 8, none, .cst (.t (.int .i64 0))⟩] [] [1, 3, 5, 7, 8]) c31_9) c31_0)
def c31_11 : ACode :=
  (.seq (.region false [⟨some 9, none, .mv (.s 1)⟩,
    ⟨some 10, none, .len (.s 9)⟩,
    ⟨some 7, none, .mv (.s 10)⟩] [] [1, 3, 5, 7]) c31_10)
def c31 : ACode :=
  (.seq (.region false [⟨some 3, none, .box 1 (.s 0)⟩,
    ⟨some 5, none, .box 2 (.s 2)⟩,
    ⟨some 6, none, .cst (.t (.int .i64 0))⟩] [] [1, 3, 5]) c31_11)
def r31 : List ARes := [.tmp 6]
def n31 : Nat := 41
/- 46 supergraph supergraphref06.Weight -/
def c46_0 : ACode :=
  (.seq (.region false [⟨some 109, none, .mv (.s 5)⟩,
    ⟨some 4, none, .mv (.s 109)⟩] [] [4]) .ret)
def c46_1 : ACode :=
  (.region false [⟨some 23, none, .mv (.s 6)⟩,
    ⟨some 24, none, .bin .add (.s 23) (.c (.t (.int .i64 1)))⟩,
    ⟨some 6, none, .mv (.s 24)⟩] [] [1, 2, 5, 6])
def c46_2 : ACode :=
  (.region false [⟨some 96, none, .mv (.s 9)⟩,
    ⟨some 97, none, .bin .add (.s 96) (.c (.t (.int .i64 1)))⟩,
    ⟨some 9, none, .mv (.s 97)⟩] [] [1, 2, 5, 6, 7, 9])
def c46_3 : ACode :=
  (.region false [⟨some 98, none, .mv (.s 5)⟩,
    ⟨some 99, none, .bin .add (.s 98) (.c (.t (.int .i64 1)))⟩,
    ⟨some 100, none, .fa 5 (.s 7)⟩,
    ⟨some 101, none, .ld false 1 (.s 100)⟩,
    ⟨some 102, none, .mv (.s 9)⟩,
    ⟨some 103, none, .ia 2 (.s 101) (.s 102)⟩,
    ⟨some 104, none, .fa 1 (.s 103)⟩,
    ⟨some 105, none, .ld false 1 (.s 104)⟩,
    ⟨some 106, none, .mv (.s 1)⟩,
    ⟨some 107, none, .call 88 [(.s 105), (.s 106)]⟩,
    ⟨some 108, none, .bin .add (.s 99) (.s 107)⟩,
    ⟨some 5, none, .mv (.s 108)⟩] [] [1, 2, 5, 6, 7, 9])
def c46_4 : ACode :=
  (.seq (.block 5 c46_3) c46_2)
def c46_5 : ACode :=
  (.cond (.s 95) .skip (.exit 4))
def c46_6 : ACode :=
  (.seq (.seq (.region false [⟨some 86, none, .mv (.s 9)⟩,
    ⟨some 87, none, .fa 5 (.s 7)⟩,
    ⟨some 88, none, .ld false 1 (.s 87)⟩,
    ⟨some 89, none, .len (.s 88)⟩,
    ⟨some 90, none, .bin .lss (.s 86) (.s 89)⟩,
    ⟨some 91, none, .mv (.s 90)⟩,
    ⟨some 92, some (91, true), .mv (.s 5)⟩,
    ⟨some 93, some (91, true), .mv (.s 1)⟩,
    ⟨some 94, some (91, true), .bin .leq (.s 92) (.s 93)⟩,
    ⟨some 95, none, .pick (.s 91) (.s 94) (.c (.t (.bool false)))⟩] [] [1, 2, 5, 6, 7, 9, 95]) c46_5) c46_4)
def c46_7 : ACode :=
  (.loop c46_6)
def c46_8 : ACode :=
  (.block 4 c46_7)
def c46_9 : ACode :=
  (.seq (.region false [⟨some 9, none, .cst (.t (.int .i64 0))⟩] [] [1, 2, 5, 6, 7, 9]) c46_8)
def c46_10 : ACode :=
  (.region false [⟨some 55, none, .mv (.s 8)⟩,
    ⟨some 56, none, .bin .add (.s 55) (.c (.t (.int .i64 1)))⟩,
    ⟨some 8, none, .mv (.s 56)⟩] [] [1, 2, 5, 6, 7, 8])
def c46_11 : ACode :=
  (.region true [⟨some 57, none, .mv (.s 5)⟩,
    ⟨some 58, none, .bin .add (.s 57) (.c (.t (.int .i64 1)))⟩,
    ⟨some 59, none, .fa 4 (.s 7)⟩,
    ⟨some 60, none, .ld false 1 (.s 59)⟩,
    ⟨some 61, none, .mv (.s 8)⟩,
    ⟨some 62, none, .ia 5 (.s 60) (.s 61)⟩,
    ⟨some 63, none, .fa 2 (.s 62)⟩,
    ⟨some 64, none, .fa 1 (.s 63)⟩,
    ⟨some 65, none, .ld false 1 (.s 64)⟩,
    ⟨some 66, none, .len (.s 65)⟩,
    ⟨some 67, none, .bin .add (.s 58) (.s 66)⟩,
    ⟨some 68, none, .fa 4 (.s 7)⟩,
    ⟨some 69, none, .ld false 1 (.s 68)⟩,
    ⟨some 70, none, .mv (.s 8)⟩,
    ⟨some 71, none, .ia 5 (.s 69) (.s 70)⟩,
    ⟨some 72, none, .fa 1 (.s 71)⟩,
    ⟨some 73, none, .ld false 1 (.s 72)⟩,
    ⟨some 74, none, .mv (.s 1)⟩,
    ⟨some 75, none, .call 89 [(.s 73), (.s 74)]⟩,
    ⟨some 76, none, .bin .add (.s 67) (.s 75)⟩,
    ⟨some 77, none, .fa 4 (.s 7)⟩,
    ⟨some 78, none, .ld false 1 (.s 77)⟩,
    ⟨some 79, none, .mv (.s 8)⟩,
    ⟨some 80, none, .ia 5 (.s 78) (.s 79)⟩,
    ⟨some 81, none, .fa 4 (.s 80)⟩,
    ⟨some 82, none, .ld false 1 (.s 81)⟩,
    ⟨some 83, none, .mv (.s 1)⟩,
    ⟨some 84, none, .call 88 [(.s 82), (.s 83)]⟩,
    ⟨some 85, none, .bin .add (.s 76) (.s 84)⟩,
    ⟨some 5, none, .mv (.s 85)⟩] [[], [0], [], [2], [], [3, 4], [5], [6], [7], [8], [1, 9], [], [11], [], [12, 13], [14], [15], [], [16, 17], [10, 18], [], [20], [], [21, 22], [23], [24], [], [25, 26, 18], [19, 27], [28, 27, 0, 1, 2, 3, 4, 5, 6, 7, 8, 9, 10, 11, 12, 13, 14, 15, 16, 17, 18, 19, 20, 21, 22, 23, 24, 25, 26, 27, 28]] [1, 2, 5, 6, 7, 8])
def c46_12 : ACode :=
  (.seq (.block 3 c46_11) c46_10)
def c46_13 : ACode :=
  (.cond (.s 54) .skip (.exit 2))
def c46_14 : ACode :=
  (.seq (.seq (.region false [⟨some 45, none, .mv (.s 8)⟩,
    ⟨some 46, none, .fa 4 (.s 7)⟩,
    ⟨some 47, none, .ld false 1 (.s 46)⟩,
    ⟨some 48, none, .len (.s 47)⟩,
    ⟨some 49, none, .bin .lss (.s 45) (.s 48)⟩,
    ⟨some 50, none, .mv (.s 49)⟩,
    ⟨some 51, some (50, true), .mv (.s 5)⟩,
    ⟨some 52, some (50, true), .mv (.s 1)⟩,
    ⟨some 53, some (50, true), .bin .leq (.s 51) (.s 52)⟩,
    ⟨some 54, none, .pick (.s 50) (.s 53) (.c (.t (.bool false)))⟩] [] [1, 2, 5, 6, 7, 8, 54]) c46_13) c46_12)
def c46_15 : ACode :=
  (.loop c46_14)
def c46_16 : ACode :=
  (.block 2 c46_15)
def c46_17 : ACode :=
  (.seq (.seq (.region false [⟨some 8, none, .cst (.t (.int .i64 0))⟩] [] [1, 2, 5, 6, 7, 8]) c46_16) c46_9)
def c46_18 : ACode :=
  (.seq (.region true [⟨some 30, none, .mv (.s 5)⟩,
    ⟨some 31, none, .fa 2 (.s 7)⟩,
    ⟨some 32, none, .ld false 1 (.s 31)⟩,
    ⟨some 33, none, .len (.s 32)⟩,
    ⟨some 34, none, .bin .add (.s 30) (.s 33)⟩,
    ⟨some 35, none, .fa 3 (.s 7)⟩,
    ⟨some 36, none, .ld false 1 (.s 35)⟩,
    ⟨some 37, none, .mv (.s 1)⟩,
    ⟨some 38, none, .call 88 [(.s 36), (.s 37)]⟩,
    ⟨some 39, none, .bin .add (.s 34) (.s 38)⟩,
    ⟨some 40, none, .fa 6 (.s 7)⟩,
    ⟨some 41, none, .ld false 1 (.s 40)⟩,
    ⟨some 42, none, .mv (.s 1)⟩,
    ⟨some 43, none, .call 89 [(.s 41), (.s 42)]⟩,
    ⟨some 44, none, .bin .add (.s 39) (.s 43)⟩,
    ⟨some 5, none, .mv (.s 44)⟩] [[], [], [1], [2], [0, 3], [], [5], [], [6, 7], [4, 8], [], [10], [], [11, 12, 8], [9, 13], [14, 13, 0, 1, 2, 3, 4, 5, 6, 7, 8, 9, 10, 11, 12, 13, 14]] [1, 2, 5, 6, 7]) c46_17)
def c46_19 : ACode :=
  (.seq (.region false [⟨some 25, none, .fa 0 (.s 2)⟩,
    ⟨some 26, none, .ld false 1 (.s 25)⟩,
    ⟨some 27, none, .mv (.s 6)⟩,
    ⟨some 28, none, .ia 7 (.s 26) (.s 27)⟩,
    ⟨some 29, none, .ld true 7 (.s 28)⟩,
    ⟨some 7, none, .alloc [.t (.int .i64 0), .t (.str []), .nils, .nils, .nils, .nils, .nils]⟩,
    ⟨none, none, .st 7 (.s 7) (.s 29)⟩] [] [1, 2, 5, 6, 7]) c46_18)
def c46_20 : ACode :=
  (.seq (.block 1 c46_19) c46_1)
def c46_21 : ACode :=
  (.cond (.s 22) .skip (.exit 0))
def c46_22 : ACode :=
  (.seq (.seq (.region false [⟨some 13, none, .mv (.s 6)⟩,
    ⟨some 14, none, .fa 0 (.s 2)⟩,
    ⟨some 15, none, .ld false 1 (.s 14)⟩,
    ⟨some 16, none, .len (.s 15)⟩,
    ⟨some 17, none, .bin .lss (.s 13) (.s 16)⟩,
    ⟨some 18, none, .mv (.s 17)⟩,
    ⟨some 19, some (18, true), .mv (.s 5)⟩,
    ⟨some 20, some (18, true), .mv (.s 1)⟩,
    ⟨some 21, some (18, true), .bin .leq (.s 19) (.s 20)⟩,
    ⟨some 22, none, .pick (.s 18) (.s 21) (.c (.t (.bool false)))⟩] [] [1, 2, 5, 6, 22]) c46_21) c46_20)
def c46_23 : ACode :=
  (.loop c46_22)
def c46_24 : ACode :=
  (.block 0 c46_23)
def c46_25 : ACode :=
  (.seq (.seq (.region false [⟨some 6, none, .cst (.t (.int .i64 0))⟩] [] [1, 2, 5, 6]) c46_24) c46_0)
def c46_26 : ACode :=
  (.seq (.region false [⟨some 10, none, .fa 0 (.s 2)⟩,
    ⟨some 11, none, .ld false 1 (.s 10)⟩,
    ⟨some 12, none, .len (.s 11)⟩,
    ⟨some 5, none, .mv (.s 12)⟩] [] [1, 2, 5]) c46_25)
def c46 : ACode :=
  (.seq (.region false [⟨some 2, none, .box 1 (.s 0)⟩,
    ⟨some 4, none, .cst (.t (.int .i64 0))⟩] [] [1, 2]) c46_26)
def r46 : List ARes := [.tmp 4]
def n46 : Nat := 110
/- 47 supergraph supergraphlaw43.example -/
def c47_0 : ACode :=
  (.seq (.region true [⟨some 43, none, .ld true 1 (.s 6)⟩,
    ⟨some 44, none, .fa 2 (.s 5)⟩,
    ⟨some 45, none, .ld true 2 (.s 44)⟩,
    ⟨some 46, none, .mv (.s 7)⟩,
    ⟨some 47, none, .build [.t (.str []), .t (.str []), .t (.str []), .nils, .t (.str []), .nils, .t (.str []), .t (.int .i64 0), .nils] [(0, 1, (.c (.t (.str [109, 101])))), (1, 1, (.c (.t (.str [81, 117, 101, 114, 121])))), (2, 1, (.c (.t (.str [109, 101])))), (4, 2, (.s 45)), (7, 1, (.c (.t (.int .i64 (-1))))), (8, 1, (.s 46))]⟩,
    ⟨some 48, none, .bsl true 9 [[.str [], .str [], .str [], .lst [], .str [], .lst [], .str [], .int .i64 0, .lst []]] [(0, (.s 47))]⟩,
    ⟨none, none, .st 1 (.s 0) (.s 43)⟩,
    ⟨some 1, none, .mv (.s 48)⟩] [[], [], [1], [], [2, 3], [4], [0, 0], [5, 6, 0, 1, 2, 3, 4, 5, 6]] [0, 1]) .ret)
def c47_1 : ACode :=
  (.seq (.region false [⟨some 36, none, .fa 2 (.s 3)⟩,
    ⟨some 37, none, .ld true 2 (.s 36)⟩,
    ⟨some 38, none, .build [.t (.str []), .t (.str []), .t (.str []), .nils, .t (.str []), .nils, .t (.str []), .t (.int .i64 0), .nils] [(0, 1, (.c (.t (.str [110, 97, 109, 101])))), (1, 1, (.c (.t (.str [85, 115, 101, 114])))), (2, 1, (.c (.t (.str [110, 97, 109, 101])))), (4, 2, (.s 37)), (7, 1, (.c (.t (.int .i64 (-1)))))]⟩,
    ⟨some 39, none, .fa 2 (.s 4)⟩,
    ⟨some 40, none, .ld true 2 (.s 39)⟩,
    ⟨some 41, none, .build [.t (.str []), .t (.str []), .t (.str []), .nils, .t (.str []), .nils, .t (.str []), .t (.int .i64 0), .nils] [(0, 1, (.c (.t (.str [115, 97, 108, 97, 114, 121])))), (1, 1, (.c (.t (.str [85, 115, 101, 114])))), (2, 1, (.c (.t (.str [115, 97, 108, 97, 114, 121])))), (4, 2, (.s 40)), (7, 1, (.c (.t (.int .i64 (-1)))))]⟩,
    ⟨some 42, none, .bsl true 9 [[.str [], .str [], .str [], .lst [], .str [], .lst [], .str [], .int .i64 0, .lst []], [.str [], .str [], .str [], .lst [], .str [], .lst [], .str [], .int .i64 0, .lst []]] [(0, (.s 38)), (1, (.s 41))]⟩,
    ⟨some 7, none, .mv (.s 42)⟩] [] [0, 5, 6, 7]) c47_0)
def c47_2 : ACode :=
  (.seq (.region false [⟨some 22, none, .ld true 5 (.s 5)⟩,
    ⟨some 23, none, .bsl true 5 [[.str [], .lst [], .str [], .lst [], .lst []]] [(0, (.s 22))]⟩,
    ⟨some 24, none, .build [.t (.int .i64 0), .t (.str []), .nils, .nils, .nils, .nils, .nils] [(0, 1, (.c (.t (.int .i64 1)))), (1, 1, (.c (.t (.str [81, 117, 101, 114, 121])))), (4, 1, (.s 23))]⟩,
    ⟨some 25, none, .ld true 5 (.s 3)⟩,
    ⟨some 26, none, .ld true 5 (.s 4)⟩,
    ⟨some 27, none, .bsl true 5 [[.str [], .lst [], .str [], .lst [], .lst []], [.str [], .lst [], .str [], .lst [], .lst []]] [(0, (.s 25)), (1, (.s 26))]⟩,
    ⟨some 28, none, .build [.t (.int .i64 0), .t (.str []), .nils, .nils, .nils, .nils, .nils] [(0, 1, (.c (.t (.int .i64 1)))), (1, 1, (.c (.t (.str [85, 115, 101, 114])))), (4, 1, (.s 27))]⟩,
    ⟨some 29, none, .build [.t (.str []), .nils] [(0, 1, (.c (.t (.str [97, 117, 116, 104, 101, 110, 116, 105, 99, 97, 116, 101, 100]))))]⟩,
    ⟨some 30, none, .bsl true 2 [[.str [], .lst []]] [(0, (.s 29))]⟩,
    ⟨some 31, none, .ld true 5 (.s 3)⟩,
    ⟨some 32, none, .bsl true 5 [[.str [], .lst [], .str [], .lst [], .lst []]] [(0, (.s 31))]⟩,
    ⟨some 33, none, .build [.t (.int .i64 0), .t (.str []), .nils, .nils, .nils, .nils, .nils] [(0, 1, (.c (.t (.int .i64 1)))), (1, 1, (.c (.t (.str [65, 100, 109, 105, 110])))), (3, 1, (.s 30)), (4, 1, (.s 32))]⟩,
    ⟨some 34, none, .bsl true 7 [[.int .i64 0, .str [], .lst [], .lst [], .lst [], .lst [], .lst []], [.int .i64 0, .str [], .lst [], .lst [], .lst [], .lst [], .lst []], [.int .i64 0, .str [], .lst [], .lst [], .lst [], .lst [], .lst []]] [(0, (.s 24)), (1, (.s 28)), (2, (.s 33))]⟩,
    ⟨some 35, none, .build [.nils] [(0, 1, (.s 34))]⟩,
    ⟨some 6, none, .alloc [.nils]⟩,
    ⟨none, none, .st 1 (.s 6) (.s 35)⟩] [] [0, 3, 4, 5, 6]) c47_1)
def c47_3 : ACode :=
  (.seq (.region false [⟨some 20, none, .build [.t (.str []), .nils] [(0, 1, (.c (.t (.str [85, 115, 101, 114]))))]⟩,
    ⟨some 21, none, .build [.t (.str []), .nils, .t (.str []), .nils, .nils] [(0, 1, (.c (.t (.str [109, 101])))), (2, 2, (.s 20))]⟩,
    ⟨some 5, none, .alloc [.t (.str []), .nils, .t (.str []), .nils, .nils]⟩,
    ⟨none, none, .st 5 (.s 5) (.s 21)⟩] [] [0, 3, 4, 5]) c47_2)
def c47_4 : ACode :=
  (.seq (.region false [⟨some 17, none, .build [.t (.str []), .nils] [(0, 1, (.c (.t (.str [73, 110, 116]))))]⟩,
    ⟨some 18, none, .mv (.s 2)⟩,
    ⟨some 19, none, .build [.t (.str []), .nils, .t (.str []), .nils, .nils] [(0, 1, (.c (.t (.str [115, 97, 108, 97, 114, 121])))), (2, 2, (.s 17)), (4, 1, (.s 18))]⟩,
    ⟨some 4, none, .alloc [.t (.str []), .nils, .t (.str []), .nils, .nils]⟩,
    ⟨none, none, .st 5 (.s 4) (.s 19)⟩] [] [0, 3, 4]) c47_3)
def c47_5 : ACode :=
  (.seq (.region false [⟨some 15, none, .build [.t (.str []), .nils] [(0, 1, (.c (.t (.str [83, 116, 114, 105, 110, 103]))))]⟩,
    ⟨some 16, none, .build [.t (.str []), .nils, .t (.str []), .nils, .nils] [(0, 1, (.c (.t (.str [110, 97, 109, 101])))), (2, 2, (.s 15))]⟩,
    ⟨some 3, none, .alloc [.t (.str []), .nils, .t (.str []), .nils, .nils]⟩,
    ⟨none, none, .st 5 (.s 3) (.s 16)⟩] [] [0, 2, 3]) c47_4)
def c47_6 : ACode :=
  (.seq (.region false [⟨some 8, none, .call 48 [(.c (.t (.str [104, 114])))]⟩,
    ⟨some 9, none, .bsl true 5 [[.int .i64 0, .int .i64 0, .str [], .lst [], .lst []]] [(0, (.s 8))]⟩,
    ⟨some 10, none, .build [.t (.int .i64 0), .t (.int .i64 0), .t (.str []), .nils, .nils] [(0, 1, (.c (.t (.int .i64 5)))), (3, 1, (.s 9))]⟩,
    ⟨some 11, none, .build [.t (.str []), .t (.int .i64 0), .t (.int .i64 0), .t (.str []), .nils, .nils] [(0, 1, (.c (.t (.str [97, 108, 108])))), (1, 5, (.s 10))]⟩,
    ⟨some 12, none, .bsl true 6 [[.str [], .int .i64 0, .int .i64 0, .str [], .lst [], .lst []]] [(0, (.s 11))]⟩,
    ⟨some 13, none, .build [.t (.str []), .nils] [(0, 1, (.c (.t (.str [115, 99, 111, 112, 101, 115])))), (1, 1, (.s 12))]⟩,
    ⟨some 14, none, .bsl true 2 [[.str [], .lst []]] [(0, (.s 13))]⟩,
    ⟨some 2, none, .mv (.s 14)⟩] [] [0, 2]) c47_5)
def c47 : ACode :=
  (.seq (.region false [⟨some 0, none, .alloc [.nils]⟩,
    ⟨some 1, none, .cst (.nils)⟩] [] [0]) c47_6)
def r47 : List ARes := [.cell 0 true 1, .tmp 1]
def n47 : Nat := 49
/- 48 supergraph supergraphlaw43.text -/
def c48_0 : ACode :=
  (.seq (.region false [⟨some 3, none, .mv (.s 0)⟩,
    ⟨some 4, none, .build [.t (.int .i64 0), .t (.int .i64 0), .t (.str []), .nils, .nils] [(0, 1, (.c (.t (.int .i64 3)))), (2, 1, (.s 3))]⟩,
    ⟨none, none, .st 5 (.s 2) (.s 4)⟩] [] [2]) .ret)
def c48 : ACode :=
  (.seq (.region false [⟨some 2, none, .alloc [.t (.int .i64 0), .t (.int .i64 0), .t (.str []), .nils, .nils]⟩] [] [0, 2]) c48_0)
def r48 : List ARes := [.cell 2 true 5]
def n48 : Nat := 5
/- 49 supergraph schema.Find -/
def c49_0 : ACode :=
  (.seq (.region false [⟨some 21, none, .build [.t (.int .i64 0), .t (.str []), .nils, .nils, .nils, .nils, .nils] []⟩,
    ⟨none, none, .st 7 (.s 4) (.s 21)⟩,
    ⟨some 5, none, .cst (.t (.bool false))⟩] [] [4, 5]) .ret)
def c49_1 : ACode :=
  (.region false [⟨some 20, none, .bin .add (.s 11) (.c (.t (.int .i64 1)))⟩,
    ⟨some 11, none, .mv (.s 20)⟩] [] [1, 4, 9, 10, 11])
def c49_2 : ACode :=
  (.seq (.region false [⟨some 19, none, .ld true 7 (.s 7)⟩,
    ⟨none, none, .st 7 (.s 4) (.s 19)⟩,
    ⟨some 5, none, .cst (.t (.bool true))⟩] [] [4, 5]) .ret)
def c49_3 : ACode :=
  (.cond (.s 18) c49_2 .skip)
def c49_4 : ACode :=
  (.seq (.region false [⟨some 15, none, .fa 1 (.s 7)⟩,
    ⟨some 16, none, .ld false 1 (.s 15)⟩,
    ⟨some 17, none, .mv (.s 1)⟩,
    ⟨some 18, none, .bin .eql (.s 16) (.s 17)⟩] [] [1, 4, 7, 9, 10, 11, 18]) c49_3)
def c49_5 : ACode :=
  (.seq (.region false [⟨some 13, none, .ia 7 (.s 9) (.s 11)⟩,
    ⟨some 14, none, .ld true 7 (.s 13)⟩,
    ⟨some 7, none, .alloc [.t (.int .i64 0), .t (.str []), .nils, .nils, .nils, .nils, .nils]⟩,
    ⟨none, none, .st 7 (.s 7) (.s 14)⟩] [] [1, 4, 7, 9, 10, 11]) c49_4)
def c49_6 : ACode :=
  (.seq (.block 1 c49_5) c49_1)
def c49_7 : ACode :=
  (.seq (.cond (.s 12) .skip (.exit 0)) c49_6)
def c49_8 : ACode :=
  (.seq (.region false [⟨some 12, none, .bin .lss (.s 11) (.s 10)⟩] [] [1, 4, 9, 10, 11, 12]) c49_7)
def c49_9 : ACode :=
  (.loop c49_8)
def c49_10 : ACode :=
  (.block 0 c49_9)
def c49_11 : ACode :=
  (.seq (.seq (.region false [⟨some 8, none, .fa 0 (.s 2)⟩,
    ⟨some 9, none, .ld false 1 (.s 8)⟩,
    ⟨some 10, none, .len (.s 9)⟩,
    ⟨some 11, none, .cst (.t (.int .i64 0))⟩] [] [1, 4, 9, 10, 11]) c49_10) c49_0)
def c49 : ACode :=
  (.seq (.region false [⟨some 2, none, .box 1 (.s 0)⟩,
    ⟨some 4, none, .alloc [.t (.int .i64 0), .t (.str []), .nils, .nils, .nils, .nils, .nils]⟩,
    ⟨some 5, none, .cst (.t (.bool false))⟩] [] [1, 2, 4]) c49_11)
def r49 : List ARes := [.cell 4 true 7, .tmp 5]
def n49 : Nat := 22
/- 50 supergraph schema.FieldOf -/
def c50_0 : ACode :=
  (.seq (.region false [⟨some 21, none, .build [.t (.str []), .nils, .t (.str []), .nils, .nils] []⟩,
    ⟨none, none, .st 5 (.s 4) (.s 21)⟩,
    ⟨some 5, none, .cst (.t (.bool false))⟩] [] [4, 5]) .ret)
def c50_1 : ACode :=
  (.region false [⟨some 20, none, .bin .add (.s 11) (.c (.t (.int .i64 1)))⟩,
    ⟨some 11, none, .mv (.s 20)⟩] [] [1, 4, 9, 10, 11])
def c50_2 : ACode :=
  (.seq (.region false [⟨some 19, none, .ld true 5 (.s 7)⟩,
    ⟨none, none, .st 5 (.s 4) (.s 19)⟩,
    ⟨some 5, none, .cst (.t (.bool true))⟩] [] [4, 5]) .ret)
def c50_3 : ACode :=
  (.cond (.s 18) c50_2 .skip)
def c50_4 : ACode :=
  (.seq (.region false [⟨some 15, none, .fa 0 (.s 7)⟩,
    ⟨some 16, none, .ld false 1 (.s 15)⟩,
    ⟨some 17, none, .mv (.s 1)⟩,
    ⟨some 18, none, .bin .eql (.s 16) (.s 17)⟩] [] [1, 4, 7, 9, 10, 11, 18]) c50_3)
def c50_5 : ACode :=
  (.seq (.region false [⟨some 13, none, .ia 5 (.s 9) (.s 11)⟩,
    ⟨some 14, none, .ld true 5 (.s 13)⟩,
    ⟨some 7, none, .alloc [.t (.str []), .nils, .t (.str []), .nils, .nils]⟩,
    ⟨none, none, .st 5 (.s 7) (.s 14)⟩] [] [1, 4, 7, 9, 10, 11]) c50_4)
def c50_6 : ACode :=
  (.seq (.block 1 c50_5) c50_1)
def c50_7 : ACode :=
  (.seq (.cond (.s 12) .skip (.exit 0)) c50_6)
def c50_8 : ACode :=
  (.seq (.region false [⟨some 12, none, .bin .lss (.s 11) (.s 10)⟩] [] [1, 4, 9, 10, 11, 12]) c50_7)
def c50_9 : ACode :=
  (.loop c50_8)
def c50_10 : ACode :=
  (.block 0 c50_9)
def c50_11 : ACode :=
  (.seq (.seq (.region false [⟨some 8, none, .fa 4 (.s 2)⟩,
    ⟨some 9, none, .ld false 1 (.s 8)⟩,
    ⟨some 10, none, .len (.s 9)⟩,
    ⟨some 11, none, .cst (.t (.int .i64 0))⟩] [] [1, 4, 9, 10, 11]) c50_10) c50_0)
def c50 : ACode :=
  (.seq (.region false [⟨some 2, none, .box 7 (.s 0)⟩,
    ⟨some 4, none, .alloc [.t (.str []), .nils, .t (.str []), .nils, .nils]⟩,
    ⟨some 5, none, .cst (.t (.bool false))⟩] [] [1, 2, 4]) c50_11)
def r50 : List ARes := [.cell 4 true 5, .tmp 5]
def n50 : Nat := 22
/- 51 supergraph auth.permits -/
def c51_0 : ACode :=
  (.seq (.region false [⟨some 27, none, .fa 0 (.s 3)⟩,
    ⟨some 28, none, .ld false 1 (.s 27)⟩,
    ⟨some 29, none, .mv (.s 28)⟩,
    ⟨some 30, some (29, true), .fa 3 (.s 5)⟩,
    ⟨some 31, some (29, true), .ld false 1 (.s 30)⟩,
    ⟨some 32, some (29, true), .mkfn 93 [(.s 3)]⟩,
    ⟨some 33, some (29, true), .call 92 [(.s 31), (.s 32)]⟩,
    ⟨some 34, some (29, true), .un .not (.s 33)⟩,
    ⟨some 35, none, .pick (.s 29) (.s 34) (.c (.t (.bool false)))⟩,
    ⟨some 4, none, .mv (.s 35)⟩] [] [4]) .ret)
def c51_1 : ACode :=
  (.seq (.region false [⟨some 25, none, .fa 0 (.s 3)⟩,
    ⟨some 26, none, .ld false 1 (.s 25)⟩,
    ⟨some 4, none, .mv (.s 26)⟩] [] [4]) .ret)
def c51_2 : ACode :=
  (.cond (.s 24) c51_1 .skip)
def c51_3 : ACode :=
  (.seq (.seq (.region false [⟨some 22, none, .fa 0 (.s 5)⟩,
    ⟨some 23, none, .ld false 1 (.s 22)⟩,
    ⟨some 24, none, .bin .neq (.s 23) (.c (.t (.int .i64 5)))⟩] [] [3, 5, 24]) c51_2) c51_0)
def c51_4 : ACode :=
  (.seq (.region false [⟨some 18, none, .mv (.s 0)⟩,
    ⟨some 19, none, .call 91 [(.s 18), (.c (.t (.str [115, 99, 111, 112, 101, 115]))), (.c (.t (.str [97, 108, 108])))]⟩,
    ⟨some 17, none, .mv (.s 19)⟩,
    ⟨some 20, none, .ext (.s 17) 0⟩,
    ⟨some 21, none, .ext (.s 17) 1⟩,
    ⟨some 5, none, .alloc [.t (.int .i64 0), .t (.int .i64 0), .t (.str []), .nils, .nils]⟩,
    ⟨none, none, .st 5 (.s 5) (.s 20)⟩,
    ⟨some 6, none, .mv (.s 21)⟩] [] [3, 5]) c51_3)
def c51_5 : ACode :=
  (.seq (.region false [⟨some 4, none, .cst (.t (.bool true))⟩] [] [4]) .ret)
def c51_6 : ACode :=
  (.cond (.s 16) c51_5 .skip)
def c51_7 : ACode :=
  (.seq (.seq (.region false [⟨some 14, none, .mv (.s 0)⟩,
    ⟨some 15, none, .call 90 [(.s 14), (.c (.t (.str [115, 99, 111, 112, 101, 115])))]⟩,
    ⟨some 16, none, .un .not (.s 15)⟩] [] [0, 3, 16]) c51_6) c51_4)
def c51_8 : ACode :=
  (.seq (.region false [⟨some 4, none, .cst (.t (.bool false))⟩] [] [4]) .ret)
def c51_9 : ACode :=
  (.cond (.s 13) c51_8 .skip)
def c51_10 : ACode :=
  (.seq (.seq (.region false [⟨some 7, none, .mv (.s 0)⟩,
    ⟨some 8, none, .call 90 [(.s 7), (.c (.t (.str [97, 117, 116, 104, 101, 110, 116, 105, 99, 97, 116, 101, 100])))]⟩,
    ⟨some 9, none, .mv (.s 8)⟩,
    ⟨some 10, some (9, true), .fa 0 (.s 3)⟩,
    ⟨some 11, some (9, true), .ld false 1 (.s 10)⟩,
    ⟨some 12, some (9, true), .un .not (.s 11)⟩,
    ⟨some 13, none, .pick (.s 9) (.s 12) (.c (.t (.bool false)))⟩] [] [0, 3, 13]) c51_9) c51_7)
def c51 : ACode :=
  (.seq (.region false [⟨some 3, none, .box 2 (.s 1)⟩,
    ⟨some 4, none, .cst (.t (.bool false))⟩] [] [0, 3]) c51_10)
def r51 : List ARes := [.tmp 4]
def n51 : Nat := 36
/- 52 supergraph supergraphref10.Find -/
def c52_0 : ACode :=
  (.seq (.region false [⟨some 27, none, .build [.t (.int .i64 0), .t (.str []), .nils, .nils, .nils, .nils, .nils] []⟩,
    ⟨none, none, .st 7 (.s 4) (.s 27)⟩,
    ⟨some 5, none, .cst (.t (.bool false))⟩] [] [4, 5]) .ret)
def c52_1 : ACode :=
  (.region false [⟨some 12, none, .mv (.s 6)⟩,
    ⟨some 13, none, .bin .add (.s 12) (.c (.t (.int .i64 1)))⟩,
    ⟨some 6, none, .mv (.s 13)⟩] [] [1, 2, 4, 6])
def c52_2 : ACode :=
  (.seq (.region false [⟨some 22, none, .fa 0 (.s 2)⟩,
    ⟨some 23, none, .ld false 1 (.s 22)⟩,
    ⟨some 24, none, .mv (.s 6)⟩,
    ⟨some 25, none, .ia 7 (.s 23) (.s 24)⟩,
    ⟨some 26, none, .ld true 7 (.s 25)⟩,
    ⟨none, none, .st 7 (.s 4) (.s 26)⟩,
    ⟨some 5, none, .cst (.t (.bool true))⟩] [] [4, 5]) .ret)
def c52_3 : ACode :=
  (.cond (.s 21) c52_2 .skip)
def c52_4 : ACode :=
  (.seq (.region false [⟨some 14, none, .fa 0 (.s 2)⟩,
    ⟨some 15, none, .ld false 1 (.s 14)⟩,
    ⟨some 16, none, .mv (.s 6)⟩,
    ⟨some 17, none, .ia 7 (.s 15) (.s 16)⟩,
    ⟨some 18, none, .fa 1 (.s 17)⟩,
    ⟨some 19, none, .ld false 1 (.s 18)⟩,
    ⟨some 20, none, .mv (.s 1)⟩,
    ⟨some 21, none, .bin .eql (.s 19) (.s 20)⟩] [] [1, 2, 4, 6, 21]) c52_3)
def c52_5 : ACode :=
  (.seq (.block 1 c52_4) c52_1)
def c52_6 : ACode :=
  (.cond (.s 11) .skip (.exit 0))
def c52_7 : ACode :=
  (.seq (.seq (.region false [⟨some 7, none, .mv (.s 6)⟩,
    ⟨some 8, none, .fa 0 (.s 2)⟩,
    ⟨some 9, none, .ld false 1 (.s 8)⟩,
    ⟨some 10, none, .len (.s 9)⟩,
    ⟨some 11, none, .bin .lss (.s 7) (.s 10)⟩] [] [1, 2, 4, 6, 11]) c52_6) c52_5)
def c52_8 : ACode :=
  (.loop c52_7)
def c52_9 : ACode :=
  (.block 0 c52_8)
def c52_10 : ACode :=
  (.seq (.seq (.region false [⟨some 6, none, .cst (.t (.int .i64 0))⟩] [] [1, 2, 4, 6]) c52_9) c52_0)
def c52 : ACode :=
  (.seq (.region false [⟨some 2, none, .box 1 (.s 0)⟩,
    ⟨some 4, none, .alloc [.t (.int .i64 0), .t (.str []), .nils, .nils, .nils, .nils, .nils]⟩,
    ⟨some 5, none, .cst (.t (.bool false))⟩] [] [1, 2, 4]) c52_10)
def r52 : List ARes := [.cell 4 true 7, .tmp 5]
def n52 : Nat := 28
/- 53 supergraph supergraphref10.FieldOf -/
def c53_0 : ACode :=
  (.seq (.region false [⟨some 27, none, .build [.t (.str []), .nils, .t (.str []), .nils, .nils] []⟩,
    ⟨none, none, .st 5 (.s 4) (.s 27)⟩,
    ⟨some 5, none, .cst (.t (.bool false))⟩] [] [4, 5]) .ret)
def c53_1 : ACode :=
  (.region false [⟨some 12, none, .mv (.s 6)⟩,
    ⟨some 13, none, .bin .add (.s 12) (.c (.t (.int .i64 1)))⟩,
    ⟨some 6, none, .mv (.s 13)⟩] [] [1, 2, 4, 6])
def c53_2 : ACode :=
  (.seq (.region false [⟨some 22, none, .fa 4 (.s 2)⟩,
    ⟨some 23, none, .ld false 1 (.s 22)⟩,
    ⟨some 24, none, .mv (.s 6)⟩,
    ⟨some 25, none, .ia 5 (.s 23) (.s 24)⟩,
    ⟨some 26, none, .ld true 5 (.s 25)⟩,
    ⟨none, none, .st 5 (.s 4) (.s 26)⟩,
    ⟨some 5, none, .cst (.t (.bool true))⟩] [] [4, 5]) .ret)
def c53_3 : ACode :=
  (.cond (.s 21) c53_2 .skip)
def c53_4 : ACode :=
  (.seq (.region false [⟨some 14, none, .fa 4 (.s 2)⟩,
    ⟨some 15, none, .ld false 1 (.s 14)⟩,
    ⟨some 16, none, .mv (.s 6)⟩,
    ⟨some 17, none, .ia 5 (.s 15) (.s 16)⟩,
    ⟨some 18, none, .fa 0 (.s 17)⟩,
    ⟨some 19, none, .ld false 1 (.s 18)⟩,
    ⟨some 20, none, .mv (.s 1)⟩,
    ⟨some 21, none, .bin .eql (.s 19) (.s 20)⟩] [] [1, 2, 4, 6, 21]) c53_3)
def c53_5 : ACode :=
  (.seq (.block 1 c53_4) c53_1)
def c53_6 : ACode :=
  (.cond (.s 11) .skip (.exit 0))
def c53_7 : ACode :=
  (.seq (.seq (.region false [⟨some 7, none, .mv (.s 6)⟩,
    ⟨some 8, none, .fa 4 (.s 2)⟩,
    ⟨some 9, none, .ld false 1 (.s 8)⟩,
    ⟨some 10, none, .len (.s 9)⟩,
    ⟨some 11, none, .bin .lss (.s 7) (.s 10)⟩] [] [1, 2, 4, 6, 11]) c53_6) c53_5)
def c53_8 : ACode :=
  (.loop c53_7)
def c53_9 : ACode :=
  (.block 0 c53_8)
def c53_10 : ACode :=
  (.seq (.seq (.region false [⟨some 6, none, .cst (.t (.int .i64 0))⟩] [] [1, 2, 4, 6]) c53_9) c53_0)
def c53 : ACode :=
  (.seq (.region false [⟨some 2, none, .box 7 (.s 0)⟩,
    ⟨some 4, none, .alloc [.t (.str []), .nils, .t (.str []), .nils, .nils]⟩,
    ⟨some 5, none, .cst (.t (.bool false))⟩] [] [1, 2, 4]) c53_10)
def r53 : List ARes := [.cell 4 true 5, .tmp 5]
def n53 : Nat := 28
/- 54 supergraph supergraphref43.permit -/
def c54_0 : ACode :=
  (.seq (.region false [⟨some 4, none, .cst (.t (.bool true))⟩] [] [4]) .ret)
def c54_1 : ACode :=
  (.region false [⟨some 36, none, .mv (.s 7)⟩,
    ⟨some 37, none, .bin .add (.s 36) (.c (.t (.int .i64 1)))⟩,
    ⟨some 7, none, .mv (.s 37)⟩] [] [3, 5, 7])
def c54_2 : ACode :=
  (.seq (.region false [⟨some 4, none, .cst (.t (.bool false))⟩] [] [4]) .ret)
def c54_3 : ACode :=
  (.cond (.s 56) c54_2 .skip)
def c54_4 : ACode :=
  (.seq (.region true [⟨some 38, none, .fa 3 (.s 5)⟩,
    ⟨some 39, none, .ld false 1 (.s 38)⟩,
    ⟨some 40, none, .mv (.s 7)⟩,
    ⟨some 41, none, .ia 5 (.s 39) (.s 40)⟩,
    ⟨some 42, none, .fa 0 (.s 41)⟩,
    ⟨some 43, none, .ld false 1 (.s 42)⟩,
    ⟨some 44, none, .bin .neq (.s 43) (.c (.t (.int .i64 3)))⟩,
    ⟨some 45, none, .mv (.s 44)⟩,
    ⟨some 46, some (45, false), .fa 1 (.s 3)⟩,
    ⟨some 47, some (45, false), .ld false 1 (.s 46)⟩,
    ⟨some 48, some (45, false), .fa 3 (.s 5)⟩,
    ⟨some 49, some (45, false), .ld false 1 (.s 48)⟩,
    ⟨some 50, some (45, false), .mv (.s 7)⟩,
    ⟨some 51, some (45, false), .ia 5 (.s 49) (.s 50)⟩,
    ⟨some 52, some (45, false), .fa 2 (.s 51)⟩,
    ⟨some 53, some (45, false), .ld false 1 (.s 52)⟩,
    ⟨some 54, some (45, false), .call 97 [(.s 47), (.s 53)]⟩,
    ⟨some 55, some (45, false), .un .not (.s 54)⟩,
    ⟨some 56, none, .pick (.s 45) (.c (.t (.bool true))) (.s 55)⟩] [[], [0], [], [1, 2], [3], [4], [5], [6], [7], [8, 7], [7], [10, 7], [7], [11, 12, 7], [13, 7], [14, 7], [9, 15, 7, 7], [16, 7], [7, 17]] [3, 5, 7, 56]) c54_3)
def c54_5 : ACode :=
  (.seq (.block 1 c54_4) c54_1)
def c54_6 : ACode :=
  (.cond (.s 35) .skip (.exit 0))
def c54_7 : ACode :=
  (.seq (.seq (.region false [⟨some 31, none, .mv (.s 7)⟩,
    ⟨some 32, none, .fa 3 (.s 5)⟩,
    ⟨some 33, none, .ld false 1 (.s 32)⟩,
    ⟨some 34, none, .len (.s 33)⟩,
    ⟨some 35, none, .bin .lss (.s 31) (.s 34)⟩] [] [3, 5, 7, 35]) c54_6) c54_5)
def c54_8 : ACode :=
  (.loop c54_7)
def c54_9 : ACode :=
  (.block 0 c54_8)
def c54_10 : ACode :=
  (.seq (.seq (.region false [⟨some 7, none, .cst (.t (.int .i64 0))⟩] [] [3, 5, 7]) c54_9) c54_0)
def c54_11 : ACode :=
  (.seq (.region false [⟨some 4, none, .cst (.t (.bool true))⟩] [] [4]) .ret)
def c54_12 : ACode :=
  (.cond (.s 30) c54_11 .skip)
def c54_13 : ACode :=
  (.seq (.seq (.region false [⟨some 24, none, .mv (.s 6)⟩,
    ⟨some 25, none, .un .not (.s 24)⟩,
    ⟨some 26, none, .mv (.s 25)⟩,
    ⟨some 27, some (26, false), .fa 0 (.s 5)⟩,
    ⟨some 28, some (26, false), .ld false 1 (.s 27)⟩,
    ⟨some 29, some (26, false), .bin .neq (.s 28) (.c (.t (.int .i64 5)))⟩,
    ⟨some 30, none, .pick (.s 26) (.c (.t (.bool true))) (.s 29)⟩] [] [3, 5, 30]) c54_12) c54_10)
def c54_14 : ACode :=
  (.seq (.region false [⟨some 20, none, .mv (.s 0)⟩,
    ⟨some 21, none, .call 96 [(.s 20), (.c (.t (.str [115, 99, 111, 112, 101, 115]))), (.c (.t (.str [97, 108, 108])))]⟩,
    ⟨some 19, none, .mv (.s 21)⟩,
    ⟨some 22, none, .ext (.s 19) 0⟩,
    ⟨some 23, none, .ext (.s 19) 1⟩,
    ⟨some 5, none, .alloc [.t (.int .i64 0), .t (.int .i64 0), .t (.str []), .nils, .nils]⟩,
    ⟨none, none, .st 5 (.s 5) (.s 22)⟩,
    ⟨some 6, none, .mv (.s 23)⟩] [] [3, 5, 6]) c54_13)
def c54_15 : ACode :=
  (.seq (.region false [⟨some 4, none, .cst (.t (.bool false))⟩] [] [4]) .ret)
def c54_16 : ACode :=
  (.cond (.s 18) c54_15 .skip)
def c54_17 : ACode :=
  (.seq (.seq (.region false [⟨some 8, none, .mv (.s 0)⟩,
    ⟨some 9, none, .call 95 [(.s 8), (.c (.t (.str [97, 117, 116, 104, 101, 110, 116, 105, 99, 97, 116, 101, 100])))]⟩,
    ⟨some 10, none, .mv (.s 9)⟩,
    ⟨some 11, some (10, false), .mv (.s 0)⟩,
    ⟨some 12, some (10, false), .call 95 [(.s 11), (.c (.t (.str [115, 99, 111, 112, 101, 115])))]⟩,
    ⟨some 13, none, .pick (.s 10) (.c (.t (.bool true))) (.s 12)⟩,
    ⟨some 14, none, .mv (.s 13)⟩,
    ⟨some 15, some (14, true), .fa 0 (.s 3)⟩,
    ⟨some 16, some (14, true), .ld false 1 (.s 15)⟩,
    ⟨some 17, some (14, true), .un .not (.s 16)⟩,
    ⟨some 18, none, .pick (.s 14) (.s 17) (.c (.t (.bool false)))⟩] [] [0, 3, 18]) c54_16) c54_14)
def c54 : ACode :=
  (.seq (.region false [⟨some 3, none, .box 2 (.s 1)⟩,
    ⟨some 4, none, .cst (.t (.bool false))⟩] [] [0, 3]) c54_17)
def r54 : List ARes := [.tmp 4]
def n54 : Nat := 57
/- 55 supergraph auth.filter -/
def c55_0 : ACode :=
  (.seq (.region false [⟨some 88, none, .mv (.s 10)⟩,
    ⟨some 89, none, .mv (.s 11)⟩,
    ⟨some 8, none, .mv (.s 88)⟩,
    ⟨some 9, none, .mv (.s 89)⟩] [] [8, 9]) .ret)
def c55_1 : ACode :=
  (.region false [⟨some 87, none, .bin .add (.s 21) (.c (.t (.int .i64 1)))⟩,
    ⟨some 21, none, .mv (.s 87)⟩] [] [3, 4, 6, 10, 11, 19, 20, 21])
def c55_2 : ACode :=
  (.region false [⟨some 84, none, .mv (.s 11)⟩,
    ⟨some 85, none, .mv (.s 18)⟩,
    ⟨some 86, none, .app 1 24 (.s 84) (.s 85)⟩,
    ⟨some 11, none, .mv (.s 86)⟩] [] [3, 4, 6, 10, 11, 19, 20, 21])
def c55_3 : ACode :=
  (.seq (.region false [⟨some 80, none, .mv (.s 10)⟩,
    ⟨some 81, none, .ld true 9 (.s 15)⟩,
    ⟨some 82, none, .bsl false 9 [[.str [], .str [], .str [], .lst [], .str [], .lst [], .str [], .int .i64 0, .lst []]] [(0, (.s 81))]⟩,
    ⟨some 83, none, .app 9 160 (.s 80) (.s 82)⟩,
    ⟨some 10, none, .mv (.s 83)⟩] [] [3, 4, 6, 10, 11, 18, 19, 20, 21]) c55_2)
def c55_4 : ACode :=
  (.seq (.region false [⟨some 71, none, .ld true 1 (.s 4)⟩,
    ⟨some 72, none, .fa 8 (.s 13)⟩,
    ⟨some 73, none, .ld false 1 (.s 72)⟩,
    ⟨some 74, none, .ld true 2 (.s 6)⟩,
    ⟨some 75, none, .mv (.s 14)⟩,
    ⟨some 76, none, .call 55 [(.s 71), (.s 73), (.s 74), (.s 75)]⟩,
    ⟨some 70, none, .mv (.s 76)⟩,
    ⟨some 77, none, .ext (.s 70) 0⟩,
    ⟨some 78, none, .ext (.s 70) 1⟩,
    ⟨some 79, none, .fa 8 (.s 15)⟩,
    ⟨none, none, .st 1 (.s 79) (.s 77)⟩,
    ⟨some 18, none, .mv (.s 78)⟩] [] [3, 4, 6, 10, 11, 15, 18, 19, 20, 21]) c55_3)
def c55_5 : ACode :=
  (.seq (.region false [⟨some 18, none, .cst (.nils)⟩] [] [3, 4, 6, 10, 11, 13, 14, 15, 19, 20, 21]) c55_4)
def c55_6 : ACode :=
  (.region false [⟨some 69, none, .bin .add (.s 54) (.c (.t (.int .i64 1)))⟩,
    ⟨some 54, none, .mv (.s 69)⟩] [] [3, 4, 6, 10, 11, 13, 14, 15, 19, 20, 21, 52, 53, 54])
def c55_7 : ACode :=
  (.region true [⟨some 58, none, .fa 3 (.s 15)⟩,
    ⟨some 59, none, .ld false 1 (.s 58)⟩,
    ⟨some 60, none, .fa 0 (.s 17)⟩,
    ⟨some 61, none, .ld false 1 (.s 60)⟩,
    ⟨some 62, none, .fa 1 (.s 17)⟩,
    ⟨some 63, none, .ld true 5 (.s 62)⟩,
    ⟨some 64, none, .call 100 [(.s 63)]⟩,
    ⟨some 65, none, .build [.t (.str []), .t (.int .i64 0), .t (.int .i64 0), .t (.str []), .nils, .nils] [(0, 1, (.s 61)), (1, 5, (.s 64))]⟩,
    ⟨some 66, none, .bsl false 6 [[.str [], .int .i64 0, .int .i64 0, .str [], .lst [], .lst []]] [(0, (.s 65))]⟩,
    ⟨some 67, none, .app 6 96 (.s 59) (.s 66)⟩,
    ⟨some 68, none, .fa 3 (.s 15)⟩,
    ⟨none, none, .st 1 (.s 68) (.s 67)⟩] [[], [0], [], [2], [], [4], [5], [3, 6], [7], [1, 8, 6], [0, 1, 2, 3, 4, 5, 6, 7, 8, 9], [10, 9, 9, 0, 1, 2, 3, 4, 5, 6, 7, 8, 9]] [3, 4, 6, 10, 11, 13, 14, 15, 19, 20, 21, 52, 53, 54])
def c55_8 : ACode :=
  (.seq (.region false [⟨some 56, none, .ia 6 (.s 52) (.s 54)⟩,
    ⟨some 57, none, .ld true 6 (.s 56)⟩,
    ⟨some 17, none, .alloc [.t (.str []), .t (.int .i64 0), .t (.int .i64 0), .t (.str []), .nils, .nils]⟩,
    ⟨none, none, .st 6 (.s 17) (.s 57)⟩] [] [3, 4, 6, 10, 11, 13, 14, 15, 17, 19, 20, 21, 52, 53, 54]) c55_7)
def c55_9 : ACode :=
  (.seq (.block 3 c55_8) c55_6)
def c55_10 : ACode :=
  (.seq (.cond (.s 55) .skip (.exit 2)) c55_9)
def c55_11 : ACode :=
  (.seq (.region false [⟨some 55, none, .bin .lss (.s 54) (.s 53)⟩] [] [3, 4, 6, 10, 11, 13, 14, 15, 19, 20, 21, 52, 53, 54, 55]) c55_10)
def c55_12 : ACode :=
  (.loop c55_11)
def c55_13 : ACode :=
  (.block 2 c55_12)
def c55_14 : ACode :=
  (.seq (.seq (.region false [⟨some 51, none, .fa 3 (.s 13)⟩,
    ⟨some 52, none, .ld false 1 (.s 51)⟩,
    ⟨some 53, none, .len (.s 52)⟩,
    ⟨some 54, none, .cst (.t (.int .i64 0))⟩] [] [3, 4, 6, 10, 11, 13, 14, 15, 19, 20, 21, 52, 53, 54]) c55_13) c55_5)
def c55_15 : ACode :=
  (.seq (.region false [⟨some 50, none, .fa 3 (.s 15)⟩,
    ⟨none, none, .st 1 (.s 50) (.c (.nils))⟩] [] [3, 4, 6, 10, 11, 13, 14, 15, 19, 20, 21]) c55_14)
def c55_16 : ACode :=
  (.seq (.region false [⟨some 44, none, .fa 4 (.s 13)⟩,
    ⟨some 45, none, .fa 1 (.s 44)⟩,
    ⟨some 46, none, .ld false 1 (.s 45)⟩,
    ⟨some 47, none, .call 99 [(.s 46)]⟩,
    ⟨some 48, none, .fa 4 (.s 15)⟩,
    ⟨some 49, none, .fa 1 (.s 48)⟩,
    ⟨none, none, .st 1 (.s 49) (.s 47)⟩] [] [3, 4, 6, 10, 11, 13, 14, 15, 19, 20, 21]) c55_15)
def c55_17 : ACode :=
  (.seq (.region false [⟨some 43, none, .ld true 9 (.s 13)⟩,
    ⟨some 15, none, .alloc [.t (.str []), .t (.str []), .t (.str []), .nils, .t (.str []), .nils, .t (.str []), .t (.int .i64 0), .nils]⟩,
    ⟨none, none, .st 9 (.s 15) (.s 43)⟩] [] [3, 4, 6, 10, 11, 13, 14, 15, 19, 20, 21]) c55_16)
def c55_18 : ACode :=
  (.seq (.region false [⟨some 39, none, .mv (.s 11)⟩,
    ⟨some 40, none, .mv (.s 14)⟩,
    ⟨some 41, none, .bsl false 1 [[.lst []]] [(0, (.s 40))]⟩,
    ⟨some 42, none, .app 1 24 (.s 39) (.s 41)⟩,
    ⟨some 11, none, .mv (.s 42)⟩] [] [3, 4, 6, 10, 11, 19, 20, 21]) (.exit 1))
def c55_19 : ACode :=
  (.cond (.s 38) c55_18 .skip)
def c55_20 : ACode :=
  (.seq (.seq (.region false [⟨some 31, none, .ld true 1 (.s 4)⟩,
    ⟨some 32, none, .fa 1 (.s 13)⟩,
    ⟨some 33, none, .ld false 1 (.s 32)⟩,
    ⟨some 34, none, .fa 2 (.s 13)⟩,
    ⟨some 35, none, .ld false 1 (.s 34)⟩,
    ⟨some 36, none, .ld true 2 (.s 6)⟩,
    ⟨some 37, none, .call 15 [(.s 31), (.s 33), (.s 35), (.s 36)]⟩,
    ⟨some 38, none, .un .not (.s 37)⟩] [] [3, 4, 6, 10, 11, 13, 14, 19, 20, 21, 38]) c55_19) c55_17)
def c55_21 : ACode :=
  (.seq (.region false [⟨some 25, none, .mv (.s 3)⟩,
    ⟨some 26, none, .fa 1 (.s 13)⟩,
    ⟨some 27, none, .ld false 1 (.s 26)⟩,
    ⟨some 28, none, .fa 0 (.s 13)⟩,
    ⟨some 29, none, .ld false 1 (.s 28)⟩,
    ⟨some 30, none, .call 98 [(.s 25), (.s 27), (.s 29)]⟩,
    ⟨some 14, none, .mv (.s 30)⟩] [] [3, 4, 6, 10, 11, 13, 14, 19, 20, 21]) c55_20)
def c55_22 : ACode :=
  (.seq (.region false [⟨some 23, none, .ia 9 (.s 19) (.s 21)⟩,
    ⟨some 24, none, .ld true 9 (.s 23)⟩,
    ⟨some 13, none, .alloc [.t (.str []), .t (.str []), .t (.str []), .nils, .t (.str []), .nils, .t (.str []), .t (.int .i64 0), .nils]⟩,
    ⟨none, none, .st 9 (.s 13) (.s 24)⟩] [] [3, 4, 6, 10, 11, 13, 19, 20, 21]) c55_21)
def c55_23 : ACode :=
  (.seq (.block 1 c55_22) c55_1)
def c55_24 : ACode :=
  (.seq (.cond (.s 22) .skip (.exit 0)) c55_23)
def c55_25 : ACode :=
  (.seq (.region false [⟨some 22, none, .bin .lss (.s 21) (.s 20)⟩] [] [3, 4, 6, 10, 11, 19, 20, 21, 22]) c55_24)
def c55_26 : ACode :=
  (.loop c55_25)
def c55_27 : ACode :=
  (.block 0 c55_26)
def c55_28 : ACode :=
  (.seq (.seq (.region false [⟨some 19, none, .mv (.s 1)⟩,
    ⟨some 20, none, .len (.s 19)⟩,
    ⟨some 21, none, .cst (.t (.int .i64 0))⟩] [] [3, 4, 6, 10, 11, 19, 20, 21]) c55_27) c55_0)
def c55_29 : ACode :=
  (.seq (.region false [⟨some 11, none, .cst (.nils)⟩] [] [1, 3, 4, 6, 10, 11]) c55_28)
def c55_30 : ACode :=
  (.seq (.region false [⟨some 10, none, .cst (.nils)⟩] [] [1, 3, 4, 6, 10]) c55_29)
def c55 : ACode :=
  (.seq (.region false [⟨some 4, none, .box 1 (.s 0)⟩,
    ⟨some 6, none, .box 2 (.s 2)⟩,
    ⟨some 8, none, .cst (.nils)⟩,
    ⟨some 9, none, .cst (.nils)⟩] [] [1, 3, 4, 6]) c55_30)
def r55 : List ARes := [.tmp 8, .tmp 9]
def n55 : Nat := 90
/- 56 supergraph supergraphref43.filter -/
def c56_0 : ACode :=
  (.seq (.region false [⟨some 63, none, .mv (.s 10)⟩,
    ⟨some 64, none, .mv (.s 11)⟩,
    ⟨some 8, none, .mv (.s 63)⟩,
    ⟨some 9, none, .mv (.s 64)⟩] [] [8, 9]) .ret)
def c56_1 : ACode :=
  (.region false [⟨some 21, none, .mv (.s 12)⟩,
    ⟨some 22, none, .bin .add (.s 21) (.c (.t (.int .i64 1)))⟩,
    ⟨some 12, none, .mv (.s 22)⟩] [] [1, 3, 4, 6, 10, 11, 12])
def c56_2 : ACode :=
  (.region false [⟨some 60, none, .mv (.s 11)⟩,
    ⟨some 61, none, .mv (.s 16)⟩,
    ⟨some 62, none, .app 1 24 (.s 60) (.s 61)⟩,
    ⟨some 11, none, .mv (.s 62)⟩] [] [1, 3, 4, 6, 10, 11, 12])
def c56_3 : ACode :=
  (.seq (.region false [⟨some 56, none, .mv (.s 10)⟩,
    ⟨some 57, none, .ld true 9 (.s 13)⟩,
    ⟨some 58, none, .bsl false 9 [[.str [], .str [], .str [], .lst [], .str [], .lst [], .str [], .int .i64 0, .lst []]] [(0, (.s 57))]⟩,
    ⟨some 59, none, .app 9 160 (.s 56) (.s 58)⟩,
    ⟨some 10, none, .mv (.s 59)⟩] [] [1, 3, 4, 6, 10, 11, 12, 16]) c56_2)
def c56_4 : ACode :=
  (.seq (.region false [⟨some 54, none, .mv (.s 15)⟩,
    ⟨some 55, none, .fa 8 (.s 13)⟩,
    ⟨none, none, .st 1 (.s 55) (.s 54)⟩] [] [1, 3, 4, 6, 10, 11, 12, 13, 16]) c56_3)
def c56_5 : ACode :=
  (.seq (.region false [⟨some 46, none, .ld true 1 (.s 4)⟩,
    ⟨some 47, none, .fa 8 (.s 13)⟩,
    ⟨some 48, none, .ld false 1 (.s 47)⟩,
    ⟨some 49, none, .ld true 2 (.s 6)⟩,
    ⟨some 50, none, .mv (.s 14)⟩,
    ⟨some 51, none, .call 56 [(.s 46), (.s 48), (.s 49), (.s 50)]⟩,
    ⟨some 45, none, .mv (.s 51)⟩,
    ⟨some 52, none, .ext (.s 45) 0⟩,
    ⟨some 53, none, .ext (.s 45) 1⟩,
    ⟨some 15, none, .mv (.s 52)⟩,
    ⟨some 16, none, .mv (.s 53)⟩] [] [1, 3, 4, 6, 10, 11, 12, 13, 15, 16]) c56_4)
def c56_6 : ACode :=
  (.seq (.region false [⟨some 41, none, .mv (.s 11)⟩,
    ⟨some 42, none, .mv (.s 14)⟩,
    ⟨some 43, none, .bsl false 1 [[.lst []]] [(0, (.s 42))]⟩,
    ⟨some 44, none, .app 1 24 (.s 41) (.s 43)⟩,
    ⟨some 11, none, .mv (.s 44)⟩] [] [1, 3, 4, 6, 10, 11, 12]) (.exit 1))
def c56_7 : ACode :=
  (.cond (.s 40) c56_6 .skip)
def c56_8 : ACode :=
  (.seq (.seq (.region false [⟨some 33, none, .ld true 1 (.s 4)⟩,
    ⟨some 34, none, .fa 1 (.s 13)⟩,
    ⟨some 35, none, .ld false 1 (.s 34)⟩,
    ⟨some 36, none, .fa 2 (.s 13)⟩,
    ⟨some 37, none, .ld false 1 (.s 36)⟩,
    ⟨some 38, none, .ld true 2 (.s 6)⟩,
    ⟨some 39, none, .call 16 [(.s 33), (.s 35), (.s 37), (.s 38)]⟩,
    ⟨some 40, none, .un .not (.s 39)⟩] [] [1, 3, 4, 6, 10, 11, 12, 13, 14, 40]) c56_7) c56_5)
def c56_9 : ACode :=
  (.seq (.region false [⟨some 27, none, .mv (.s 3)⟩,
    ⟨some 28, none, .fa 1 (.s 13)⟩,
    ⟨some 29, none, .ld false 1 (.s 28)⟩,
    ⟨some 30, none, .fa 0 (.s 13)⟩,
    ⟨some 31, none, .ld false 1 (.s 30)⟩,
    ⟨some 32, none, .call 101 [(.s 27), (.s 29), (.s 31)]⟩,
    ⟨some 14, none, .mv (.s 32)⟩] [] [1, 3, 4, 6, 10, 11, 12, 13, 14]) c56_8)
def c56_10 : ACode :=
  (.seq (.region false [⟨some 23, none, .mv (.s 1)⟩,
    ⟨some 24, none, .mv (.s 12)⟩,
    ⟨some 25, none, .ia 9 (.s 23) (.s 24)⟩,
    ⟨some 26, none, .ld true 9 (.s 25)⟩,
    ⟨some 13, none, .alloc [.t (.str []), .t (.str []), .t (.str []), .nils, .t (.str []), .nils, .t (.str []), .t (.int .i64 0), .nils]⟩,
    ⟨none, none, .st 9 (.s 13) (.s 26)⟩] [] [1, 3, 4, 6, 10, 11, 12, 13]) c56_9)
def c56_11 : ACode :=
  (.seq (.block 1 c56_10) c56_1)
def c56_12 : ACode :=
  (.cond (.s 20) .skip (.exit 0))
def c56_13 : ACode :=
  (.seq (.seq (.region false [⟨some 17, none, .mv (.s 12)⟩,
    ⟨some 18, none, .mv (.s 1)⟩,
    ⟨some 19, none, .len (.s 18)⟩,
    ⟨some 20, none, .bin .lss (.s 17) (.s 19)⟩] [] [1, 3, 4, 6, 10, 11, 12, 20]) c56_12) c56_11)
def c56_14 : ACode :=
  (.loop c56_13)
def c56_15 : ACode :=
  (.block 0 c56_14)
def c56_16 : ACode :=
  (.seq (.seq (.region false [⟨some 12, none, .cst (.t (.int .i64 0))⟩] [] [1, 3, 4, 6, 10, 11, 12]) c56_15) c56_0)
def c56_17 : ACode :=
  (.seq (.region false [⟨some 11, none, .cst (.nils)⟩] [] [1, 3, 4, 6, 10, 11]) c56_16)
def c56_18 : ACode :=
  (.seq (.region false [⟨some 10, none, .cst (.nils)⟩] [] [1, 3, 4, 6, 10]) c56_17)
def c56 : ACode :=
  (.seq (.region false [⟨some 4, none, .box 1 (.s 0)⟩,
    ⟨some 6, none, .box 2 (.s 2)⟩,
    ⟨some 8, none, .cst (.nils)⟩,
    ⟨some 9, none, .cst (.nils)⟩] [] [1, 3, 4, 6]) c56_18)
def r56 : List ARes := [.tmp 8, .tmp 9]
def n56 : Nat := 65
/- 57 supergraph supergraphref05.Same -/
def c57_0 : ACode :=
  (.seq (.region false [⟨some 5, none, .fa 0 (.s 2)⟩,
    ⟨some 6, none, .ld false 1 (.s 5)⟩,
    ⟨some 7, none, .fa 0 (.s 3)⟩,
    ⟨some 8, none, .ld false 1 (.s 7)⟩,
    ⟨some 9, none, .bin .eql (.s 6) (.s 8)⟩,
    ⟨some 10, none, .mv (.s 9)⟩,
    ⟨some 11, some (10, true), .fa 1 (.s 2)⟩,
    ⟨some 12, some (10, true), .ld false 1 (.s 11)⟩,
    ⟨some 13, some (10, true), .fa 1 (.s 3)⟩,
    ⟨some 14, some (10, true), .ld false 1 (.s 13)⟩,
    ⟨some 15, some (10, true), .call 102 [(.s 12), (.s 14)]⟩,
    ⟨some 16, none, .pick (.s 10) (.s 15) (.c (.t (.bool false)))⟩,
    ⟨some 4, none, .mv (.s 16)⟩] [] [4]) .ret)
def c57 : ACode :=
  (.seq (.region false [⟨some 2, none, .box 2 (.s 0)⟩,
    ⟨some 3, none, .box 2 (.s 1)⟩,
    ⟨some 4, none, .cst (.t (.bool false))⟩] [] [2, 3]) c57_0)
def r57 : List ARes := [.tmp 4]
def n57 : Nat := 17
/- 58 supergraph supergraphref02.Same -/
def c58_0 : ACode :=
  (.seq (.region false [⟨some 5, none, .ld true 5 (.s 2)⟩,
    ⟨some 6, none, .ld true 5 (.s 3)⟩,
    ⟨some 7, none, .call 103 [(.s 5), (.s 6)]⟩,
    ⟨some 8, none, .bin .eql (.s 7) (.c (.t (.int .i64 0)))⟩,
    ⟨some 4, none, .mv (.s 8)⟩] [] [4]) .ret)
def c58 : ACode :=
  (.seq (.region false [⟨some 2, none, .box 5 (.s 0)⟩,
    ⟨some 3, none, .box 5 (.s 1)⟩,
    ⟨some 4, none, .cst (.t (.bool false))⟩] [] [2, 3]) c58_0)
def r58 : List ARes := [.tmp 4]
def n58 : Nat := 9
/- 59 supergraph value.Text -/
def c59_0 : ACode :=
  (.seq (.region false [⟨some 3, none, .mv (.s 0)⟩,
    ⟨some 4, none, .build [.t (.int .i64 0), .t (.int .i64 0), .t (.str []), .nils, .nils] [(0, 1, (.c (.t (.int .i64 3)))), (2, 1, (.s 3))]⟩,
    ⟨none, none, .st 5 (.s 2) (.s 4)⟩] [] [2]) .ret)
def c59 : ACode :=
  (.seq (.region false [⟨some 2, none, .alloc [.t (.int .i64 0), .t (.int .i64 0), .t (.str []), .nils, .nils]⟩] [] [0, 2]) c59_0)
def r59 : List ARes := [.cell 2 true 5]
def n59 : Nat := 5
/- 60 (supergraph auth.marker).mark -/
def c60_0 : ACode :=
  (.seq (.region false [⟨some 118, none, .ld true 5 (.s 14)⟩,
    ⟨none, none, .st 5 (.s 8) (.s 118)⟩] [] [8]) .ret)
def c60_1 : ACode :=
  (.region false [⟨some 117, none, .bin .add (.s 71) (.c (.t (.int .i64 1)))⟩,
    ⟨some 71, none, .mv (.s 117)⟩] [] [3, 4, 6, 8, 12, 14, 69, 70, 71])
def c60_2 : ACode :=
  (.region false [⟨some 111, none, .fa 3 (.s 14)⟩,
    ⟨some 112, none, .ld false 1 (.s 111)⟩,
    ⟨some 113, none, .ld true 5 (.s 18)⟩,
    ⟨some 114, none, .bsl false 5 [[.int .i64 0, .int .i64 0, .str [], .lst [], .lst []]] [(0, (.s 113))]⟩,
    ⟨some 115, none, .app 5 80 (.s 112) (.s 114)⟩,
    ⟨some 116, none, .fa 3 (.s 14)⟩,
    ⟨none, none, .st 1 (.s 116) (.s 115)⟩] [] [3, 4, 6, 8, 12, 14, 69, 70, 71])
def c60_3 : ACode :=
  (.seq (.region false [⟨some 104, none, .fa 4 (.s 14)⟩,
    ⟨some 105, none, .ld false 1 (.s 104)⟩,
    ⟨some 106, none, .fa 0 (.s 16)⟩,
    ⟨some 107, none, .ld false 1 (.s 106)⟩,
    ⟨some 108, none, .bsl false 1 [[.str []]] [(0, (.s 107))]⟩,
    ⟨some 109, none, .app 1 16 (.s 105) (.s 108)⟩,
    ⟨some 110, none, .fa 4 (.s 14)⟩,
    ⟨none, none, .st 1 (.s 110) (.s 109)⟩] [] [3, 4, 6, 8, 12, 14, 18, 69, 70, 71]) c60_2)
def c60_4 : ACode :=
  (.region false [⟨some 89, none, .build [.t (.int .i64 0), .t (.int .i64 0), .t (.str []), .nils, .nils] [(0, 1, (.c (.t (.int .i64 9)))), (2, 1, (.c (.t (.str [102, 111, 114, 98, 105, 100, 100, 101, 110]))))]⟩,
    ⟨none, none, .st 5 (.s 18) (.s 89)⟩] [] [3, 4, 6, 8, 12, 14, 16, 18, 69, 70, 71])
def c60_5 : ACode :=
  (.region false [⟨some 98, none, .ld true 1 (.s 4)⟩,
    ⟨some 99, none, .fa 8 (.s 16)⟩,
    ⟨some 100, none, .ld false 1 (.s 99)⟩,
    ⟨some 101, none, .ld true 5 (.s 19)⟩,
    ⟨some 102, none, .mv (.s 17)⟩,
    ⟨some 103, none, .call 60 [(.s 98), (.s 100), (.s 101), (.s 102)]⟩,
    ⟨none, none, .st 5 (.s 18) (.s 103)⟩] [] [3, 4, 6, 8, 12, 14, 16, 18, 69, 70, 71])
def c60_6 : ACode :=
  (.cond (.s 97) c60_5 .skip)
def c60_7 : ACode :=
  (.seq (.region false [⟨some 97, none, .mv (.s 20)⟩] [] [3, 4, 6, 8, 12, 14, 16, 17, 18, 19, 69, 70, 71, 97]) c60_6)
def c60_8 : ACode :=
  (.seq (.region false [⟨some 91, none, .ld true 5 (.s 6)⟩,
    ⟨some 92, none, .fa 0 (.s 16)⟩,
    ⟨some 93, none, .ld false 1 (.s 92)⟩,
    ⟨some 94, none, .call 84 [(.s 91), (.s 93)]⟩,
    ⟨some 90, none, .mv (.s 94)⟩,
    ⟨some 95, none, .ext (.s 90) 0⟩,
    ⟨some 96, none, .ext (.s 90) 1⟩,
    ⟨some 19, none, .alloc [.t (.int .i64 0), .t (.int .i64 0), .t (.str []), .nils, .nils]⟩,
    ⟨none, none, .st 5 (.s 19) (.s 95)⟩,
    ⟨some 20, none, .mv (.s 96)⟩] [] [3, 4, 6, 8, 12, 14, 16, 17, 18, 19, 20, 69, 70, 71]) c60_7)
def c60_9 : ACode :=
  (.cond (.s 88) c60_4 c60_8)
def c60_10 : ACode :=
  (.seq (.seq (.region false [⟨some 86, none, .ld true 1 (.s 4)⟩,
    ⟨some 87, none, .mv (.s 17)⟩,
    ⟨some 88, none, .call 104 [(.s 86), (.s 87)]⟩] [] [3, 4, 6, 8, 12, 14, 16, 17, 18, 69, 70, 71, 88]) c60_9) c60_3)
def c60_11 : ACode :=
  (.seq (.region false [⟨some 18, none, .alloc [.t (.int .i64 0), .t (.int .i64 0), .t (.str []), .nils, .nils]⟩] [] [3, 4, 6, 8, 12, 14, 16, 17, 18, 69, 70, 71]) c60_10)
def c60_12 : ACode :=
  (.seq (.region false [⟨some 80, none, .mv (.s 3)⟩,
    ⟨some 81, none, .fa 1 (.s 16)⟩,
    ⟨some 82, none, .ld false 1 (.s 81)⟩,
    ⟨some 83, none, .fa 0 (.s 16)⟩,
    ⟨some 84, none, .ld false 1 (.s 83)⟩,
    ⟨some 85, none, .call 98 [(.s 80), (.s 82), (.s 84)]⟩,
    ⟨some 17, none, .mv (.s 85)⟩] [] [3, 4, 6, 8, 12, 14, 16, 17, 69, 70, 71]) c60_11)
def c60_13 : ACode :=
  (.cond (.s 79) (.exit 3) .skip)
def c60_14 : ACode :=
  (.seq (.seq (.region false [⟨some 75, none, .fa 1 (.s 16)⟩,
    ⟨some 76, none, .ld false 1 (.s 75)⟩,
    ⟨some 77, none, .fa 2 (.s 12)⟩,
    ⟨some 78, none, .ld false 1 (.s 77)⟩,
    ⟨some 79, none, .bin .neq (.s 76) (.s 78)⟩] [] [3, 4, 6, 8, 12, 14, 16, 69, 70, 71, 79]) c60_13) c60_12)
def c60_15 : ACode :=
  (.seq (.region false [⟨some 73, none, .ia 9 (.s 69) (.s 71)⟩,
    ⟨some 74, none, .ld true 9 (.s 73)⟩,
    ⟨some 16, none, .alloc [.t (.str []), .t (.str []), .t (.str []), .nils, .t (.str []), .nils, .t (.str []), .t (.int .i64 0), .nils]⟩,
    ⟨none, none, .st 9 (.s 16) (.s 74)⟩] [] [3, 4, 6, 8, 12, 14, 16, 69, 70, 71]) c60_14)
def c60_16 : ACode :=
  (.seq (.block 3 c60_15) c60_1)
def c60_17 : ACode :=
  (.seq (.cond (.s 72) .skip (.exit 2)) c60_16)
def c60_18 : ACode :=
  (.seq (.region false [⟨some 72, none, .bin .lss (.s 71) (.s 70)⟩] [] [3, 4, 6, 8, 12, 14, 69, 70, 71, 72]) c60_17)
def c60_19 : ACode :=
  (.loop c60_18)
def c60_20 : ACode :=
  (.block 2 c60_19)
def c60_21 : ACode :=
  (.seq (.seq (.region false [⟨some 69, none, .mv (.s 1)⟩,
    ⟨some 70, none, .len (.s 69)⟩,
    ⟨some 71, none, .cst (.t (.int .i64 0))⟩] [] [3, 4, 6, 8, 12, 14, 69, 70, 71]) c60_20) c60_0)
def c60_22 : ACode :=
  (.seq (.region false [⟨some 63, none, .bsl true 1 [[.str []]] [(0, (.c (.t (.str [95, 95, 116]))))]⟩,
    ⟨some 64, none, .fa 2 (.s 12)⟩,
    ⟨some 65, none, .ld false 1 (.s 64)⟩,
    ⟨some 66, none, .call 59 [(.s 65)]⟩,
    ⟨some 67, none, .bsl true 5 [[.int .i64 0, .int .i64 0, .str [], .lst [], .lst []]] [(0, (.s 66))]⟩,
    ⟨some 68, none, .build [.t (.int .i64 0), .t (.int .i64 0), .t (.str []), .nils, .nils] [(0, 1, (.c (.t (.int .i64 6)))), (4, 1, (.s 63)), (3, 1, (.s 67))]⟩,
    ⟨some 14, none, .alloc [.t (.int .i64 0), .t (.int .i64 0), .t (.str []), .nils, .nils]⟩,
    ⟨none, none, .st 5 (.s 14) (.s 68)⟩] [] [1, 3, 4, 6, 8, 12, 14]) c60_21)
def c60_23 : ACode :=
  (.seq (.region false [⟨some 61, none, .ld true 5 (.s 6)⟩,
    ⟨some 62, none, .call 100 [(.s 61)]⟩,
    ⟨none, none, .st 5 (.s 8) (.s 62)⟩] [] [8]) .ret)
def c60_24 : ACode :=
  (.cond (.s 60) c60_23 .skip)
def c60_25 : ACode :=
  (.seq (.seq (.region false [⟨some 49, none, .fa 0 (.s 6)⟩,
    ⟨some 50, none, .ld false 1 (.s 49)⟩,
    ⟨some 51, none, .bin .neq (.s 50) (.c (.t (.int .i64 6)))⟩,
    ⟨some 52, none, .mv (.s 51)⟩,
    ⟨some 53, some (52, false), .mv (.s 13)⟩,
    ⟨some 54, some (52, false), .un .not (.s 53)⟩,
    ⟨some 55, none, .pick (.s 52) (.c (.t (.bool true))) (.s 54)⟩,
    ⟨some 56, none, .mv (.s 55)⟩,
    ⟨some 57, some (56, false), .fa 0 (.s 12)⟩,
    ⟨some 58, some (56, false), .ld false 1 (.s 57)⟩,
    ⟨some 59, some (56, false), .bin .neq (.s 58) (.c (.t (.int .i64 3)))⟩,
    ⟨some 60, none, .pick (.s 56) (.c (.t (.bool true))) (.s 59)⟩] [] [1, 3, 4, 6, 8, 12, 60]) c60_24) c60_22)
def c60_26 : ACode :=
  (.seq (.region false [⟨some 45, none, .ld true 5 (.s 6)⟩,
    ⟨some 46, none, .call 84 [(.s 45), (.c (.t (.str [95, 95, 116])))]⟩,
    ⟨some 44, none, .mv (.s 46)⟩,
    ⟨some 47, none, .ext (.s 44) 0⟩,
    ⟨some 48, none, .ext (.s 44) 1⟩,
    ⟨some 12, none, .alloc [.t (.int .i64 0), .t (.int .i64 0), .t (.str []), .nils, .nils]⟩,
    ⟨none, none, .st 5 (.s 12) (.s 47)⟩,
    ⟨some 13, none, .mv (.s 48)⟩] [] [1, 3, 4, 6, 8, 12, 13]) c60_25)
def c60_27 : ACode :=
  (.seq (.region false [⟨some 43, none, .ld true 5 (.s 9)⟩,
    ⟨none, none, .st 5 (.s 8) (.s 43)⟩] [] [8]) .ret)
def c60_28 : ACode :=
  (.region false [⟨some 42, none, .bin .add (.s 28) (.c (.t (.int .i64 1)))⟩,
    ⟨some 28, none, .mv (.s 42)⟩] [] [1, 3, 4, 8, 9, 26, 27, 28])
def c60_29 : ACode :=
  (.region true [⟨some 32, none, .fa 3 (.s 9)⟩,
    ⟨some 33, none, .ld false 1 (.s 32)⟩,
    ⟨some 34, none, .ld true 1 (.s 4)⟩,
    ⟨some 35, none, .mv (.s 1)⟩,
    ⟨some 36, none, .ld true 5 (.s 11)⟩,
    ⟨some 37, none, .mv (.s 3)⟩,
    ⟨some 38, none, .call 60 [(.s 34), (.s 35), (.s 36), (.s 37)]⟩,
    ⟨some 39, none, .bsl false 5 [[.int .i64 0, .int .i64 0, .str [], .lst [], .lst []]] [(0, (.s 38))]⟩,
    ⟨some 40, none, .app 5 80 (.s 33) (.s 39)⟩,
    ⟨some 41, none, .fa 3 (.s 9)⟩,
    ⟨none, none, .st 1 (.s 41) (.s 40)⟩] [[], [0], [], [], [], [], [2, 3, 4, 5], [6], [1, 7, 6], [0, 1, 2, 3, 4, 5, 6, 7, 8], [9, 8, 8, 0, 1, 2, 3, 4, 5, 6, 7, 8]] [1, 3, 4, 8, 9, 26, 27, 28])
def c60_30 : ACode :=
  (.seq (.region false [⟨some 30, none, .ia 5 (.s 26) (.s 28)⟩,
    ⟨some 31, none, .ld true 5 (.s 30)⟩,
    ⟨some 11, none, .alloc [.t (.int .i64 0), .t (.int .i64 0), .t (.str []), .nils, .nils]⟩,
    ⟨none, none, .st 5 (.s 11) (.s 31)⟩] [] [1, 3, 4, 8, 9, 11, 26, 27, 28]) c60_29)
def c60_31 : ACode :=
  (.seq (.block 1 c60_30) c60_28)
def c60_32 : ACode :=
  (.seq (.cond (.s 29) .skip (.exit 0)) c60_31)
def c60_33 : ACode :=
  (.seq (.region false [⟨some 29, none, .bin .lss (.s 28) (.s 27)⟩] [] [1, 3, 4, 8, 9, 26, 27, 28, 29]) c60_32)
def c60_34 : ACode :=
  (.loop c60_33)
def c60_35 : ACode :=
  (.block 0 c60_34)
def c60_36 : ACode :=
  (.seq (.seq (.region false [⟨some 25, none, .fa 3 (.s 6)⟩,
    ⟨some 26, none, .ld false 1 (.s 25)⟩,
    ⟨some 27, none, .len (.s 26)⟩,
    ⟨some 28, none, .cst (.t (.int .i64 0))⟩] [] [1, 3, 4, 8, 9, 26, 27, 28]) c60_35) c60_27)
def c60_37 : ACode :=
  (.seq (.region false [⟨some 24, none, .build [.t (.int .i64 0), .t (.int .i64 0), .t (.str []), .nils, .nils] [(0, 1, (.c (.t (.int .i64 5))))]⟩,
    ⟨some 9, none, .alloc [.t (.int .i64 0), .t (.int .i64 0), .t (.str []), .nils, .nils]⟩,
    ⟨none, none, .st 5 (.s 9) (.s 24)⟩] [] [1, 3, 4, 6, 8, 9]) c60_36)
def c60_38 : ACode :=
  (.cond (.s 23) c60_37 .skip)
def c60_39 : ACode :=
  (.seq (.seq (.region false [⟨some 21, none, .fa 0 (.s 6)⟩,
    ⟨some 22, none, .ld false 1 (.s 21)⟩,
    ⟨some 23, none, .bin .eql (.s 22) (.c (.t (.int .i64 5)))⟩] [] [1, 3, 4, 6, 8, 23]) c60_38) c60_26)
def c60 : ACode :=
  (.seq (.region false [⟨some 4, none, .box 1 (.s 0)⟩,
    ⟨some 6, none, .box 5 (.s 2)⟩,
    ⟨some 8, none, .alloc [.t (.int .i64 0), .t (.int .i64 0), .t (.str []), .nils, .nils]⟩] [] [1, 3, 4, 6, 8]) c60_39)
def r60 : List ARes := [.cell 8 true 5]
def n60 : Nat := 119
/- 61 supergraph supergraphref43.mark -/
def c61_0 : ACode :=
  (.seq (.region false [⟨some 130, none, .ld true 5 (.s 9)⟩,
    ⟨none, none, .st 5 (.s 8) (.s 130)⟩] [] [8]) .ret)
def c61_1 : ACode :=
  (.region false [⟨some 71, none, .mv (.s 14)⟩,
    ⟨some 72, none, .bin .add (.s 71) (.c (.t (.int .i64 1)))⟩,
    ⟨some 14, none, .mv (.s 72)⟩] [] [0, 1, 3, 6, 8, 9, 12, 14])
def c61_2 : ACode :=
  (.region false [⟨some 124, none, .fa 3 (.s 9)⟩,
    ⟨some 125, none, .ld false 1 (.s 124)⟩,
    ⟨some 126, none, .ld true 5 (.s 16)⟩,
    ⟨some 127, none, .bsl false 5 [[.int .i64 0, .int .i64 0, .str [], .lst [], .lst []]] [(0, (.s 126))]⟩,
    ⟨some 128, none, .app 5 80 (.s 125) (.s 127)⟩,
    ⟨some 129, none, .fa 3 (.s 9)⟩,
    ⟨none, none, .st 1 (.s 129) (.s 128)⟩] [] [0, 1, 3, 6, 8, 9, 12, 14])
def c61_3 : ACode :=
  (.seq (.region true [⟨some 114, none, .fa 4 (.s 9)⟩,
    ⟨some 115, none, .ld false 1 (.s 114)⟩,
    ⟨some 116, none, .mv (.s 0)⟩,
    ⟨some 117, none, .mv (.s 14)⟩,
    ⟨some 118, none, .ia 9 (.s 116) (.s 117)⟩,
    ⟨some 119, none, .fa 0 (.s 118)⟩,
    ⟨some 120, none, .ld false 1 (.s 119)⟩,
    ⟨some 121, none, .bsl false 1 [[.str []]] [(0, (.s 120))]⟩,
    ⟨some 122, none, .app 1 16 (.s 115) (.s 121)⟩,
    ⟨some 123, none, .fa 4 (.s 9)⟩,
    ⟨none, none, .st 1 (.s 123) (.s 122)⟩] [[], [0], [], [], [2, 3], [4], [5], [6], [1, 7], [0, 1, 2, 3, 4, 5, 6, 7, 8], [9, 8, 8, 0, 1, 2, 3, 4, 5, 6, 7, 8]] [0, 1, 3, 6, 8, 9, 12, 14, 16]) c61_2)
def c61_4 : ACode :=
  (.region false [⟨some 103, none, .build [.t (.int .i64 0), .t (.int .i64 0), .t (.str []), .nils, .nils] [(0, 1, (.c (.t (.int .i64 9)))), (2, 1, (.c (.t (.str [102, 111, 114, 98, 105, 100, 100, 101, 110]))))]⟩,
    ⟨none, none, .st 5 (.s 16) (.s 103)⟩] [] [0, 1, 3, 6, 8, 9, 12, 14, 16])
def c61_5 : ACode :=
  (.region true [⟨some 105, none, .mv (.s 0)⟩,
    ⟨some 106, none, .mv (.s 14)⟩,
    ⟨some 107, none, .ia 9 (.s 105) (.s 106)⟩,
    ⟨some 108, none, .fa 8 (.s 107)⟩,
    ⟨some 109, none, .ld false 1 (.s 108)⟩,
    ⟨some 110, none, .mv (.s 1)⟩,
    ⟨some 111, none, .ld true 5 (.s 16)⟩,
    ⟨some 112, none, .mv (.s 15)⟩,
    ⟨some 113, none, .call 61 [(.s 109), (.s 110), (.s 111), (.s 112)]⟩,
    ⟨none, none, .st 5 (.s 16) (.s 113)⟩] [[], [], [0, 1], [2], [3], [], [], [], [4, 5, 6, 7], [8, 8, 0, 1, 2, 3, 4, 5, 6, 7, 8]] [0, 1, 3, 6, 8, 9, 12, 14, 16])
def c61_6 : ACode :=
  (.cond (.s 104) c61_5 .skip)
def c61_7 : ACode :=
  (.seq (.region false [⟨some 104, none, .mv (.s 17)⟩] [] [0, 1, 3, 6, 8, 9, 12, 14, 15, 16, 104]) c61_6)
def c61_8 : ACode :=
  (.cond (.s 102) c61_4 c61_7)
def c61_9 : ACode :=
  (.seq (.seq (.region false [⟨some 100, none, .mv (.s 1)⟩,
    ⟨some 101, none, .mv (.s 15)⟩,
    ⟨some 102, none, .call 105 [(.s 100), (.s 101)]⟩] [] [0, 1, 3, 6, 8, 9, 12, 14, 15, 16, 17, 102]) c61_8) c61_3)
def c61_10 : ACode :=
  (.seq (.region true [⟨some 91, none, .ld true 5 (.s 6)⟩,
    ⟨some 92, none, .mv (.s 0)⟩,
    ⟨some 93, none, .mv (.s 14)⟩,
    ⟨some 94, none, .ia 9 (.s 92) (.s 93)⟩,
    ⟨some 95, none, .fa 0 (.s 94)⟩,
    ⟨some 96, none, .ld false 1 (.s 95)⟩,
    ⟨some 97, none, .call 86 [(.s 91), (.s 96)]⟩,
    ⟨some 90, none, .mv (.s 97)⟩,
    ⟨some 98, none, .ext (.s 90) 0⟩,
    ⟨some 99, none, .ext (.s 90) 1⟩,
    ⟨some 16, none, .alloc [.t (.int .i64 0), .t (.int .i64 0), .t (.str []), .nils, .nils]⟩,
    ⟨none, none, .st 5 (.s 16) (.s 98)⟩,
    ⟨some 17, none, .mv (.s 99)⟩] [[], [], [], [1, 2], [3], [4], [0, 5], [6], [7], [7], [], [10, 8, 6, 0, 1, 2, 3, 4, 5, 6, 7, 8, 10], [9, 11, 0, 1, 2, 3, 4, 5, 6, 7, 8, 9, 10, 11]] [0, 1, 3, 6, 8, 9, 12, 14, 15, 16, 17]) c61_9)
def c61_11 : ACode :=
  (.seq (.region true [⟨some 81, none, .mv (.s 3)⟩,
    ⟨some 82, none, .fa 2 (.s 12)⟩,
    ⟨some 83, none, .ld false 1 (.s 82)⟩,
    ⟨some 84, none, .mv (.s 0)⟩,
    ⟨some 85, none, .mv (.s 14)⟩,
    ⟨some 86, none, .ia 9 (.s 84) (.s 85)⟩,
    ⟨some 87, none, .fa 0 (.s 86)⟩,
    ⟨some 88, none, .ld false 1 (.s 87)⟩,
    ⟨some 89, none, .call 101 [(.s 81), (.s 83), (.s 88)]⟩,
    ⟨some 15, none, .mv (.s 89)⟩] [[], [], [1], [], [], [3, 4], [5], [6], [0, 2, 7], [8, 8, 0, 1, 2, 3, 4, 5, 6, 7, 8]] [0, 1, 3, 6, 8, 9, 12, 14, 15]) c61_10)
def c61_12 : ACode :=
  (.cond (.s 80) (.exit 3) .skip)
def c61_13 : ACode :=
  (.seq (.seq (.region true [⟨some 73, none, .mv (.s 0)⟩,
    ⟨some 74, none, .mv (.s 14)⟩,
    ⟨some 75, none, .ia 9 (.s 73) (.s 74)⟩,
    ⟨some 76, none, .fa 1 (.s 75)⟩,
    ⟨some 77, none, .ld false 1 (.s 76)⟩,
    ⟨some 78, none, .fa 2 (.s 12)⟩,
    ⟨some 79, none, .ld false 1 (.s 78)⟩,
    ⟨some 80, none, .bin .neq (.s 77) (.s 79)⟩] [[], [], [0, 1], [2], [3], [], [5], [4, 6]] [0, 1, 3, 6, 8, 9, 12, 14, 80]) c61_12) c61_11)
def c61_14 : ACode :=
  (.seq (.block 3 c61_13) c61_1)
def c61_15 : ACode :=
  (.cond (.s 70) .skip (.exit 2))
def c61_16 : ACode :=
  (.seq (.seq (.region false [⟨some 67, none, .mv (.s 14)⟩,
    ⟨some 68, none, .mv (.s 0)⟩,
    ⟨some 69, none, .len (.s 68)⟩,
    ⟨some 70, none, .bin .lss (.s 67) (.s 69)⟩] [] [0, 1, 3, 6, 8, 9, 12, 14, 70]) c61_15) c61_14)
def c61_17 : ACode :=
  (.loop c61_16)
def c61_18 : ACode :=
  (.block 2 c61_17)
def c61_19 : ACode :=
  (.seq (.seq (.region false [⟨some 14, none, .cst (.t (.int .i64 0))⟩] [] [0, 1, 3, 6, 8, 9, 12, 14]) c61_18) c61_0)
def c61_20 : ACode :=
  (.seq (.region false [⟨some 62, none, .fa 2 (.s 12)⟩,
    ⟨some 63, none, .ld false 1 (.s 62)⟩,
    ⟨some 64, none, .build [.t (.int .i64 0), .t (.int .i64 0), .t (.str []), .nils, .nils] [(0, 1, (.c (.t (.int .i64 3)))), (2, 1, (.s 63))]⟩,
    ⟨some 65, none, .bsl true 5 [[.int .i64 0, .int .i64 0, .str [], .lst [], .lst []]] [(0, (.s 64))]⟩,
    ⟨some 66, none, .fa 3 (.s 9)⟩,
    ⟨none, none, .st 1 (.s 66) (.s 65)⟩] [] [0, 1, 3, 6, 8, 9, 12]) c61_19)
def c61_21 : ACode :=
  (.seq (.region false [⟨some 60, none, .bsl true 1 [[.str []]] [(0, (.c (.t (.str [95, 95, 116]))))]⟩,
    ⟨some 61, none, .fa 4 (.s 9)⟩,
    ⟨none, none, .st 1 (.s 61) (.s 60)⟩] [] [0, 1, 3, 6, 8, 9, 12]) c61_20)
def c61_22 : ACode :=
  (.seq (.region false [⟨some 59, none, .ld true 5 (.s 6)⟩,
    ⟨none, none, .st 5 (.s 8) (.s 59)⟩] [] [8]) .ret)
def c61_23 : ACode :=
  (.cond (.s 58) c61_22 .skip)
def c61_24 : ACode :=
  (.seq (.seq (.region false [⟨some 52, none, .mv (.s 13)⟩,
    ⟨some 53, none, .un .not (.s 52)⟩,
    ⟨some 54, none, .mv (.s 53)⟩,
    ⟨some 55, some (54, false), .fa 0 (.s 12)⟩,
    ⟨some 56, some (54, false), .ld false 1 (.s 55)⟩,
    ⟨some 57, some (54, false), .bin .neq (.s 56) (.c (.t (.int .i64 3)))⟩,
    ⟨some 58, none, .pick (.s 54) (.c (.t (.bool true))) (.s 57)⟩] [] [0, 1, 3, 6, 8, 9, 12, 58]) c61_23) c61_21)
def c61_25 : ACode :=
  (.seq (.region false [⟨some 48, none, .ld true 5 (.s 6)⟩,
    ⟨some 49, none, .call 86 [(.s 48), (.c (.t (.str [95, 95, 116])))]⟩,
    ⟨some 47, none, .mv (.s 49)⟩,
    ⟨some 50, none, .ext (.s 47) 0⟩,
    ⟨some 51, none, .ext (.s 47) 1⟩,
    ⟨some 12, none, .alloc [.t (.int .i64 0), .t (.int .i64 0), .t (.str []), .nils, .nils]⟩,
    ⟨none, none, .st 5 (.s 12) (.s 50)⟩,
    ⟨some 13, none, .mv (.s 51)⟩] [] [0, 1, 3, 6, 8, 9, 12, 13]) c61_24)
def c61_26 : ACode :=
  (.seq (.region false [⟨some 46, none, .ld true 5 (.s 9)⟩,
    ⟨none, none, .st 5 (.s 8) (.s 46)⟩] [] [8]) .ret)
def c61_27 : ACode :=
  (.region false [⟨some 29, none, .mv (.s 10)⟩,
    ⟨some 30, none, .bin .add (.s 29) (.c (.t (.int .i64 1)))⟩,
    ⟨some 10, none, .mv (.s 30)⟩] [] [0, 1, 3, 6, 8, 9, 10])
def c61_28 : ACode :=
  (.region false [⟨some 40, none, .fa 3 (.s 9)⟩,
    ⟨some 41, none, .ld false 1 (.s 40)⟩,
    ⟨some 42, none, .ld true 5 (.s 11)⟩,
    ⟨some 43, none, .bsl false 5 [[.int .i64 0, .int .i64 0, .str [], .lst [], .lst []]] [(0, (.s 42))]⟩,
    ⟨some 44, none, .app 5 80 (.s 41) (.s 43)⟩,
    ⟨some 45, none, .fa 3 (.s 9)⟩,
    ⟨none, none, .st 1 (.s 45) (.s 44)⟩] [] [0, 1, 3, 6, 8, 9, 10])
def c61_29 : ACode :=
  (.seq (.region false [⟨some 31, none, .mv (.s 0)⟩,
    ⟨some 32, none, .mv (.s 1)⟩,
    ⟨some 33, none, .fa 3 (.s 6)⟩,
    ⟨some 34, none, .ld false 1 (.s 33)⟩,
    ⟨some 35, none, .mv (.s 10)⟩,
    ⟨some 36, none, .ia 5 (.s 34) (.s 35)⟩,
    ⟨some 37, none, .ld true 5 (.s 36)⟩,
    ⟨some 38, none, .mv (.s 3)⟩,
    ⟨some 39, none, .call 61 [(.s 31), (.s 32), (.s 37), (.s 38)]⟩,
    ⟨some 11, none, .alloc [.t (.int .i64 0), .t (.int .i64 0), .t (.str []), .nils, .nils]⟩,
    ⟨none, none, .st 5 (.s 11) (.s 39)⟩] [] [0, 1, 3, 6, 8, 9, 10, 11]) c61_28)
def c61_30 : ACode :=
  (.seq (.block 1 c61_29) c61_27)
def c61_31 : ACode :=
  (.cond (.s 28) .skip (.exit 0))
def c61_32 : ACode :=
  (.seq (.seq (.region false [⟨some 24, none, .mv (.s 10)⟩,
    ⟨some 25, none, .fa 3 (.s 6)⟩,
    ⟨some 26, none, .ld false 1 (.s 25)⟩,
    ⟨some 27, none, .len (.s 26)⟩,
    ⟨some 28, none, .bin .lss (.s 24) (.s 27)⟩] [] [0, 1, 3, 6, 8, 9, 10, 28]) c61_31) c61_30)
def c61_33 : ACode :=
  (.loop c61_32)
def c61_34 : ACode :=
  (.block 0 c61_33)
def c61_35 : ACode :=
  (.seq (.seq (.region false [⟨some 10, none, .cst (.t (.int .i64 0))⟩] [] [0, 1, 3, 6, 8, 9, 10]) c61_34) c61_26)
def c61_36 : ACode :=
  (.cond (.s 23) c61_35 .skip)
def c61_37 : ACode :=
  (.seq (.seq (.region false [⟨some 21, none, .fa 0 (.s 6)⟩,
    ⟨some 22, none, .ld false 1 (.s 21)⟩,
    ⟨some 23, none, .bin .eql (.s 22) (.c (.t (.int .i64 5)))⟩] [] [0, 1, 3, 6, 8, 9, 23]) c61_36) c61_25)
def c61_38 : ACode :=
  (.seq (.region false [⟨some 18, none, .fa 0 (.s 6)⟩,
    ⟨some 19, none, .ld false 1 (.s 18)⟩,
    ⟨some 20, none, .build [.t (.int .i64 0), .t (.int .i64 0), .t (.str []), .nils, .nils] [(0, 1, (.s 19))]⟩,
    ⟨some 9, none, .alloc [.t (.int .i64 0), .t (.int .i64 0), .t (.str []), .nils, .nils]⟩,
    ⟨none, none, .st 5 (.s 9) (.s 20)⟩] [] [0, 1, 3, 6, 8, 9]) c61_37)
def c61 : ACode :=
  (.seq (.region false [⟨some 6, none, .box 5 (.s 2)⟩,
    ⟨some 8, none, .alloc [.t (.int .i64 0), .t (.int .i64 0), .t (.str []), .nils, .nils]⟩] [] [0, 1, 3, 6, 8]) c61_38)
def r61 : List ARes := [.cell 8 true 5]
def n61 : Nat := 131
/- 84 supergraph value.Get -/
def c84_0 : ACode :=
  (.seq (.region false [⟨some 26, none, .fa 3 (.s 2)⟩,
    ⟨some 27, none, .ld false 1 (.s 26)⟩,
    ⟨some 28, none, .mv (.s 6)⟩,
    ⟨some 29, none, .ia 5 (.s 27) (.s 28)⟩,
    ⟨some 30, none, .ld true 5 (.s 29)⟩,
    ⟨some 31, none, .call 100 [(.s 30)]⟩,
    ⟨none, none, .st 5 (.s 4) (.s 31)⟩,
    ⟨some 5, none, .cst (.t (.bool true))⟩] [] [4, 5]) .ret)
def c84_1 : ACode :=
  (.seq (.region false [⟨some 25, none, .build [.t (.int .i64 0), .t (.int .i64 0), .t (.str []), .nils, .nils] []⟩,
    ⟨none, none, .st 5 (.s 4) (.s 25)⟩,
    ⟨some 5, none, .cst (.t (.bool false))⟩] [] [4, 5]) .ret)
def c84_2 : ACode :=
  (.cond (.s 24) c84_1 .skip)
def c84_3 : ACode :=
  (.seq (.seq (.region false [⟨some 11, none, .fa 0 (.s 2)⟩,
    ⟨some 12, none, .ld false 1 (.s 11)⟩,
    ⟨some 13, none, .bin .neq (.s 12) (.c (.t (.int .i64 6)))⟩,
    ⟨some 14, none, .mv (.s 13)⟩,
    ⟨some 15, some (14, false), .mv (.s 6)⟩,
    ⟨some 16, some (14, false), .bin .lss (.s 15) (.c (.t (.int .i64 0)))⟩,
    ⟨some 17, none, .pick (.s 14) (.c (.t (.bool true))) (.s 16)⟩,
    ⟨some 18, none, .mv (.s 17)⟩,
    ⟨some 19, some (18, false), .mv (.s 6)⟩,
    ⟨some 20, some (18, false), .fa 3 (.s 2)⟩,
    ⟨some 21, some (18, false), .ld false 1 (.s 20)⟩,
    ⟨some 22, some (18, false), .len (.s 21)⟩,
    ⟨some 23, some (18, false), .bin .geq (.s 19) (.s 22)⟩,
    ⟨some 24, none, .pick (.s 18) (.c (.t (.bool true))) (.s 23)⟩] [] [2, 4, 6, 24]) c84_2) c84_0)
def c84_4 : ACode :=
  (.seq (.region false [⟨some 7, none, .fa 4 (.s 2)⟩,
    ⟨some 8, none, .ld false 1 (.s 7)⟩,
    ⟨some 9, none, .mv (.s 1)⟩,
    ⟨some 10, none, .call 114 [(.s 8), (.s 9)]⟩,
    ⟨some 6, none, .mv (.s 10)⟩] [] [2, 4, 6]) c84_3)
def c84 : ACode :=
  (.seq (.region false [⟨some 2, none, .box 5 (.s 0)⟩,
    ⟨some 4, none, .alloc [.t (.int .i64 0), .t (.int .i64 0), .t (.str []), .nils, .nils]⟩,
    ⟨some 5, none, .cst (.t (.bool false))⟩] [] [1, 2, 4]) c84_4)
def r84 : List ARes := [.cell 4 true 5, .tmp 5]
def n84 : Nat := 32
/- 86 supergraph supergraphref02.Get -/
def c86_0 : ACode :=
  (.seq (.region false [⟨some 37, none, .build [.t (.int .i64 0), .t (.int .i64 0), .t (.str []), .nils, .nils] []⟩,
    ⟨none, none, .st 5 (.s 4) (.s 37)⟩,
    ⟨some 5, none, .cst (.t (.bool false))⟩] [] [4, 5]) .ret)
def c86_1 : ACode :=
  (.region false [⟨some 16, none, .mv (.s 6)⟩,
    ⟨some 17, none, .bin .add (.s 16) (.c (.t (.int .i64 1)))⟩,
    ⟨some 6, none, .mv (.s 17)⟩] [] [1, 2, 4, 6])
def c86_2 : ACode :=
  (.seq (.region false [⟨some 31, none, .fa 3 (.s 2)⟩,
    ⟨some 32, none, .ld false 1 (.s 31)⟩,
    ⟨some 33, none, .mv (.s 6)⟩,
    ⟨some 34, none, .ia 5 (.s 32) (.s 33)⟩,
    ⟨some 35, none, .ld true 5 (.s 34)⟩,
    ⟨some 36, none, .call 116 [(.s 35)]⟩,
    ⟨none, none, .st 5 (.s 4) (.s 36)⟩,
    ⟨some 5, none, .cst (.t (.bool true))⟩] [] [4, 5]) .ret)
def c86_3 : ACode :=
  (.seq (.region false [⟨some 30, none, .build [.t (.int .i64 0), .t (.int .i64 0), .t (.str []), .nils, .nils] []⟩,
    ⟨none, none, .st 5 (.s 4) (.s 30)⟩,
    ⟨some 5, none, .cst (.t (.bool false))⟩] [] [4, 5]) .ret)
def c86_4 : ACode :=
  (.cond (.s 29) c86_3 .skip)
def c86_5 : ACode :=
  (.seq (.seq (.region false [⟨some 25, none, .mv (.s 6)⟩,
    ⟨some 26, none, .fa 3 (.s 2)⟩,
    ⟨some 27, none, .ld false 1 (.s 26)⟩,
    ⟨some 28, none, .len (.s 27)⟩,
    ⟨some 29, none, .bin .geq (.s 25) (.s 28)⟩] [] [2, 4, 6, 29]) c86_4) c86_2)
def c86_6 : ACode :=
  (.cond (.s 24) c86_5 .skip)
def c86_7 : ACode :=
  (.seq (.region false [⟨some 18, none, .fa 4 (.s 2)⟩,
    ⟨some 19, none, .ld false 1 (.s 18)⟩,
    ⟨some 20, none, .mv (.s 6)⟩,
    ⟨some 21, none, .ia 1 (.s 19) (.s 20)⟩,
    ⟨some 22, none, .ld false 1 (.s 21)⟩,
    ⟨some 23, none, .mv (.s 1)⟩,
    ⟨some 24, none, .bin .eql (.s 22) (.s 23)⟩] [] [1, 2, 4, 6, 24]) c86_6)
def c86_8 : ACode :=
  (.seq (.block 1 c86_7) c86_1)
def c86_9 : ACode :=
  (.cond (.s 15) .skip (.exit 0))
def c86_10 : ACode :=
  (.seq (.seq (.region false [⟨some 11, none, .mv (.s 6)⟩,
    ⟨some 12, none, .fa 4 (.s 2)⟩,
    ⟨some 13, none, .ld false 1 (.s 12)⟩,
    ⟨some 14, none, .len (.s 13)⟩,
    ⟨some 15, none, .bin .lss (.s 11) (.s 14)⟩] [] [1, 2, 4, 6, 15]) c86_9) c86_8)
def c86_11 : ACode :=
  (.loop c86_10)
def c86_12 : ACode :=
  (.block 0 c86_11)
def c86_13 : ACode :=
  (.seq (.seq (.region false [⟨some 6, none, .cst (.t (.int .i64 0))⟩] [] [1, 2, 4, 6]) c86_12) c86_0)
def c86_14 : ACode :=
  (.seq (.region false [⟨some 10, none, .build [.t (.int .i64 0), .t (.int .i64 0), .t (.str []), .nils, .nils] []⟩,
    ⟨none, none, .st 5 (.s 4) (.s 10)⟩,
    ⟨some 5, none, .cst (.t (.bool false))⟩] [] [4, 5]) .ret)
def c86_15 : ACode :=
  (.cond (.s 9) c86_14 .skip)
def c86_16 : ACode :=
  (.seq (.seq (.region false [⟨some 7, none, .fa 0 (.s 2)⟩,
    ⟨some 8, none, .ld false 1 (.s 7)⟩,
    ⟨some 9, none, .bin .neq (.s 8) (.c (.t (.int .i64 6)))⟩] [] [1, 2, 4, 9]) c86_15) c86_13)
def c86 : ACode :=
  (.seq (.region false [⟨some 2, none, .box 5 (.s 0)⟩,
    ⟨some 4, none, .alloc [.t (.int .i64 0), .t (.int .i64 0), .t (.str []), .nils, .nils]⟩,
    ⟨some 5, none, .cst (.t (.bool false))⟩] [] [1, 2, 4]) c86_16)
def r86 : List ARes := [.cell 4 true 5, .tmp 5]
def n86 : Nat := 38
/- 88 supergraph supergraphref06.weightDirs -/
def c88_0 : ACode :=
  (.seq (.region false [⟨some 50, none, .mv (.s 5)⟩,
    ⟨some 4, none, .mv (.s 50)⟩] [] [4]) .ret)
def c88_1 : ACode :=
  (.region false [⟨some 17, none, .mv (.s 6)⟩,
    ⟨some 18, none, .bin .add (.s 17) (.c (.t (.int .i64 1)))⟩,
    ⟨some 6, none, .mv (.s 18)⟩] [] [0, 1, 5, 6])
def c88_2 : ACode :=
  (.region false [⟨some 34, none, .mv (.s 7)⟩,
    ⟨some 35, none, .bin .add (.s 34) (.c (.t (.int .i64 1)))⟩,
    ⟨some 7, none, .mv (.s 35)⟩] [] [0, 1, 5, 6, 7])
def c88_3 : ACode :=
  (.region false [⟨some 36, none, .mv (.s 5)⟩,
    ⟨some 37, none, .bin .add (.s 36) (.c (.t (.int .i64 1)))⟩,
    ⟨some 38, none, .mv (.s 0)⟩,
    ⟨some 39, none, .mv (.s 6)⟩,
    ⟨some 40, none, .ia 2 (.s 38) (.s 39)⟩,
    ⟨some 41, none, .fa 1 (.s 40)⟩,
    ⟨some 42, none, .ld false 1 (.s 41)⟩,
    ⟨some 43, none, .mv (.s 7)⟩,
    ⟨some 44, none, .ia 6 (.s 42) (.s 43)⟩,
    ⟨some 45, none, .fa 1 (.s 44)⟩,
    ⟨some 46, none, .ld true 5 (.s 45)⟩,
    ⟨some 47, none, .mv (.s 1)⟩,
    ⟨some 48, none, .call 23 [(.s 46), (.s 47)]⟩,
    ⟨some 49, none, .bin .add (.s 37) (.s 48)⟩,
    ⟨some 5, none, .mv (.s 49)⟩] [] [0, 1, 5, 6, 7])
def c88_4 : ACode :=
  (.seq (.block 3 c88_3) c88_2)
def c88_5 : ACode :=
  (.cond (.s 33) .skip (.exit 2))
def c88_6 : ACode :=
  (.seq (.seq (.region false [⟨some 21, none, .mv (.s 7)⟩,
    ⟨some 22, none, .mv (.s 0)⟩,
    ⟨some 23, none, .mv (.s 6)⟩,
    ⟨some 24, none, .ia 2 (.s 22) (.s 23)⟩,
    ⟨some 25, none, .fa 1 (.s 24)⟩,
    ⟨some 26, none, .ld false 1 (.s 25)⟩,
    ⟨some 27, none, .len (.s 26)⟩,
    ⟨some 28, none, .bin .lss (.s 21) (.s 27)⟩,
    ⟨some 29, none, .mv (.s 28)⟩,
    ⟨some 30, some (29, true), .mv (.s 5)⟩,
    ⟨some 31, some (29, true), .mv (.s 1)⟩,
    ⟨some 32, some (29, true), .bin .leq (.s 30) (.s 31)⟩,
    ⟨some 33, none, .pick (.s 29) (.s 32) (.c (.t (.bool false)))⟩] [] [0, 1, 5, 6, 7, 33]) c88_5) c88_4)
def c88_7 : ACode :=
  (.loop c88_6)
def c88_8 : ACode :=
  (.block 2 c88_7)
def c88_9 : ACode :=
  (.seq (.region false [⟨some 7, none, .cst (.t (.int .i64 0))⟩] [] [0, 1, 5, 6, 7]) c88_8)
def c88_10 : ACode :=
  (.seq (.region false [⟨some 19, none, .mv (.s 5)⟩,
    ⟨some 20, none, .bin .add (.s 19) (.c (.t (.int .i64 1)))⟩,
    ⟨some 5, none, .mv (.s 20)⟩] [] [0, 1, 5, 6]) c88_9)
def c88_11 : ACode :=
  (.seq (.block 1 c88_10) c88_1)
def c88_12 : ACode :=
  (.cond (.s 16) .skip (.exit 0))
def c88_13 : ACode :=
  (.seq (.seq (.region false [⟨some 8, none, .mv (.s 6)⟩,
    ⟨some 9, none, .mv (.s 0)⟩,
    ⟨some 10, none, .len (.s 9)⟩,
    ⟨some 11, none, .bin .lss (.s 8) (.s 10)⟩,
    ⟨some 12, none, .mv (.s 11)⟩,
    ⟨some 13, some (12, true), .mv (.s 5)⟩,
    ⟨some 14, some (12, true), .mv (.s 1)⟩,
    ⟨some 15, some (12, true), .bin .leq (.s 13) (.s 14)⟩,
    ⟨some 16, none, .pick (.s 12) (.s 15) (.c (.t (.bool false)))⟩] [] [0, 1, 5, 6, 16]) c88_12) c88_11)
def c88_14 : ACode :=
  (.loop c88_13)
def c88_15 : ACode :=
  (.block 0 c88_14)
def c88_16 : ACode :=
  (.seq (.seq (.region false [⟨some 6, none, .cst (.t (.int .i64 0))⟩] [] [0, 1, 5, 6]) c88_15) c88_0)
def c88_17 : ACode :=
  (.seq (.region false [⟨some 5, none, .cst (.t (.int .i64 0))⟩] [] [0, 1, 5]) c88_16)
def c88 : ACode :=
  (.seq (.region false [⟨some 4, none, .cst (.t (.int .i64 0))⟩] [] [0, 1]) c88_17)
def r88 : List ARes := [.tmp 4]
def n88 : Nat := 51
/- 89 supergraph supergraphref06.weightInputs -/
def c89_0 : ACode :=
  (.seq (.region false [⟨some 44, none, .mv (.s 5)⟩,
    ⟨some 4, none, .mv (.s 44)⟩] [] [4]) .ret)
def c89_1 : ACode :=
  (.region false [⟨some 16, none, .mv (.s 6)⟩,
    ⟨some 17, none, .bin .add (.s 16) (.c (.t (.int .i64 1)))⟩,
    ⟨some 6, none, .mv (.s 17)⟩] [] [0, 1, 5, 6])
def c89_2 : ACode :=
  (.region true [⟨some 18, none, .mv (.s 5)⟩,
    ⟨some 19, none, .bin .add (.s 18) (.c (.t (.int .i64 1)))⟩,
    ⟨some 20, none, .mv (.s 0)⟩,
    ⟨some 21, none, .mv (.s 6)⟩,
    ⟨some 22, none, .ia 10 (.s 20) (.s 21)⟩,
    ⟨some 23, none, .fa 1 (.s 22)⟩,
    ⟨some 24, none, .fa 1 (.s 23)⟩,
    ⟨some 25, none, .ld false 1 (.s 24)⟩,
    ⟨some 26, none, .len (.s 25)⟩,
    ⟨some 27, none, .bin .add (.s 19) (.s 26)⟩,
    ⟨some 28, none, .mv (.s 0)⟩,
    ⟨some 29, none, .mv (.s 6)⟩,
    ⟨some 30, none, .ia 10 (.s 28) (.s 29)⟩,
    ⟨some 31, none, .fa 4 (.s 30)⟩,
    ⟨some 32, none, .ld true 5 (.s 31)⟩,
    ⟨some 33, none, .mv (.s 1)⟩,
    ⟨some 34, none, .call 23 [(.s 32), (.s 33)]⟩,
    ⟨some 35, none, .bin .add (.s 27) (.s 34)⟩,
    ⟨some 36, none, .mv (.s 0)⟩,
    ⟨some 37, none, .mv (.s 6)⟩,
    ⟨some 38, none, .ia 10 (.s 36) (.s 37)⟩,
    ⟨some 39, none, .fa 9 (.s 38)⟩,
    ⟨some 40, none, .ld false 1 (.s 39)⟩,
    ⟨some 41, none, .mv (.s 1)⟩,
    ⟨some 42, none, .call 88 [(.s 40), (.s 41)]⟩,
    ⟨some 43, none, .bin .add (.s 35) (.s 42)⟩,
    ⟨some 5, none, .mv (.s 43)⟩] [[], [0], [], [], [2, 3], [4], [5], [6], [7], [1, 8], [], [], [10, 11], [12], [13], [], [14, 15], [9, 16], [], [], [18, 19], [20], [21], [], [22, 23, 16], [17, 24], [25, 24, 0, 1, 2, 3, 4, 5, 6, 7, 8, 9, 10, 11, 12, 13, 14, 15, 16, 17, 18, 19, 20, 21, 22, 23, 24, 25]] [0, 1, 5, 6])
def c89_3 : ACode :=
  (.seq (.block 1 c89_2) c89_1)
def c89_4 : ACode :=
  (.cond (.s 15) .skip (.exit 0))
def c89_5 : ACode :=
  (.seq (.seq (.region false [⟨some 7, none, .mv (.s 6)⟩,
    ⟨some 8, none, .mv (.s 0)⟩,
    ⟨some 9, none, .len (.s 8)⟩,
    ⟨some 10, none, .bin .lss (.s 7) (.s 9)⟩,
    ⟨some 11, none, .mv (.s 10)⟩,
    ⟨some 12, some (11, true), .mv (.s 5)⟩,
    ⟨some 13, some (11, true), .mv (.s 1)⟩,
    ⟨some 14, some (11, true), .bin .leq (.s 12) (.s 13)⟩,
    ⟨some 15, none, .pick (.s 11) (.s 14) (.c (.t (.bool false)))⟩] [] [0, 1, 5, 6, 15]) c89_4) c89_3)
def c89_6 : ACode :=
  (.loop c89_5)
def c89_7 : ACode :=
  (.block 0 c89_6)
def c89_8 : ACode :=
  (.seq (.seq (.region false [⟨some 6, none, .cst (.t (.int .i64 0))⟩] [] [0, 1, 5, 6]) c89_7) c89_0)
def c89_9 : ACode :=
  (.seq (.region false [⟨some 5, none, .cst (.t (.int .i64 0))⟩] [] [0, 1, 5]) c89_8)
def c89 : ACode :=
  (.seq (.region false [⟨some 4, none, .cst (.t (.int .i64 0))⟩] [] [0, 1]) c89_9)
def r89 : List ARes := [.tmp 4]
def n89 : Nat := 45
/- 90 supergraph directives.Has -/
def c90_0 : ACode :=
  (.seq (.region false [⟨some 4, none, .cst (.t (.bool false))⟩] [] [4]) .ret)
def c90_1 : ACode :=
  (.region false [⟨some 17, none, .bin .add (.s 9) (.c (.t (.int .i64 1)))⟩,
    ⟨some 9, none, .mv (.s 17)⟩] [] [1, 7, 8, 9])
def c90_2 : ACode :=
  (.seq (.region false [⟨some 4, none, .cst (.t (.bool true))⟩] [] [4]) .ret)
def c90_3 : ACode :=
  (.cond (.s 16) c90_2 .skip)
def c90_4 : ACode :=
  (.seq (.region false [⟨some 13, none, .fa 0 (.s 6)⟩,
    ⟨some 14, none, .ld false 1 (.s 13)⟩,
    ⟨some 15, none, .mv (.s 1)⟩,
    ⟨some 16, none, .bin .eql (.s 14) (.s 15)⟩] [] [1, 7, 8, 9, 16]) c90_3)
def c90_5 : ACode :=
  (.seq (.region false [⟨some 11, none, .ia 2 (.s 7) (.s 9)⟩,
    ⟨some 12, none, .ld true 2 (.s 11)⟩,
    ⟨some 6, none, .alloc [.t (.str []), .nils]⟩,
    ⟨none, none, .st 2 (.s 6) (.s 12)⟩] [] [1, 6, 7, 8, 9]) c90_4)
def c90_6 : ACode :=
  (.seq (.block 1 c90_5) c90_1)
def c90_7 : ACode :=
  (.seq (.cond (.s 10) .skip (.exit 0)) c90_6)
def c90_8 : ACode :=
  (.seq (.region false [⟨some 10, none, .bin .lss (.s 9) (.s 8)⟩] [] [1, 7, 8, 9, 10]) c90_7)
def c90_9 : ACode :=
  (.loop c90_8)
def c90_10 : ACode :=
  (.block 0 c90_9)
def c90_11 : ACode :=
  (.seq (.seq (.region false [⟨some 7, none, .mv (.s 0)⟩,
    ⟨some 8, none, .len (.s 7)⟩,
    ⟨some 9, none, .cst (.t (.int .i64 0))⟩] [] [1, 7, 8, 9]) c90_10) c90_0)
def c90 : ACode :=
  (.seq (.region false [⟨some 4, none, .cst (.t (.bool false))⟩] [] [0, 1]) c90_11)
def r90 : List ARes := [.tmp 4]
def n90 : Nat := 18
/- 91 supergraph directives.Arg -/
def c91_0 : ACode :=
  (.seq (.region false [⟨some 26, none, .build [.t (.int .i64 0), .t (.int .i64 0), .t (.str []), .nils, .nils] []⟩,
    ⟨none, none, .st 5 (.s 6) (.s 26)⟩,
    ⟨some 7, none, .cst (.t (.bool false))⟩] [] [6, 7]) .ret)
def c91_1 : ACode :=
  (.region false [⟨some 25, none, .bin .add (.s 12) (.c (.t (.int .i64 1)))⟩,
    ⟨some 12, none, .mv (.s 25)⟩] [] [1, 2, 6, 10, 11, 12])
def c91_2 : ACode :=
  (.seq (.region false [⟨some 20, none, .ld true 2 (.s 9)⟩,
    ⟨some 21, none, .mv (.s 2)⟩,
    ⟨some 22, none, .call 117 [(.s 20), (.s 21)]⟩,
    ⟨some 23, none, .ext (.s 22) 0⟩,
    ⟨some 24, none, .ext (.s 22) 1⟩,
    ⟨none, none, .st 5 (.s 6) (.s 23)⟩,
    ⟨some 7, none, .mv (.s 24)⟩] [] [6, 7]) .ret)
def c91_3 : ACode :=
  (.cond (.s 19) c91_2 .skip)
def c91_4 : ACode :=
  (.seq (.region false [⟨some 16, none, .fa 0 (.s 9)⟩,
    ⟨some 17, none, .ld false 1 (.s 16)⟩,
    ⟨some 18, none, .mv (.s 1)⟩,
    ⟨some 19, none, .bin .eql (.s 17) (.s 18)⟩] [] [1, 2, 6, 9, 10, 11, 12, 19]) c91_3)
def c91_5 : ACode :=
  (.seq (.region false [⟨some 14, none, .ia 2 (.s 10) (.s 12)⟩,
    ⟨some 15, none, .ld true 2 (.s 14)⟩,
    ⟨some 9, none, .alloc [.t (.str []), .nils]⟩,
    ⟨none, none, .st 2 (.s 9) (.s 15)⟩] [] [1, 2, 6, 9, 10, 11, 12]) c91_4)
def c91_6 : ACode :=
  (.seq (.block 1 c91_5) c91_1)
def c91_7 : ACode :=
  (.seq (.cond (.s 13) .skip (.exit 0)) c91_6)
def c91_8 : ACode :=
  (.seq (.region false [⟨some 13, none, .bin .lss (.s 12) (.s 11)⟩] [] [1, 2, 6, 10, 11, 12, 13]) c91_7)
def c91_9 : ACode :=
  (.loop c91_8)
def c91_10 : ACode :=
  (.block 0 c91_9)
def c91_11 : ACode :=
  (.seq (.seq (.region false [⟨some 10, none, .mv (.s 0)⟩,
    ⟨some 11, none, .len (.s 10)⟩,
    ⟨some 12, none, .cst (.t (.int .i64 0))⟩] [] [1, 2, 6, 10, 11, 12]) c91_10) c91_0)
def c91 : ACode :=
  (.seq (.region false [⟨some 6, none, .alloc [.t (.int .i64 0), .t (.int .i64 0), .t (.str []), .nils, .nils]⟩,
    ⟨some 7, none, .cst (.t (.bool false))⟩] [] [0, 1, 2, 6]) c91_11)
def r91 : List ARes := [.cell 6 true 5, .tmp 7]
def n91 : Nat := 27
/- 92 slices.ContainsFunc[[]supergraph api.Value,supergraph api.Value] -/
def c92_0 : ACode :=
  (.seq (.region false [⟨some 5, none, .mv (.s 0)⟩,
    ⟨some 6, none, .mv (.s 1)⟩,
    ⟨some 7, none, .call 118 [(.s 5), (.s 6)]⟩,
    ⟨some 8, none, .bin .geq (.s 7) (.c (.t (.int .i64 0)))⟩,
    ⟨some 4, none, .mv (.s 8)⟩] [] [4]) .ret)
def c92 : ACode :=
  (.seq (.region false [⟨some 4, none, .cst (.t (.bool false))⟩] [] [0, 1]) c92_0)
def r92 : List ARes := [.tmp 4]
def n92 : Nat := 9
/- 93 supergraph auth.permits 1 -/
def c93_0 : ACode :=
  (.seq (.region false [⟨some 4, none, .fa 0 (.s 2)⟩,
    ⟨some 5, none, .ld false 1 (.s 4)⟩,
    ⟨some 6, none, .bin .neq (.s 5) (.c (.t (.int .i64 3)))⟩,
    ⟨some 7, none, .mv (.s 6)⟩,
    ⟨some 8, some (7, false), .fa 1 (.s 1)⟩,
    ⟨some 9, some (7, false), .ld false 1 (.s 8)⟩,
    ⟨some 10, some (7, false), .fa 2 (.s 2)⟩,
    ⟨some 11, some (7, false), .ld false 1 (.s 10)⟩,
    ⟨some 12, some (7, false), .call 94 [(.s 9), (.s 11)]⟩,
    ⟨some 13, some (7, false), .un .not (.s 12)⟩,
    ⟨some 14, none, .pick (.s 7) (.c (.t (.bool true))) (.s 13)⟩,
    ⟨some 3, none, .mv (.s 14)⟩] [] [3]) .ret)
def c93 : ACode :=
  (.seq (.region false [⟨some 2, none, .box 5 (.s 0)⟩,
    ⟨some 3, none, .cst (.t (.bool false))⟩] [] [1, 2]) c93_0)
def r93 : List ARes := [.tmp 3]
def n93 : Nat := 15
/- 94 slices.Contains[[]string,string] -/
def c94_0 : ACode :=
  (.seq (.region false [⟨some 5, none, .mv (.s 0)⟩,
    ⟨some 6, none, .mv (.s 1)⟩,
    ⟨some 7, none, .call 114 [(.s 5), (.s 6)]⟩,
    ⟨some 8, none, .bin .geq (.s 7) (.c (.t (.int .i64 0)))⟩,
    ⟨some 4, none, .mv (.s 8)⟩] [] [4]) .ret)
def c94 : ACode :=
  (.seq (.region false [⟨some 4, none, .cst (.t (.bool false))⟩] [] [0, 1]) c94_0)
def r94 : List ARes := [.tmp 4]
def n94 : Nat := 9
/- 95 supergraph supergraphref23.Has -/
def c95_0 : ACode :=
  (.seq (.region false [⟨some 4, none, .cst (.t (.bool false))⟩] [] [4]) .ret)
def c95_1 : ACode :=
  (.region false [⟨some 10, none, .mv (.s 5)⟩,
    ⟨some 11, none, .bin .add (.s 10) (.c (.t (.int .i64 1)))⟩,
    ⟨some 5, none, .mv (.s 11)⟩] [] [0, 1, 5])
def c95_2 : ACode :=
  (.seq (.region false [⟨some 4, none, .cst (.t (.bool true))⟩] [] [4]) .ret)
def c95_3 : ACode :=
  (.cond (.s 18) c95_2 .skip)
def c95_4 : ACode :=
  (.seq (.region false [⟨some 12, none, .mv (.s 0)⟩,
    ⟨some 13, none, .mv (.s 5)⟩,
    ⟨some 14, none, .ia 2 (.s 12) (.s 13)⟩,
    ⟨some 15, none, .fa 0 (.s 14)⟩,
    ⟨some 16, none, .ld false 1 (.s 15)⟩,
    ⟨some 17, none, .mv (.s 1)⟩,
    ⟨some 18, none, .bin .eql (.s 16) (.s 17)⟩] [] [0, 1, 5, 18]) c95_3)
def c95_5 : ACode :=
  (.seq (.block 1 c95_4) c95_1)
def c95_6 : ACode :=
  (.cond (.s 9) .skip (.exit 0))
def c95_7 : ACode :=
  (.seq (.seq (.region false [⟨some 6, none, .mv (.s 5)⟩,
    ⟨some 7, none, .mv (.s 0)⟩,
    ⟨some 8, none, .len (.s 7)⟩,
    ⟨some 9, none, .bin .lss (.s 6) (.s 8)⟩] [] [0, 1, 5, 9]) c95_6) c95_5)
def c95_8 : ACode :=
  (.loop c95_7)
def c95_9 : ACode :=
  (.block 0 c95_8)
def c95_10 : ACode :=
  (.seq (.seq (.region false [⟨some 5, none, .cst (.t (.int .i64 0))⟩] [] [0, 1, 5]) c95_9) c95_0)
def c95 : ACode :=
  (.seq (.region false [⟨some 4, none, .cst (.t (.bool false))⟩] [] [0, 1]) c95_10)
def r95 : List ARes := [.tmp 4]
def n95 : Nat := 19
/- 96 supergraph supergraphref23.Arg -/
def c96_0 : ACode :=
  (.seq (.region false [⟨some 30, none, .build [.t (.int .i64 0), .t (.int .i64 0), .t (.str []), .nils, .nils] []⟩,
    ⟨none, none, .st 5 (.s 6) (.s 30)⟩,
    ⟨some 7, none, .cst (.t (.bool false))⟩] [] [6, 7]) .ret)
def c96_1 : ACode :=
  (.region false [⟨some 13, none, .mv (.s 8)⟩,
    ⟨some 14, none, .bin .add (.s 13) (.c (.t (.int .i64 1)))⟩,
    ⟨some 8, none, .mv (.s 14)⟩] [] [0, 1, 2, 6, 8])
def c96_2 : ACode :=
  (.seq (.region false [⟨some 22, none, .mv (.s 0)⟩,
    ⟨some 23, none, .mv (.s 8)⟩,
    ⟨some 24, none, .ia 2 (.s 22) (.s 23)⟩,
    ⟨some 25, none, .ld true 2 (.s 24)⟩,
    ⟨some 26, none, .mv (.s 2)⟩,
    ⟨some 27, none, .call 119 [(.s 25), (.s 26)]⟩,
    ⟨some 28, none, .ext (.s 27) 0⟩,
    ⟨some 29, none, .ext (.s 27) 1⟩,
    ⟨none, none, .st 5 (.s 6) (.s 28)⟩,
    ⟨some 7, none, .mv (.s 29)⟩] [] [6, 7]) .ret)
def c96_3 : ACode :=
  (.cond (.s 21) c96_2 .skip)
def c96_4 : ACode :=
  (.seq (.region false [⟨some 15, none, .mv (.s 0)⟩,
    ⟨some 16, none, .mv (.s 8)⟩,
    ⟨some 17, none, .ia 2 (.s 15) (.s 16)⟩,
    ⟨some 18, none, .fa 0 (.s 17)⟩,
    ⟨some 19, none, .ld false 1 (.s 18)⟩,
    ⟨some 20, none, .mv (.s 1)⟩,
    ⟨some 21, none, .bin .eql (.s 19) (.s 20)⟩] [] [0, 1, 2, 6, 8, 21]) c96_3)
def c96_5 : ACode :=
  (.seq (.block 1 c96_4) c96_1)
def c96_6 : ACode :=
  (.cond (.s 12) .skip (.exit 0))
def c96_7 : ACode :=
  (.seq (.seq (.region false [⟨some 9, none, .mv (.s 8)⟩,
    ⟨some 10, none, .mv (.s 0)⟩,
    ⟨some 11, none, .len (.s 10)⟩,
    ⟨some 12, none, .bin .lss (.s 9) (.s 11)⟩] [] [0, 1, 2, 6, 8, 12]) c96_6) c96_5)
def c96_8 : ACode :=
  (.loop c96_7)
def c96_9 : ACode :=
  (.block 0 c96_8)
def c96_10 : ACode :=
  (.seq (.seq (.region false [⟨some 8, none, .cst (.t (.int .i64 0))⟩] [] [0, 1, 2, 6, 8]) c96_9) c96_0)
def c96 : ACode :=
  (.seq (.region false [⟨some 6, none, .alloc [.t (.int .i64 0), .t (.int .i64 0), .t (.str []), .nils, .nils]⟩,
    ⟨some 7, none, .cst (.t (.bool false))⟩] [] [0, 1, 2, 6]) c96_10)
def r96 : List ARes := [.cell 6 true 5, .tmp 7]
def n96 : Nat := 31
/- 97 supergraph supergraphref43.in -/
def c97_0 : ACode :=
  (.seq (.region false [⟨some 4, none, .cst (.t (.bool false))⟩] [] [4]) .ret)
def c97_1 : ACode :=
  (.region false [⟨some 10, none, .mv (.s 5)⟩,
    ⟨some 11, none, .bin .add (.s 10) (.c (.t (.int .i64 1)))⟩,
    ⟨some 5, none, .mv (.s 11)⟩] [] [0, 1, 5])
def c97_2 : ACode :=
  (.seq (.region false [⟨some 4, none, .cst (.t (.bool true))⟩] [] [4]) .ret)
def c97_3 : ACode :=
  (.cond (.s 17) c97_2 .skip)
def c97_4 : ACode :=
  (.seq (.region false [⟨some 12, none, .mv (.s 0)⟩,
    ⟨some 13, none, .mv (.s 5)⟩,
    ⟨some 14, none, .ia 1 (.s 12) (.s 13)⟩,
    ⟨some 15, none, .ld false 1 (.s 14)⟩,
    ⟨some 16, none, .mv (.s 1)⟩,
    ⟨some 17, none, .bin .eql (.s 15) (.s 16)⟩] [] [0, 1, 5, 17]) c97_3)
def c97_5 : ACode :=
  (.seq (.block 1 c97_4) c97_1)
def c97_6 : ACode :=
  (.cond (.s 9) .skip (.exit 0))
def c97_7 : ACode :=
  (.seq (.seq (.region false [⟨some 6, none, .mv (.s 5)⟩,
    ⟨some 7, none, .mv (.s 0)⟩,
    ⟨some 8, none, .len (.s 7)⟩,
    ⟨some 9, none, .bin .lss (.s 6) (.s 8)⟩] [] [0, 1, 5, 9]) c97_6) c97_5)
def c97_8 : ACode :=
  (.loop c97_7)
def c97_9 : ACode :=
  (.block 0 c97_8)
def c97_10 : ACode :=
  (.seq (.seq (.region false [⟨some 5, none, .cst (.t (.int .i64 0))⟩] [] [0, 1, 5]) c97_9) c97_0)
def c97 : ACode :=
  (.seq (.region false [⟨some 4, none, .cst (.t (.bool false))⟩] [] [0, 1]) c97_10)
def r97 : List ARes := [.tmp 4]
def n97 : Nat := 18
/- 98 supergraph auth.below -/
def c98_0 : ACode :=
  (.seq (.region false [⟨some 7, none, .mv (.s 0)⟩,
    ⟨some 8, none, .call 120 [(.s 7)]⟩,
    ⟨some 9, none, .mv (.s 1)⟩,
    ⟨some 10, none, .mv (.s 2)⟩,
    ⟨some 11, none, .build [.t (.str []), .t (.str [])] [(0, 1, (.s 9)), (1, 1, (.s 10))]⟩,
    ⟨some 12, none, .bsl false 2 [[.str [], .str []]] [(0, (.s 11))]⟩,
    ⟨some 13, none, .app 2 32 (.s 8) (.s 12)⟩,
    ⟨some 6, none, .mv (.s 13)⟩] [] [6]) .ret)
def c98 : ACode :=
  (.seq (.region false [⟨some 6, none, .cst (.nils)⟩] [] [0, 1, 2]) c98_0)
def r98 : List ARes := [.tmp 6]
def n98 : Nat := 14
/- 99 slices.Clone[[]int,int] -/
def c99_0 : ACode :=
  (.seq (.region false [⟨some 5, none, .bsl true 1 [] []⟩,
    ⟨some 6, none, .mv (.s 0)⟩,
    ⟨some 7, none, .app 1 8 (.s 5) (.s 6)⟩,
    ⟨some 2, none, .mv (.s 7)⟩] [] [2]) .ret)
def c99_1 : ACode :=
  (.seq (.region false [⟨some 2, none, .cst (.nils)⟩] [] [2]) .ret)
def c99_2 : ACode :=
  (.cond (.s 4) c99_1 .skip)
def c99_3 : ACode :=
  (.seq (.seq (.region false [⟨some 3, none, .mv (.s 0)⟩,
    ⟨some 4, none, .nw (.eqn false (.s 3))⟩] [] [0, 4]) c99_2) c99_0)
def c99 : ACode :=
  (.seq (.region false [⟨some 2, none, .cst (.nils)⟩] [] [0]) c99_3)
def r99 : List ARes := [.tmp 2]
def n99 : Nat := 8
/- 100 supergraph value.Copy -/
def c100_0 : ACode :=
  (.seq (.region false [⟨some 11, none, .ld true 5 (.s 1)⟩,
    ⟨none, none, .st 5 (.s 2) (.s 11)⟩] [] [2]) .ret)
def c100_1 : ACode :=
  (.seq (.region false [⟨some 7, none, .fa 4 (.s 1)⟩,
    ⟨some 8, none, .ld false 1 (.s 7)⟩,
    ⟨some 9, none, .call 122 [(.s 8)]⟩,
    ⟨some 10, none, .fa 4 (.s 1)⟩,
    ⟨none, none, .st 1 (.s 10) (.s 9)⟩] [] [1, 2]) c100_0)
def c100_2 : ACode :=
  (.seq (.region false [⟨some 3, none, .fa 3 (.s 1)⟩,
    ⟨some 4, none, .ld false 1 (.s 3)⟩,
    ⟨some 5, none, .call 121 [(.s 4)]⟩,
    ⟨some 6, none, .fa 3 (.s 1)⟩,
    ⟨none, none, .st 1 (.s 6) (.s 5)⟩] [] [1, 2]) c100_1)
def c100 : ACode :=
  (.seq (.region false [⟨some 1, none, .box 5 (.s 0)⟩,
    ⟨some 2, none, .alloc [.t (.int .i64 0), .t (.int .i64 0), .t (.str []), .nils, .nils]⟩] [] [1, 2]) c100_2)
def r100 : List ARes := [.cell 2 true 5]
def n100 : Nat := 12
/- 101 supergraph supergraphref43.with -/
def c101_0 : ACode :=
  (.seq (.region false [⟨some 11, none, .mv (.s 7)⟩,
    ⟨some 12, none, .mv (.s 1)⟩,
    ⟨some 13, none, .mv (.s 2)⟩,
    ⟨some 14, none, .build [.t (.str []), .t (.str [])] [(0, 1, (.s 12)), (1, 1, (.s 13))]⟩,
    ⟨some 15, none, .bsl false 2 [[.str [], .str []]] [(0, (.s 14))]⟩,
    ⟨some 16, none, .app 2 32 (.s 11) (.s 15)⟩,
    ⟨some 6, none, .mv (.s 16)⟩] [] [6]) .ret)
def c101_1 : ACode :=
  (.seq (.region false [⟨some 8, none, .mv (.s 7)⟩,
    ⟨some 9, none, .mv (.s 0)⟩,
    ⟨some 10, none, .app 2 32 (.s 8) (.s 9)⟩,
    ⟨some 7, none, .mv (.s 10)⟩] [] [1, 2, 7]) c101_0)
def c101_2 : ACode :=
  (.seq (.region false [⟨some 7, none, .cst (.nils)⟩] [] [0, 1, 2, 7]) c101_1)
def c101 : ACode :=
  (.seq (.region false [⟨some 6, none, .cst (.nils)⟩] [] [0, 1, 2]) c101_2)
def r101 : List ARes := [.tmp 6]
def n101 : Nat := 17
/- 102 supergraph supergraphref05.same -/
def c102_0 : ACode :=
  (.seq (.region false [⟨some 4, none, .cst (.t (.bool true))⟩] [] [4]) .ret)
def c102_1 : ACode :=
  (.region false [⟨some 15, none, .mv (.s 5)⟩,
    ⟨some 16, none, .bin .add (.s 15) (.c (.t (.int .i64 1)))⟩,
    ⟨some 5, none, .mv (.s 16)⟩] [] [0, 1, 5])
def c102_2 : ACode :=
  (.seq (.region false [⟨some 4, none, .cst (.t (.bool false))⟩] [] [4]) .ret)
def c102_3 : ACode :=
  (.cond (.s 25) c102_2 .skip)
def c102_4 : ACode :=
  (.seq (.region true [⟨some 17, none, .mv (.s 0)⟩,
    ⟨some 18, none, .mv (.s 5)⟩,
    ⟨some 19, none, .ia 1 (.s 17) (.s 18)⟩,
    ⟨some 20, none, .ld false 1 (.s 19)⟩,
    ⟨some 21, none, .mv (.s 1)⟩,
    ⟨some 22, none, .mv (.s 5)⟩,
    ⟨some 23, none, .ia 1 (.s 21) (.s 22)⟩,
    ⟨some 24, none, .ld false 1 (.s 23)⟩,
    ⟨some 25, none, .bin .neq (.s 20) (.s 24)⟩] [[], [], [0, 1], [2], [], [], [4, 5], [6], [3, 7]] [0, 1, 5, 25]) c102_3)
def c102_5 : ACode :=
  (.seq (.block 1 c102_4) c102_1)
def c102_6 : ACode :=
  (.cond (.s 14) .skip (.exit 0))
def c102_7 : ACode :=
  (.seq (.seq (.region false [⟨some 11, none, .mv (.s 5)⟩,
    ⟨some 12, none, .mv (.s 0)⟩,
    ⟨some 13, none, .len (.s 12)⟩,
    ⟨some 14, none, .bin .lss (.s 11) (.s 13)⟩] [] [0, 1, 5, 14]) c102_6) c102_5)
def c102_8 : ACode :=
  (.loop c102_7)
def c102_9 : ACode :=
  (.block 0 c102_8)
def c102_10 : ACode :=
  (.seq (.seq (.region false [⟨some 5, none, .cst (.t (.int .i64 0))⟩] [] [0, 1, 5]) c102_9) c102_0)
def c102_11 : ACode :=
  (.seq (.region false [⟨some 4, none, .cst (.t (.bool false))⟩] [] [4]) .ret)
def c102_12 : ACode :=
  (.cond (.s 10) c102_11 .skip)
def c102_13 : ACode :=
  (.seq (.seq (.region false [⟨some 6, none, .mv (.s 0)⟩,
    ⟨some 7, none, .len (.s 6)⟩,
    ⟨some 8, none, .mv (.s 1)⟩,
    ⟨some 9, none, .len (.s 8)⟩,
    ⟨some 10, none, .bin .neq (.s 7) (.s 9)⟩] [] [0, 1, 10]) c102_12) c102_10)
def c102 : ACode :=
  (.seq (.region false [⟨some 4, none, .cst (.t (.bool false))⟩] [] [0, 1]) c102_13)
def r102 : List ARes := [.tmp 4]
def n102 : Nat := 26
/- 103 supergraph supergraphref02.Compare -/
def c103_0 : ACode :=
  (.seq (.region false [⟨some 69, none, .mv (.s 5)⟩,
    ⟨some 4, none, .mv (.s 69)⟩] [] [4]) .ret)
def c103_1 : ACode :=
  (.region false [⟨some 28, none, .mv (.s 6)⟩,
    ⟨some 29, none, .bin .add (.s 28) (.c (.t (.int .i64 1)))⟩,
    ⟨some 6, none, .mv (.s 29)⟩] [] [2, 3, 5, 6])
def c103_2 : ACode :=
  (.region true [⟨some 58, none, .fa 3 (.s 2)⟩,
    ⟨some 59, none, .ld false 1 (.s 58)⟩,
    ⟨some 60, none, .mv (.s 6)⟩,
    ⟨some 61, none, .ia 5 (.s 59) (.s 60)⟩,
    ⟨some 62, none, .ld true 5 (.s 61)⟩,
    ⟨some 63, none, .fa 3 (.s 3)⟩,
    ⟨some 64, none, .ld false 1 (.s 63)⟩,
    ⟨some 65, none, .mv (.s 6)⟩,
    ⟨some 66, none, .ia 5 (.s 64) (.s 65)⟩,
    ⟨some 67, none, .ld true 5 (.s 66)⟩,
    ⟨some 68, none, .call 103 [(.s 62), (.s 67)]⟩,
    ⟨some 5, none, .mv (.s 68)⟩] [[], [0], [], [1, 2], [3], [], [5], [], [6, 7], [8], [4, 9], [10, 10, 0, 1, 2, 3, 4, 5, 6, 7, 8, 9, 10]] [2, 3, 5, 6])
def c103_3 : ACode :=
  (.cond (.s 57) c103_2 .skip)
def c103_4 : ACode :=
  (.seq (.region false [⟨some 56, none, .mv (.s 5)⟩,
    ⟨some 57, none, .bin .eql (.s 56) (.c (.t (.int .i64 0)))⟩] [] [2, 3, 5, 6, 57]) c103_3)
def c103_5 : ACode :=
  (.seq (.region true [⟨some 49, none, .ld true 5 (.s 2)⟩,
    ⟨some 50, none, .mv (.s 6)⟩,
    ⟨some 51, none, .call 125 [(.s 49), (.s 50)]⟩,
    ⟨some 52, none, .ld true 5 (.s 3)⟩,
    ⟨some 53, none, .mv (.s 6)⟩,
    ⟨some 54, none, .call 125 [(.s 52), (.s 53)]⟩,
    ⟨some 55, none, .call 124 [(.s 51), (.s 54)]⟩,
    ⟨some 5, none, .mv (.s 55)⟩] [[], [], [0, 1], [], [], [3, 4, 2], [2, 5, 5], [6, 6, 0, 1, 2, 3, 4, 5, 6]] [2, 3, 5, 6]) c103_4)
def c103_6 : ACode :=
  (.seq (.region false [⟨some 42, none, .fa 3 (.s 2)⟩,
    ⟨some 43, none, .ld false 1 (.s 42)⟩,
    ⟨some 44, none, .len (.s 43)⟩,
    ⟨some 45, none, .fa 3 (.s 3)⟩,
    ⟨some 46, none, .ld false 1 (.s 45)⟩,
    ⟨some 47, none, .len (.s 46)⟩,
    ⟨some 48, none, .call 123 [(.s 44), (.s 47)]⟩,
    ⟨some 4, none, .mv (.s 48)⟩] [] [4]) .ret)
def c103_7 : ACode :=
  (.cond (.s 41) c103_6 .skip)
def c103_8 : ACode :=
  (.seq (.seq (.region false [⟨some 30, none, .mv (.s 6)⟩,
    ⟨some 31, none, .fa 3 (.s 2)⟩,
    ⟨some 32, none, .ld false 1 (.s 31)⟩,
    ⟨some 33, none, .len (.s 32)⟩,
    ⟨some 34, none, .bin .geq (.s 30) (.s 33)⟩,
    ⟨some 35, none, .mv (.s 34)⟩,
    ⟨some 36, some (35, false), .mv (.s 6)⟩,
    ⟨some 37, some (35, false), .fa 3 (.s 3)⟩,
    ⟨some 38, some (35, false), .ld false 1 (.s 37)⟩,
    ⟨some 39, some (35, false), .len (.s 38)⟩,
    ⟨some 40, some (35, false), .bin .geq (.s 36) (.s 39)⟩,
    ⟨some 41, none, .pick (.s 35) (.c (.t (.bool true))) (.s 40)⟩] [] [2, 3, 6, 41]) c103_7) c103_5)
def c103_9 : ACode :=
  (.seq (.block 1 c103_8) c103_1)
def c103_10 : ACode :=
  (.cond (.s 27) .skip (.exit 0))
def c103_11 : ACode :=
  (.seq (.seq (.region false [⟨some 26, none, .mv (.s 5)⟩,
    ⟨some 27, none, .bin .eql (.s 26) (.c (.t (.int .i64 0)))⟩] [] [2, 3, 5, 6, 27]) c103_10) c103_9)
def c103_12 : ACode :=
  (.loop c103_11)
def c103_13 : ACode :=
  (.block 0 c103_12)
def c103_14 : ACode :=
  (.seq (.seq (.region false [⟨some 6, none, .cst (.t (.int .i64 0))⟩] [] [2, 3, 5, 6]) c103_13) c103_0)
def c103_15 : ACode :=
  (.region false [⟨some 21, none, .fa 2 (.s 2)⟩,
    ⟨some 22, none, .ld false 1 (.s 21)⟩,
    ⟨some 23, none, .fa 2 (.s 3)⟩,
    ⟨some 24, none, .ld false 1 (.s 23)⟩,
    ⟨some 25, none, .call 124 [(.s 22), (.s 24)]⟩,
    ⟨some 5, none, .mv (.s 25)⟩] [] [2, 3, 5])
def c103_16 : ACode :=
  (.cond (.s 20) c103_15 .skip)
def c103_17 : ACode :=
  (.seq (.seq (.region false [⟨some 19, none, .mv (.s 5)⟩,
    ⟨some 20, none, .bin .eql (.s 19) (.c (.t (.int .i64 0)))⟩] [] [2, 3, 5, 20]) c103_16) c103_14)
def c103_18 : ACode :=
  (.region false [⟨some 14, none, .fa 1 (.s 2)⟩,
    ⟨some 15, none, .ld false 1 (.s 14)⟩,
    ⟨some 16, none, .fa 1 (.s 3)⟩,
    ⟨some 17, none, .ld false 1 (.s 16)⟩,
    ⟨some 18, none, .call 123 [(.s 15), (.s 17)]⟩,
    ⟨some 5, none, .mv (.s 18)⟩] [] [2, 3, 5])
def c103_19 : ACode :=
  (.cond (.s 13) c103_18 .skip)
def c103_20 : ACode :=
  (.seq (.seq (.region false [⟨some 12, none, .mv (.s 5)⟩,
    ⟨some 13, none, .bin .eql (.s 12) (.c (.t (.int .i64 0)))⟩] [] [2, 3, 5, 13]) c103_19) c103_17)
def c103_21 : ACode :=
  (.seq (.region false [⟨some 7, none, .fa 0 (.s 2)⟩,
    ⟨some 8, none, .ld false 1 (.s 7)⟩,
    ⟨some 9, none, .fa 0 (.s 3)⟩,
    ⟨some 10, none, .ld false 1 (.s 9)⟩,
    ⟨some 11, none, .call 123 [(.s 8), (.s 10)]⟩,
    ⟨some 5, none, .mv (.s 11)⟩] [] [2, 3, 5]) c103_20)
def c103 : ACode :=
  (.seq (.region false [⟨some 2, none, .box 5 (.s 0)⟩,
    ⟨some 3, none, .box 5 (.s 1)⟩,
    ⟨some 4, none, .cst (.t (.int .i64 0))⟩] [] [2, 3]) c103_21)
def r103 : List ARes := [.tmp 4]
def n103 : Nat := 70
/- 104 (supergraph auth.marker).gone -/
def c104_0 : ACode :=
  (.seq (.region false [⟨some 5, none, .fa 0 (.s 2)⟩,
    ⟨some 6, none, .ld false 1 (.s 5)⟩,
    ⟨some 7, none, .mkfn 127 [(.s 3)]⟩,
    ⟨some 8, none, .call 126 [(.s 6), (.s 7)]⟩,
    ⟨some 4, none, .mv (.s 8)⟩] [] [4]) .ret)
def c104 : ACode :=
  (.seq (.region false [⟨some 2, none, .box 1 (.s 0)⟩,
    ⟨some 3, none, .box 1 (.s 1)⟩,
    ⟨some 4, none, .cst (.t (.bool false))⟩] [] [2, 3]) c104_0)
def r104 : List ARes := [.tmp 4]
def n104 : Nat := 9
/- 105 supergraph supergraphref43.listed -/
def c105_0 : ACode :=
  (.seq (.region false [⟨some 4, none, .cst (.t (.bool false))⟩] [] [4]) .ret)
def c105_1 : ACode :=
  (.region false [⟨some 12, none, .mv (.s 5)⟩,
    ⟨some 13, none, .bin .add (.s 12) (.c (.t (.int .i64 1)))⟩,
    ⟨some 5, none, .mv (.s 13)⟩] [] [0, 1, 5])
def c105_2 : ACode :=
  (.seq (.region false [⟨some 4, none, .cst (.t (.bool true))⟩] [] [4]) .ret)
def c105_3 : ACode :=
  (.cond (.s 43) c105_2 .skip)
def c105_4 : ACode :=
  (.seq (.region false [⟨some 43, none, .mv (.s 6)⟩] [] [0, 1, 5, 43]) c105_3)
def c105_5 : ACode :=
  (.region false [⟨some 29, none, .mv (.s 7)⟩,
    ⟨some 30, none, .bin .add (.s 29) (.c (.t (.int .i64 1)))⟩,
    ⟨some 7, none, .mv (.s 30)⟩] [] [0, 1, 5, 6, 7])
def c105_6 : ACode :=
  (.region true [⟨some 31, none, .mv (.s 0)⟩,
    ⟨some 32, none, .mv (.s 5)⟩,
    ⟨some 33, none, .ia 1 (.s 31) (.s 32)⟩,
    ⟨some 34, none, .ld false 1 (.s 33)⟩,
    ⟨some 35, none, .mv (.s 7)⟩,
    ⟨some 36, none, .ia 2 (.s 34) (.s 35)⟩,
    ⟨some 37, none, .ld true 2 (.s 36)⟩,
    ⟨some 38, none, .mv (.s 1)⟩,
    ⟨some 39, none, .mv (.s 7)⟩,
    ⟨some 40, none, .ia 2 (.s 38) (.s 39)⟩,
    ⟨some 41, none, .ld true 2 (.s 40)⟩,
    ⟨some 42, none, .nw (.eqst false [.str, .str] (.s 37) (.s 41))⟩,
    ⟨some 6, none, .mv (.s 42)⟩] [[], [], [0, 1], [2], [], [3, 4], [5], [], [], [7, 8], [9], [6, 10], [11, 0, 1, 2, 3, 4, 5, 6, 7, 8, 9, 10, 11]] [0, 1, 5, 6, 7])
def c105_7 : ACode :=
  (.seq (.block 3 c105_6) c105_5)
def c105_8 : ACode :=
  (.cond (.s 28) .skip (.exit 2))
def c105_9 : ACode :=
  (.seq (.seq (.region false [⟨some 22, none, .mv (.s 7)⟩,
    ⟨some 23, none, .mv (.s 1)⟩,
    ⟨some 24, none, .len (.s 23)⟩,
    ⟨some 25, none, .bin .lss (.s 22) (.s 24)⟩,
    ⟨some 26, none, .mv (.s 25)⟩,
    ⟨some 27, some (26, true), .mv (.s 6)⟩,
    ⟨some 28, none, .pick (.s 26) (.s 27) (.c (.t (.bool false)))⟩] [] [0, 1, 5, 6, 7, 28]) c105_8) c105_7)
def c105_10 : ACode :=
  (.loop c105_9)
def c105_11 : ACode :=
  (.block 2 c105_10)
def c105_12 : ACode :=
  (.seq (.seq (.region false [⟨some 7, none, .cst (.t (.int .i64 0))⟩] [] [0, 1, 5, 6, 7]) c105_11) c105_4)
def c105_13 : ACode :=
  (.seq (.region false [⟨some 14, none, .mv (.s 0)⟩,
    ⟨some 15, none, .mv (.s 5)⟩,
    ⟨some 16, none, .ia 1 (.s 14) (.s 15)⟩,
    ⟨some 17, none, .ld false 1 (.s 16)⟩,
    ⟨some 18, none, .len (.s 17)⟩,
    ⟨some 19, none, .mv (.s 1)⟩,
    ⟨some 20, none, .len (.s 19)⟩,
    ⟨some 21, none, .bin .eql (.s 18) (.s 20)⟩,
    ⟨some 6, none, .mv (.s 21)⟩] [] [0, 1, 5, 6]) c105_12)
def c105_14 : ACode :=
  (.seq (.block 1 c105_13) c105_1)
def c105_15 : ACode :=
  (.cond (.s 11) .skip (.exit 0))
def c105_16 : ACode :=
  (.seq (.seq (.region false [⟨some 8, none, .mv (.s 5)⟩,
    ⟨some 9, none, .mv (.s 0)⟩,
    ⟨some 10, none, .len (.s 9)⟩,
    ⟨some 11, none, .bin .lss (.s 8) (.s 10)⟩] [] [0, 1, 5, 11]) c105_15) c105_14)
def c105_17 : ACode :=
  (.loop c105_16)
def c105_18 : ACode :=
  (.block 0 c105_17)
def c105_19 : ACode :=
  (.seq (.seq (.region false [⟨some 5, none, .cst (.t (.int .i64 0))⟩] [] [0, 1, 5]) c105_18) c105_0)
def c105 : ACode :=
  (.seq (.region false [⟨some 4, none, .cst (.t (.bool false))⟩] [] [0, 1]) c105_19)
def r105 : List ARes := [.tmp 4]
def n105 : Nat := 44
/- 114 slices.Index[[]string,string] -/
def c114_0 : ACode :=
  (.seq (.region false [⟨some 4, none, .cst (.t (.int .i64 (-1)))⟩] [] [4]) .ret)
def c114_1 : ACode :=
  (.region false [⟨some 18, none, .bin .add (.s 8) (.c (.t (.int .i64 1)))⟩,
    ⟨some 8, none, .mv (.s 18)⟩] [] [0, 1, 7, 8])
def c114_2 : ACode :=
  (.seq (.region false [⟨some 17, none, .mv (.s 5)⟩,
    ⟨some 4, none, .mv (.s 17)⟩] [] [4]) .ret)
def c114_3 : ACode :=
  (.cond (.s 16) c114_2 .skip)
def c114_4 : ACode :=
  (.seq (.region false [⟨some 11, none, .mv (.s 1)⟩,
    ⟨some 12, none, .mv (.s 0)⟩,
    ⟨some 13, none, .mv (.s 5)⟩,
    ⟨some 14, none, .ia 1 (.s 12) (.s 13)⟩,
    ⟨some 15, none, .ld false 1 (.s 14)⟩,
    ⟨some 16, none, .bin .eql (.s 11) (.s 15)⟩] [] [0, 1, 5, 7, 8, 16]) c114_3)
def c114_5 : ACode :=
  (.seq (.region false [⟨some 10, none, .mv (.s 8)⟩,
    ⟨some 5, none, .mv (.s 10)⟩] [] [0, 1, 5, 7, 8]) c114_4)
def c114_6 : ACode :=
  (.seq (.block 1 c114_5) c114_1)
def c114_7 : ACode :=
  (.seq (.cond (.s 9) .skip (.exit 0)) c114_6)
def c114_8 : ACode :=
  (.seq (.region false [⟨some 9, none, .bin .lss (.s 8) (.s 7)⟩] [] [0, 1, 7, 8, 9]) c114_7)
def c114_9 : ACode :=
  (.loop c114_8)
def c114_10 : ACode :=
  (.block 0 c114_9)
def c114_11 : ACode :=
  (.seq (.seq (.region false [⟨some 6, none, .mv (.s 0)⟩,
    ⟨some 7, none, .len (.s 6)⟩,
    ⟨some 8, none, .cst (.t (.int .i64 0))⟩] [] [0, 1, 7, 8]) c114_10) c114_0)
def c114 : ACode :=
  (.seq (.region false [⟨some 4, none, .cst (.t (.int .i64 0))⟩] [] [0, 1]) c114_11)
def r114 : List ARes := [.tmp 4]
def n114 : Nat := 19
/- 116 supergraph supergraphref02.Copy -/
def c116_0 : ACode :=
  (.seq (.region true [⟨some 3, none, .fa 0 (.s 1)⟩,
    ⟨some 4, none, .ld false 1 (.s 3)⟩,
    ⟨some 5, none, .fa 1 (.s 1)⟩,
    ⟨some 6, none, .ld false 1 (.s 5)⟩,
    ⟨some 7, none, .fa 2 (.s 1)⟩,
    ⟨some 8, none, .ld false 1 (.s 7)⟩,
    ⟨some 9, none, .fa 3 (.s 1)⟩,
    ⟨some 10, none, .ld false 1 (.s 9)⟩,
    ⟨some 11, none, .call 132 [(.s 10)]⟩,
    ⟨some 12, none, .bsl true 1 [] []⟩,
    ⟨some 13, none, .fa 4 (.s 1)⟩,
    ⟨some 14, none, .ld false 1 (.s 13)⟩,
    ⟨some 15, none, .app 1 16 (.s 12) (.s 14)⟩,
    ⟨some 16, none, .build [.t (.int .i64 0), .t (.int .i64 0), .t (.str []), .nils, .nils] [(0, 1, (.s 4)), (1, 1, (.s 6)), (2, 1, (.s 8)), (3, 1, (.s 11)), (4, 1, (.s 15))]⟩,
    ⟨none, none, .st 5 (.s 2) (.s 16)⟩] [[], [0], [], [2], [], [4], [], [6], [7], [], [], [10], [9, 11, 8], [1, 3, 5, 8, 12], [13, 12, 0, 1, 2, 3, 4, 5, 6, 7, 8, 9, 10, 11, 12, 13]] [2]) .ret)
def c116 : ACode :=
  (.seq (.region false [⟨some 1, none, .box 5 (.s 0)⟩,
    ⟨some 2, none, .alloc [.t (.int .i64 0), .t (.int .i64 0), .t (.str []), .nils, .nils]⟩] [] [1, 2]) c116_0)
def r116 : List ARes := [.cell 2 true 5]
def n116 : Nat := 17
/- 117 supergraph directives.argument -/
def c117_0 : ACode :=
  (.seq (.region false [⟨some 22, none, .build [.t (.int .i64 0), .t (.int .i64 0), .t (.str []), .nils, .nils] []⟩,
    ⟨none, none, .st 5 (.s 4) (.s 22)⟩,
    ⟨some 5, none, .cst (.t (.bool false))⟩] [] [4, 5]) .ret)
def c117_1 : ACode :=
  (.region false [⟨some 21, none, .bin .add (.s 11) (.c (.t (.int .i64 1)))⟩,
    ⟨some 11, none, .mv (.s 21)⟩] [] [1, 4, 9, 10, 11])
def c117_2 : ACode :=
  (.seq (.region false [⟨some 19, none, .fa 1 (.s 7)⟩,
    ⟨some 20, none, .ld true 5 (.s 19)⟩,
    ⟨none, none, .st 5 (.s 4) (.s 20)⟩,
    ⟨some 5, none, .cst (.t (.bool true))⟩] [] [4, 5]) .ret)
def c117_3 : ACode :=
  (.cond (.s 18) c117_2 .skip)
def c117_4 : ACode :=
  (.seq (.region false [⟨some 15, none, .fa 0 (.s 7)⟩,
    ⟨some 16, none, .ld false 1 (.s 15)⟩,
    ⟨some 17, none, .mv (.s 1)⟩,
    ⟨some 18, none, .bin .eql (.s 16) (.s 17)⟩] [] [1, 4, 7, 9, 10, 11, 18]) c117_3)
def c117_5 : ACode :=
  (.seq (.region false [⟨some 13, none, .ia 6 (.s 9) (.s 11)⟩,
    ⟨some 14, none, .ld true 6 (.s 13)⟩,
    ⟨some 7, none, .alloc [.t (.str []), .t (.int .i64 0), .t (.int .i64 0), .t (.str []), .nils, .nils]⟩,
    ⟨none, none, .st 6 (.s 7) (.s 14)⟩] [] [1, 4, 7, 9, 10, 11]) c117_4)
def c117_6 : ACode :=
  (.seq (.block 1 c117_5) c117_1)
def c117_7 : ACode :=
  (.seq (.cond (.s 12) .skip (.exit 0)) c117_6)
def c117_8 : ACode :=
  (.seq (.region false [⟨some 12, none, .bin .lss (.s 11) (.s 10)⟩] [] [1, 4, 9, 10, 11, 12]) c117_7)
def c117_9 : ACode :=
  (.loop c117_8)
def c117_10 : ACode :=
  (.block 0 c117_9)
def c117_11 : ACode :=
  (.seq (.seq (.region false [⟨some 8, none, .fa 1 (.s 2)⟩,
    ⟨some 9, none, .ld false 1 (.s 8)⟩,
    ⟨some 10, none, .len (.s 9)⟩,
    ⟨some 11, none, .cst (.t (.int .i64 0))⟩] [] [1, 4, 9, 10, 11]) c117_10) c117_0)
def c117 : ACode :=
  (.seq (.region false [⟨some 2, none, .box 2 (.s 0)⟩,
    ⟨some 4, none, .alloc [.t (.int .i64 0), .t (.int .i64 0), .t (.str []), .nils, .nils]⟩,
    ⟨some 5, none, .cst (.t (.bool false))⟩] [] [1, 2, 4]) c117_11)
def r117 : List ARes := [.cell 4 true 5, .tmp 5]
def n117 : Nat := 23
/- 118 slices.IndexFunc[[]supergraph api.Value,supergraph api.Value] -/
def c118_0 : ACode :=
  (.seq (.region false [⟨some 4, none, .cst (.t (.int .i64 (-1)))⟩] [] [4]) .ret)
def c118_1 : ACode :=
  (.region false [⟨some 18, none, .bin .add (.s 8) (.c (.t (.int .i64 1)))⟩,
    ⟨some 8, none, .mv (.s 18)⟩] [] [0, 1, 7, 8])
def c118_2 : ACode :=
  (.seq (.region false [⟨some 17, none, .mv (.s 5)⟩,
    ⟨some 4, none, .mv (.s 17)⟩] [] [4]) .ret)
def c118_3 : ACode :=
  (.cond (.s 16) c118_2 .skip)
def c118_4 : ACode :=
  (.seq (.region false [⟨some 11, none, .mv (.s 1)⟩,
    ⟨some 12, none, .mv (.s 0)⟩,
    ⟨some 13, none, .mv (.s 5)⟩,
    ⟨some 14, none, .ia 5 (.s 12) (.s 13)⟩,
    ⟨some 15, none, .ld true 5 (.s 14)⟩,
    ⟨some 16, none, .callv (.s 11) [(.s 15)]⟩] [] [0, 1, 5, 7, 8, 16]) c118_3)
def c118_5 : ACode :=
  (.seq (.region false [⟨some 10, none, .mv (.s 8)⟩,
    ⟨some 5, none, .mv (.s 10)⟩] [] [0, 1, 5, 7, 8]) c118_4)
def c118_6 : ACode :=
  (.seq (.block 1 c118_5) c118_1)
def c118_7 : ACode :=
  (.seq (.cond (.s 9) .skip (.exit 0)) c118_6)
def c118_8 : ACode :=
  (.seq (.region false [⟨some 9, none, .bin .lss (.s 8) (.s 7)⟩] [] [0, 1, 7, 8, 9]) c118_7)
def c118_9 : ACode :=
  (.loop c118_8)
def c118_10 : ACode :=
  (.block 0 c118_9)
def c118_11 : ACode :=
  (.seq (.seq (.region false [⟨some 6, none, .mv (.s 0)⟩,
    ⟨some 7, none, .len (.s 6)⟩,
    ⟨some 8, none, .cst (.t (.int .i64 0))⟩] [] [0, 1, 7, 8]) c118_10) c118_0)
def c118 : ACode :=
  (.seq (.region false [⟨some 4, none, .cst (.t (.int .i64 0))⟩] [] [0, 1]) c118_11)
def r118 : List ARes := [.tmp 4]
def n118 : Nat := 19
/- 119 supergraph supergraphref23.argument -/
def c119_0 : ACode :=
  (.seq (.region false [⟨some 28, none, .build [.t (.int .i64 0), .t (.int .i64 0), .t (.str []), .nils, .nils] []⟩,
    ⟨none, none, .st 5 (.s 4) (.s 28)⟩,
    ⟨some 5, none, .cst (.t (.bool false))⟩] [] [4, 5]) .ret)
def c119_1 : ACode :=
  (.region false [⟨some 12, none, .mv (.s 6)⟩,
    ⟨some 13, none, .bin .add (.s 12) (.c (.t (.int .i64 1)))⟩,
    ⟨some 6, none, .mv (.s 13)⟩] [] [1, 2, 4, 6])
def c119_2 : ACode :=
  (.seq (.region false [⟨some 22, none, .fa 1 (.s 2)⟩,
    ⟨some 23, none, .ld false 1 (.s 22)⟩,
    ⟨some 24, none, .mv (.s 6)⟩,
    ⟨some 25, none, .ia 6 (.s 23) (.s 24)⟩,
    ⟨some 26, none, .fa 1 (.s 25)⟩,
    ⟨some 27, none, .ld true 5 (.s 26)⟩,
    ⟨none, none, .st 5 (.s 4) (.s 27)⟩,
    ⟨some 5, none, .cst (.t (.bool true))⟩] [] [4, 5]) .ret)
def c119_3 : ACode :=
  (.cond (.s 21) c119_2 .skip)
def c119_4 : ACode :=
  (.seq (.region false [⟨some 14, none, .fa 1 (.s 2)⟩,
    ⟨some 15, none, .ld false 1 (.s 14)⟩,
    ⟨some 16, none, .mv (.s 6)⟩,
    ⟨some 17, none, .ia 6 (.s 15) (.s 16)⟩,
    ⟨some 18, none, .fa 0 (.s 17)⟩,
    ⟨some 19, none, .ld false 1 (.s 18)⟩,
    ⟨some 20, none, .mv (.s 1)⟩,
    ⟨some 21, none, .bin .eql (.s 19) (.s 20)⟩] [] [1, 2, 4, 6, 21]) c119_3)
def c119_5 : ACode :=
  (.seq (.block 1 c119_4) c119_1)
def c119_6 : ACode :=
  (.cond (.s 11) .skip (.exit 0))
def c119_7 : ACode :=
  (.seq (.seq (.region false [⟨some 7, none, .mv (.s 6)⟩,
    ⟨some 8, none, .fa 1 (.s 2)⟩,
    ⟨some 9, none, .ld false 1 (.s 8)⟩,
    ⟨some 10, none, .len (.s 9)⟩,
    ⟨some 11, none, .bin .lss (.s 7) (.s 10)⟩] [] [1, 2, 4, 6, 11]) c119_6) c119_5)
def c119_8 : ACode :=
  (.loop c119_7)
def c119_9 : ACode :=
  (.block 0 c119_8)
def c119_10 : ACode :=
  (.seq (.seq (.region false [⟨some 6, none, .cst (.t (.int .i64 0))⟩] [] [1, 2, 4, 6]) c119_9) c119_0)
def c119 : ACode :=
  (.seq (.region false [⟨some 2, none, .box 2 (.s 0)⟩,
    ⟨some 4, none, .alloc [.t (.int .i64 0), .t (.int .i64 0), .t (.str []), .nils, .nils]⟩,
    ⟨some 5, none, .cst (.t (.bool false))⟩] [] [1, 2, 4]) c119_10)
def r119 : List ARes := [.cell 4 true 5, .tmp 5]
def n119 : Nat := 29
/- 120 slices.Clone[[]supergraph api.Hop,supergraph api.Hop] -/
def c120_0 : ACode :=
  (.seq (.region false [⟨some 5, none, .bsl true 2 [] []⟩,
    ⟨some 6, none, .mv (.s 0)⟩,
    ⟨some 7, none, .app 2 32 (.s 5) (.s 6)⟩,
    ⟨some 2, none, .mv (.s 7)⟩] [] [2]) .ret)
def c120_1 : ACode :=
  (.seq (.region false [⟨some 2, none, .cst (.nils)⟩] [] [2]) .ret)
def c120_2 : ACode :=
  (.cond (.s 4) c120_1 .skip)
def c120_3 : ACode :=
  (.seq (.seq (.region false [⟨some 3, none, .mv (.s 0)⟩,
    ⟨some 4, none, .nw (.eqn false (.s 3))⟩] [] [0, 4]) c120_2) c120_0)
def c120 : ACode :=
  (.seq (.region false [⟨some 2, none, .cst (.nils)⟩] [] [0]) c120_3)
def r120 : List ARes := [.tmp 2]
def n120 : Nat := 8
/- 121 supergraph value.copies -/
def c121_0 : ACode :=
  (.seq (.region false [⟨some 18, none, .mv (.s 3)⟩,
    ⟨some 2, none, .mv (.s 18)⟩] [] [2]) .ret)
def c121_1 : ACode :=
  (.region false [⟨some 17, none, .bin .add (.s 8) (.c (.t (.int .i64 1)))⟩,
    ⟨some 8, none, .mv (.s 17)⟩] [] [3, 6, 7, 8])
def c121_2 : ACode :=
  (.region false [⟨some 12, none, .mv (.s 3)⟩,
    ⟨some 13, none, .ld true 5 (.s 5)⟩,
    ⟨some 14, none, .call 100 [(.s 13)]⟩,
    ⟨some 15, none, .bsl false 5 [[.int .i64 0, .int .i64 0, .str [], .lst [], .lst []]] [(0, (.s 14))]⟩,
    ⟨some 16, none, .app 5 80 (.s 12) (.s 15)⟩,
    ⟨some 3, none, .mv (.s 16)⟩] [] [3, 6, 7, 8])
def c121_3 : ACode :=
  (.seq (.region false [⟨some 10, none, .ia 5 (.s 6) (.s 8)⟩,
    ⟨some 11, none, .ld true 5 (.s 10)⟩,
    ⟨some 5, none, .alloc [.t (.int .i64 0), .t (.int .i64 0), .t (.str []), .nils, .nils]⟩,
    ⟨none, none, .st 5 (.s 5) (.s 11)⟩] [] [3, 5, 6, 7, 8]) c121_2)
def c121_4 : ACode :=
  (.seq (.block 1 c121_3) c121_1)
def c121_5 : ACode :=
  (.seq (.cond (.s 9) .skip (.exit 0)) c121_4)
def c121_6 : ACode :=
  (.seq (.region false [⟨some 9, none, .bin .lss (.s 8) (.s 7)⟩] [] [3, 6, 7, 8, 9]) c121_5)
def c121_7 : ACode :=
  (.loop c121_6)
def c121_8 : ACode :=
  (.block 0 c121_7)
def c121_9 : ACode :=
  (.seq (.seq (.region false [⟨some 6, none, .mv (.s 0)⟩,
    ⟨some 7, none, .len (.s 6)⟩,
    ⟨some 8, none, .cst (.t (.int .i64 0))⟩] [] [3, 6, 7, 8]) c121_8) c121_0)
def c121_10 : ACode :=
  (.seq (.region false [⟨some 3, none, .cst (.nils)⟩] [] [0, 3]) c121_9)
def c121 : ACode :=
  (.seq (.region false [⟨some 2, none, .cst (.nils)⟩] [] [0]) c121_10)
def r121 : List ARes := [.tmp 2]
def n121 : Nat := 19
/- 122 slices.Clone[[]string,string] -/
def c122_0 : ACode :=
  (.seq (.region false [⟨some 5, none, .bsl true 1 [] []⟩,
    ⟨some 6, none, .mv (.s 0)⟩,
    ⟨some 7, none, .app 1 16 (.s 5) (.s 6)⟩,
    ⟨some 2, none, .mv (.s 7)⟩] [] [2]) .ret)
def c122_1 : ACode :=
  (.seq (.region false [⟨some 2, none, .cst (.nils)⟩] [] [2]) .ret)
def c122_2 : ACode :=
  (.cond (.s 4) c122_1 .skip)
def c122_3 : ACode :=
  (.seq (.seq (.region false [⟨some 3, none, .mv (.s 0)⟩,
    ⟨some 4, none, .nw (.eqn false (.s 3))⟩] [] [0, 4]) c122_2) c122_0)
def c122 : ACode :=
  (.seq (.region false [⟨some 2, none, .cst (.nils)⟩] [] [0]) c122_3)
def r122 : List ARes := [.tmp 2]
def n122 : Nat := 8
/- 123 supergraph supergraphref02.ints -/
def c123_0 : ACode :=
  (.seq (.region false [⟨some 4, none, .cst (.t (.int .i64 0))⟩] [] [4]) .ret)
def c123_1 : ACode :=
  (.seq (.region false [⟨some 4, none, .cst (.t (.int .i64 1))⟩] [] [4]) .ret)
def c123_2 : ACode :=
  (.cond (.s 10) c123_1 .skip)
def c123_3 : ACode :=
  (.seq (.seq (.region false [⟨some 8, none, .mv (.s 0)⟩,
    ⟨some 9, none, .mv (.s 1)⟩,
    ⟨some 10, none, .bin .gtr (.s 8) (.s 9)⟩] [] [10]) c123_2) c123_0)
def c123_4 : ACode :=
  (.seq (.region false [⟨some 4, none, .cst (.t (.int .i64 (-1)))⟩] [] [4]) .ret)
def c123_5 : ACode :=
  (.cond (.s 7) c123_4 .skip)
def c123_6 : ACode :=
  (.seq (.seq (.region false [⟨some 5, none, .mv (.s 0)⟩,
    ⟨some 6, none, .mv (.s 1)⟩,
    ⟨some 7, none, .bin .lss (.s 5) (.s 6)⟩] [] [0, 1, 7]) c123_5) c123_3)
def c123 : ACode :=
  (.seq (.region false [⟨some 4, none, .cst (.t (.int .i64 0))⟩] [] [0, 1]) c123_6)
def r123 : List ARes := [.tmp 4]
def n123 : Nat := 11
/- 124 supergraph supergraphref02.strings -/
def c124_0 : ACode :=
  (.seq (.region false [⟨some 4, none, .cst (.t (.int .i64 0))⟩] [] [4]) .ret)
def c124_1 : ACode :=
  (.seq (.region false [⟨some 4, none, .cst (.t (.int .i64 1))⟩] [] [4]) .ret)
def c124_2 : ACode :=
  (.cond (.s 10) c124_1 .skip)
def c124_3 : ACode :=
  (.seq (.seq (.region false [⟨some 8, none, .mv (.s 0)⟩,
    ⟨some 9, none, .mv (.s 1)⟩,
    ⟨some 10, none, .bin .gtr (.s 8) (.s 9)⟩] [] [10]) c124_2) c124_0)
def c124_4 : ACode :=
  (.seq (.region false [⟨some 4, none, .cst (.t (.int .i64 (-1)))⟩] [] [4]) .ret)
def c124_5 : ACode :=
  (.cond (.s 7) c124_4 .skip)
def c124_6 : ACode :=
  (.seq (.seq (.region false [⟨some 5, none, .mv (.s 0)⟩,
    ⟨some 6, none, .mv (.s 1)⟩,
    ⟨some 7, none, .bin .lss (.s 5) (.s 6)⟩] [] [0, 1, 7]) c124_5) c124_3)
def c124 : ACode :=
  (.seq (.region false [⟨some 4, none, .cst (.t (.int .i64 0))⟩] [] [0, 1]) c124_6)
def r124 : List ARes := [.tmp 4]
def n124 : Nat := 11
/- 125 supergraph supergraphref02.key -/
def c125_0 : ACode :=
  (.seq (.region false [⟨some 4, none, .cst (.t (.str []))⟩] [] [4]) .ret)
def c125_1 : ACode :=
  (.seq (.region false [⟨some 10, none, .fa 4 (.s 2)⟩,
    ⟨some 11, none, .ld false 1 (.s 10)⟩,
    ⟨some 12, none, .mv (.s 1)⟩,
    ⟨some 13, none, .ia 1 (.s 11) (.s 12)⟩,
    ⟨some 14, none, .ld false 1 (.s 13)⟩,
    ⟨some 4, none, .mv (.s 14)⟩] [] [4]) .ret)
def c125_2 : ACode :=
  (.cond (.s 9) c125_1 .skip)
def c125_3 : ACode :=
  (.seq (.seq (.region false [⟨some 5, none, .mv (.s 1)⟩,
    ⟨some 6, none, .fa 4 (.s 2)⟩,
    ⟨some 7, none, .ld false 1 (.s 6)⟩,
    ⟨some 8, none, .len (.s 7)⟩,
    ⟨some 9, none, .bin .lss (.s 5) (.s 8)⟩] [] [1, 2, 9]) c125_2) c125_0)
def c125 : ACode :=
  (.seq (.region false [⟨some 2, none, .box 5 (.s 0)⟩,
    ⟨some 4, none, .cst (.t (.str []))⟩] [] [1, 2]) c125_3)
def r125 : List ARes := [.tmp 4]
def n125 : Nat := 15
/- 126 slices.ContainsFunc[[][]supergraph api.Hop,[]supergraph api.Hop] -/
def c126_0 : ACode :=
  (.seq (.region false [⟨some 5, none, .mv (.s 0)⟩,
    ⟨some 6, none, .mv (.s 1)⟩,
    ⟨some 7, none, .call 133 [(.s 5), (.s 6)]⟩,
    ⟨some 8, none, .bin .geq (.s 7) (.c (.t (.int .i64 0)))⟩,
    ⟨some 4, none, .mv (.s 8)⟩] [] [4]) .ret)
def c126 : ACode :=
  (.seq (.region false [⟨some 4, none, .cst (.t (.bool false))⟩] [] [0, 1]) c126_0)
def r126 : List ARes := [.tmp 4]
def n126 : Nat := 9
/- 127 (supergraph auth.marker).gone 1 -/
def c127_0 : ACode :=
  (.seq (.region false [⟨some 4, none, .mv (.s 0)⟩,
    ⟨some 5, none, .ld false 1 (.s 1)⟩,
    ⟨some 6, none, .call 128 [(.s 4), (.s 5)]⟩,
    ⟨some 3, none, .mv (.s 6)⟩] [] [3]) .ret)
def c127 : ACode :=
  (.seq (.region false [⟨some 3, none, .cst (.t (.bool false))⟩] [] [0, 1]) c127_0)
def r127 : List ARes := [.tmp 3]
def n127 : Nat := 7
/- 128 slices.Equal[[]supergraph api.Hop,supergraph api.Hop] -/
def c128_0 : ACode :=
  (.seq (.region false [⟨some 4, none, .cst (.t (.bool true))⟩] [] [4]) .ret)
def c128_1 : ACode :=
  (.region false [⟨some 25, none, .bin .add (.s 13) (.c (.t (.int .i64 1)))⟩,
    ⟨some 13, none, .mv (.s 25)⟩] [] [0, 1, 12, 13])
def c128_2 : ACode :=
  (.seq (.region false [⟨some 4, none, .cst (.t (.bool false))⟩] [] [4]) .ret)
def c128_3 : ACode :=
  (.cond (.s 24) c128_2 .skip)
def c128_4 : ACode :=
  (.seq (.region true [⟨some 16, none, .mv (.s 0)⟩,
    ⟨some 17, none, .mv (.s 5)⟩,
    ⟨some 18, none, .ia 2 (.s 16) (.s 17)⟩,
    ⟨some 19, none, .ld true 2 (.s 18)⟩,
    ⟨some 20, none, .mv (.s 1)⟩,
    ⟨some 21, none, .mv (.s 5)⟩,
    ⟨some 22, none, .ia 2 (.s 20) (.s 21)⟩,
    ⟨some 23, none, .ld true 2 (.s 22)⟩,
    ⟨some 24, none, .nw (.eqst true [.str, .str] (.s 19) (.s 23))⟩] [[], [], [0, 1], [2], [], [], [4, 5], [6], [3, 7]] [0, 1, 12, 13, 24]) c128_3)
def c128_5 : ACode :=
  (.seq (.region false [⟨some 15, none, .mv (.s 13)⟩,
    ⟨some 5, none, .mv (.s 15)⟩] [] [0, 1, 5, 12, 13]) c128_4)
def c128_6 : ACode :=
  (.seq (.block 1 c128_5) c128_1)
def c128_7 : ACode :=
  (.seq (.cond (.s 14) .skip (.exit 0)) c128_6)
def c128_8 : ACode :=
  (.seq (.region false [⟨some 14, none, .bin .lss (.s 13) (.s 12)⟩] [] [0, 1, 12, 13, 14]) c128_7)
def c128_9 : ACode :=
  (.loop c128_8)
def c128_10 : ACode :=
  (.block 0 c128_9)
def c128_11 : ACode :=
  (.seq (.seq (.region false [⟨some 11, none, .mv (.s 0)⟩,
    ⟨some 12, none, .len (.s 11)⟩,
    ⟨some 13, none, .cst (.t (.int .i64 0))⟩] [] [0, 1, 12, 13]) c128_10) c128_0)
def c128_12 : ACode :=
  (.seq (.region false [⟨some 4, none, .cst (.t (.bool false))⟩] [] [4]) .ret)
def c128_13 : ACode :=
  (.cond (.s 10) c128_12 .skip)
def c128_14 : ACode :=
  (.seq (.seq (.region false [⟨some 6, none, .mv (.s 0)⟩,
    ⟨some 7, none, .len (.s 6)⟩,
    ⟨some 8, none, .mv (.s 1)⟩,
    ⟨some 9, none, .len (.s 8)⟩,
    ⟨some 10, none, .bin .neq (.s 7) (.s 9)⟩] [] [0, 1, 10]) c128_13) c128_11)
def c128 : ACode :=
  (.seq (.region false [⟨some 4, none, .cst (.t (.bool false))⟩] [] [0, 1]) c128_14)
def r128 : List ARes := [.tmp 4]
def n128 : Nat := 26
/- 132 supergraph supergraphref02.copies -/
def c132_0 : ACode :=
  (.seq (.region false [⟨some 19, none, .mv (.s 3)⟩,
    ⟨some 2, none, .mv (.s 19)⟩] [] [2]) .ret)
def c132_1 : ACode :=
  (.region false [⟨some 9, none, .mv (.s 4)⟩,
    ⟨some 10, none, .bin .add (.s 9) (.c (.t (.int .i64 1)))⟩,
    ⟨some 4, none, .mv (.s 10)⟩] [] [0, 3, 4])
def c132_2 : ACode :=
  (.region false [⟨some 11, none, .mv (.s 3)⟩,
    ⟨some 12, none, .mv (.s 0)⟩,
    ⟨some 13, none, .mv (.s 4)⟩,
    ⟨some 14, none, .ia 5 (.s 12) (.s 13)⟩,
    ⟨some 15, none, .ld true 5 (.s 14)⟩,
    ⟨some 16, none, .call 116 [(.s 15)]⟩,
    ⟨some 17, none, .bsl false 5 [[.int .i64 0, .int .i64 0, .str [], .lst [], .lst []]] [(0, (.s 16))]⟩,
    ⟨some 18, none, .app 5 80 (.s 11) (.s 17)⟩,
    ⟨some 3, none, .mv (.s 18)⟩] [] [0, 3, 4])
def c132_3 : ACode :=
  (.seq (.block 1 c132_2) c132_1)
def c132_4 : ACode :=
  (.cond (.s 8) .skip (.exit 0))
def c132_5 : ACode :=
  (.seq (.seq (.region false [⟨some 5, none, .mv (.s 4)⟩,
    ⟨some 6, none, .mv (.s 0)⟩,
    ⟨some 7, none, .len (.s 6)⟩,
    ⟨some 8, none, .bin .lss (.s 5) (.s 7)⟩] [] [0, 3, 4, 8]) c132_4) c132_3)
def c132_6 : ACode :=
  (.loop c132_5)
def c132_7 : ACode :=
  (.block 0 c132_6)
def c132_8 : ACode :=
  (.seq (.seq (.region false [⟨some 4, none, .cst (.t (.int .i64 0))⟩] [] [0, 3, 4]) c132_7) c132_0)
def c132_9 : ACode :=
  (.seq (.region false [⟨some 3, none, .cst (.nils)⟩] [] [0, 3]) c132_8)
def c132 : ACode :=
  (.seq (.region false [⟨some 2, none, .cst (.nils)⟩] [] [0]) c132_9)
def r132 : List ARes := [.tmp 2]
def n132 : Nat := 20
/- 133 slices.IndexFunc[[][]supergraph api.Hop,[]supergraph api.Hop] -/
def c133_0 : ACode :=
  (.seq (.region false [⟨some 4, none, .cst (.t (.int .i64 (-1)))⟩] [] [4]) .ret)
def c133_1 : ACode :=
  (.region false [⟨some 18, none, .bin .add (.s 8) (.c (.t (.int .i64 1)))⟩,
    ⟨some 8, none, .mv (.s 18)⟩] [] [0, 1, 7, 8])
def c133_2 : ACode :=
  (.seq (.region false [⟨some 17, none, .mv (.s 5)⟩,
    ⟨some 4, none, .mv (.s 17)⟩] [] [4]) .ret)
def c133_3 : ACode :=
  (.cond (.s 16) c133_2 .skip)
def c133_4 : ACode :=
  (.seq (.region false [⟨some 11, none, .mv (.s 1)⟩,
    ⟨some 12, none, .mv (.s 0)⟩,
    ⟨some 13, none, .mv (.s 5)⟩,
    ⟨some 14, none, .ia 1 (.s 12) (.s 13)⟩,
    ⟨some 15, none, .ld false 1 (.s 14)⟩,
    ⟨some 16, none, .callv (.s 11) [(.s 15)]⟩] [] [0, 1, 5, 7, 8, 16]) c133_3)
def c133_5 : ACode :=
  (.seq (.region false [⟨some 10, none, .mv (.s 8)⟩,
    ⟨some 5, none, .mv (.s 10)⟩] [] [0, 1, 5, 7, 8]) c133_4)
def c133_6 : ACode :=
  (.seq (.block 1 c133_5) c133_1)
def c133_7 : ACode :=
  (.seq (.cond (.s 9) .skip (.exit 0)) c133_6)
def c133_8 : ACode :=
  (.seq (.region false [⟨some 9, none, .bin .lss (.s 8) (.s 7)⟩] [] [0, 1, 7, 8, 9]) c133_7)
def c133_9 : ACode :=
  (.loop c133_8)
def c133_10 : ACode :=
  (.block 0 c133_9)
def c133_11 : ACode :=
  (.seq (.seq (.region false [⟨some 6, none, .mv (.s 0)⟩,
    ⟨some 7, none, .len (.s 6)⟩,
    ⟨some 8, none, .cst (.t (.int .i64 0))⟩] [] [0, 1, 7, 8]) c133_10) c133_0)
def c133 : ACode :=
  (.seq (.region false [⟨some 4, none, .cst (.t (.int .i64 0))⟩] [] [0, 1]) c133_11)
def r133 : List ARes := [.tmp 4]
def n133 : Nat := 19

end Go.GB.C43
