/-
  C52Code: the code of chapter 52's functions as abstract code (printed by program).
-/
import Derived.Test.YticfklecmdjklaaGbW
namespace Go.GB.C52
open Go.GB
/- 3 supergraph supergraphlaw52.BehaviorRight -/
def c3_0 : ACode :=
  (.seq (.region true [⟨some 3, none, .ld true 6 (.s 1)⟩,
    ⟨some 4, none, .call 8 [(.s 3)]⟩,
    ⟨some 5, none, .ld true 6 (.s 1)⟩,
    ⟨some 6, none, .call 9 [(.s 5)]⟩,
    ⟨some 7, none, .eqb false (.s 4) (.s 6)⟩,
    ⟨some 8, none, .mv (.s 7)⟩,
    ⟨some 9, some (8, true), .call 10 []⟩,
    ⟨some 10, none, .pick (.s 8) (.s 9) (.c (.t (.bool false)))⟩,
    ⟨some 2, none, .mv (.s 10)⟩] [[], [0], [], [2, 1], [1, 3], [4, 3], [5, 5], [5, 6], [7, 6, 0, 1, 2, 3, 4, 5, 6, 7]] [2]) .ret)
def c3 : ACode :=
  (.seq (.region false [⟨some 1, none, .box 6 (.s 0)⟩,
    ⟨some 2, none, .cst (.t (.bool false))⟩] [] [1]) c3_0)
def r3 : List ARes := [.tmp 2]
def n3 : Nat := 11
/- 4 supergraph supergraphlaw52.BehaviorNow -/
def c4_0 : ACode :=
  (.seq (.region false [⟨some 17, none, .mv (.s 0)⟩,
    ⟨some 18, none, .mv (.s 7)⟩,
    ⟨some 19, none, .mv (.s 8)⟩,
    ⟨some 20, none, .call 11 [(.s 17), (.s 18), (.s 19)]⟩,
    ⟨some 21, none, .mv (.s 0)⟩,
    ⟨some 22, none, .mv (.s 7)⟩,
    ⟨some 23, none, .mv (.s 8)⟩,
    ⟨some 24, none, .call 12 [(.s 21), (.s 22), (.s 23)]⟩,
    ⟨some 25, none, .eqb false (.s 20) (.s 24)⟩,
    ⟨some 26, none, .mv (.s 25)⟩,
    ⟨some 27, some (26, true), .mv (.s 0)⟩,
    ⟨some 28, some (26, true), .mv (.s 7)⟩,
    ⟨some 29, some (26, true), .mv (.s 8)⟩,
    ⟨some 30, some (26, true), .call 13 [(.s 27), (.s 28), (.s 29)]⟩,
    ⟨some 31, some (26, true), .mv (.s 0)⟩,
    ⟨some 32, some (26, true), .mv (.s 7)⟩,
    ⟨some 33, some (26, true), .mv (.s 8)⟩,
    ⟨some 34, some (26, true), .call 14 [(.s 31), (.s 32), (.s 33)]⟩,
    ⟨some 35, some (26, true), .bin .eql (.s 30) (.s 34)⟩,
    ⟨some 36, none, .pick (.s 26) (.s 35) (.c (.t (.bool false)))⟩,
    ⟨some 37, none, .mv (.s 36)⟩,
    ⟨some 38, some (37, true), .mv (.s 0)⟩,
    ⟨some 39, some (37, true), .mv (.s 7)⟩,
    ⟨some 40, some (37, true), .mv (.s 8)⟩,
    ⟨some 41, some (37, true), .mv (.s 2)⟩,
    ⟨some 42, some (37, true), .call 15 [(.s 38), (.s 39), (.s 40), (.s 41)]⟩,
    ⟨some 43, some (37, true), .mv (.s 0)⟩,
    ⟨some 44, some (37, true), .mv (.s 7)⟩,
    ⟨some 45, some (37, true), .mv (.s 8)⟩,
    ⟨some 46, some (37, true), .mv (.s 2)⟩,
    ⟨some 47, some (37, true), .call 16 [(.s 43), (.s 44), (.s 45), (.s 46)]⟩,
    ⟨some 48, some (37, true), .eqb false (.s 42) (.s 47)⟩,
    ⟨some 49, none, .pick (.s 37) (.s 48) (.c (.t (.bool false)))⟩,
    ⟨some 50, none, .mv (.s 49)⟩,
    ⟨some 51, some (50, true), .call 10 []⟩,
    ⟨some 52, none, .pick (.s 50) (.s 51) (.c (.t (.bool false)))⟩,
    ⟨some 6, none, .mv (.s 52)⟩] [] [6]) .ret)
def c4_1 : ACode :=
  (.seq (.region true [⟨some 13, none, .iarr 2 1 (.s 4) (.c (.t (.int .i64 0)))⟩,
    ⟨some 14, none, .ld false 1 (.s 13)⟩,
    ⟨some 15, none, .iarr 2 1 (.s 4) (.c (.t (.int .i64 1)))⟩,
    ⟨some 16, none, .ld false 1 (.s 15)⟩,
    ⟨some 7, none, .mv (.s 14)⟩,
    ⟨some 8, none, .mv (.s 16)⟩] [[], [0], [], [2], [1, 0, 1], [3, 4, 0, 1, 2, 3, 4]] [0, 2, 7, 8]) c4_0)
def c4_2 : ACode :=
  (.seq (.region false [⟨some 12, none, .call 10 []⟩,
    ⟨some 6, none, .mv (.s 12)⟩] [] [6]) .ret)
def c4_3 : ACode :=
  (.cond (.s 11) c4_2 .skip)
def c4_4 : ACode :=
  (.seq (.seq (.region false [⟨some 9, none, .mv (.s 0)⟩,
    ⟨some 10, none, .len (.s 9)⟩,
    ⟨some 11, none, .bin .gtr (.s 10) (.c (.t (.int .i64 200)))⟩] [] [0, 2, 4, 11]) c4_3) c4_1)
def c4 : ACode :=
  (.seq (.region false [⟨some 4, none, .box 2 (.s 1)⟩,
    ⟨some 6, none, .cst (.t (.bool false))⟩] [] [0, 2, 4]) c4_4)
def r4 : List ARes := [.tmp 6]
def n4 : Nat := 53
/- 5 supergraph supergraphlaw52.BehaviorNext -/
def c5_0 : ACode :=
  (.seq (.region false [⟨some 25, none, .mv (.s 5)⟩,
    ⟨some 26, none, .mv (.s 7)⟩,
    ⟨some 27, none, .bin .eql (.s 25) (.s 26)⟩,
    ⟨some 28, none, .mv (.s 27)⟩,
    ⟨some 29, some (28, true), .mv (.s 6)⟩,
    ⟨some 30, some (28, true), .mv (.s 8)⟩,
    ⟨some 31, some (28, true), .eqb false (.s 29) (.s 30)⟩,
    ⟨some 32, none, .pick (.s 28) (.s 31) (.c (.t (.bool false)))⟩,
    ⟨some 33, none, .mv (.s 32)⟩,
    ⟨some 34, some (33, true), .call 10 []⟩,
    ⟨some 35, none, .pick (.s 33) (.s 34) (.c (.t (.bool false)))⟩,
    ⟨some 4, none, .mv (.s 35)⟩] [] [4]) .ret)
def c5_1 : ACode :=
  (.seq (.region false [⟨some 20, none, .mv (.s 0)⟩,
    ⟨some 21, none, .mv (.s 1)⟩,
    ⟨some 22, none, .call 18 [(.s 20), (.s 21)]⟩,
    ⟨some 19, none, .mv (.s 22)⟩,
    ⟨some 23, none, .ext (.s 19) 0⟩,
    ⟨some 24, none, .ext (.s 19) 1⟩,
    ⟨some 7, none, .mv (.s 23)⟩,
    ⟨some 8, none, .mv (.s 24)⟩] [] [5, 6, 7, 8]) c5_0)
def c5_2 : ACode :=
  (.seq (.region false [⟨some 14, none, .mv (.s 0)⟩,
    ⟨some 15, none, .mv (.s 1)⟩,
    ⟨some 16, none, .call 17 [(.s 14), (.s 15)]⟩,
    ⟨some 13, none, .mv (.s 16)⟩,
    ⟨some 17, none, .ext (.s 13) 0⟩,
    ⟨some 18, none, .ext (.s 13) 1⟩,
    ⟨some 5, none, .mv (.s 17)⟩,
    ⟨some 6, none, .mv (.s 18)⟩] [] [0, 1, 5, 6]) c5_1)
def c5_3 : ACode :=
  (.seq (.region false [⟨some 12, none, .call 10 []⟩,
    ⟨some 4, none, .mv (.s 12)⟩] [] [4]) .ret)
def c5_4 : ACode :=
  (.cond (.s 11) c5_3 .skip)
def c5_5 : ACode :=
  (.seq (.seq (.region false [⟨some 9, none, .mv (.s 0)⟩,
    ⟨some 10, none, .len (.s 9)⟩,
    ⟨some 11, none, .bin .gtr (.s 10) (.c (.t (.int .i64 200)))⟩] [] [0, 1, 11]) c5_4) c5_2)
def c5 : ACode :=
  (.seq (.region false [⟨some 4, none, .cst (.t (.bool false))⟩] [] [0, 1]) c5_5)
def r5 : List ARes := [.tmp 4]
def n5 : Nat := 36
/- 6 supergraph supergraphlaw52.BehaviorConstant -/
def c6_0 : ACode :=
  (.seq (.region false [⟨some 45, none, .mv (.s 0)⟩,
    ⟨some 46, none, .mv (.s 7)⟩,
    ⟨some 47, none, .mv (.s 8)⟩,
    ⟨some 48, none, .call 11 [(.s 45), (.s 46), (.s 47)]⟩,
    ⟨some 49, none, .mv (.s 0)⟩,
    ⟨some 50, none, .mv (.s 7)⟩,
    ⟨some 51, none, .mv (.s 9)⟩,
    ⟨some 52, none, .call 11 [(.s 49), (.s 50), (.s 51)]⟩,
    ⟨some 53, none, .eqb false (.s 48) (.s 52)⟩,
    ⟨some 54, none, .mv (.s 53)⟩,
    ⟨some 55, some (54, true), .mv (.s 0)⟩,
    ⟨some 56, some (54, true), .mv (.s 7)⟩,
    ⟨some 57, some (54, true), .mv (.s 8)⟩,
    ⟨some 58, some (54, true), .call 13 [(.s 55), (.s 56), (.s 57)]⟩,
    ⟨some 59, some (54, true), .mv (.s 0)⟩,
    ⟨some 60, some (54, true), .mv (.s 7)⟩,
    ⟨some 61, some (54, true), .mv (.s 9)⟩,
    ⟨some 62, some (54, true), .call 13 [(.s 59), (.s 60), (.s 61)]⟩,
    ⟨some 63, some (54, true), .bin .eql (.s 58) (.s 62)⟩,
    ⟨some 64, none, .pick (.s 54) (.s 63) (.c (.t (.bool false)))⟩,
    ⟨some 65, none, .mv (.s 64)⟩,
    ⟨some 66, some (65, true), .mv (.s 0)⟩,
    ⟨some 67, some (65, true), .mv (.s 7)⟩,
    ⟨some 68, some (65, true), .mv (.s 8)⟩,
    ⟨some 69, some (65, true), .mv (.s 2)⟩,
    ⟨some 70, some (65, true), .call 15 [(.s 66), (.s 67), (.s 68), (.s 69)]⟩,
    ⟨some 71, some (65, true), .mv (.s 0)⟩,
    ⟨some 72, some (65, true), .mv (.s 7)⟩,
    ⟨some 73, some (65, true), .mv (.s 9)⟩,
    ⟨some 74, some (65, true), .mv (.s 2)⟩,
    ⟨some 75, some (65, true), .call 15 [(.s 71), (.s 72), (.s 73), (.s 74)]⟩,
    ⟨some 76, some (65, true), .eqb false (.s 70) (.s 75)⟩,
    ⟨some 77, none, .pick (.s 65) (.s 76) (.c (.t (.bool false)))⟩,
    ⟨some 78, none, .mv (.s 77)⟩,
    ⟨some 79, some (78, true), .call 10 []⟩,
    ⟨some 80, none, .pick (.s 78) (.s 79) (.c (.t (.bool false)))⟩,
    ⟨some 6, none, .mv (.s 80)⟩] [] [6]) .ret)
def c6_1 : ACode :=
  (.seq (.region false [⟨some 39, none, .mv (.s 10)⟩,
    ⟨some 40, none, .mv (.s 8)⟩,
    ⟨some 41, none, .bin .gtr (.s 39) (.s 40)⟩,
    ⟨some 42, none, .mv (.s 41)⟩,
    ⟨some 43, some (42, true), .call 10 []⟩,
    ⟨some 44, none, .pick (.s 42) (.s 43) (.c (.t (.bool false)))⟩,
    ⟨some 6, none, .mv (.s 44)⟩] [] [6]) .ret)
def c6_2 : ACode :=
  (.cond (.s 38) c6_1 .skip)
def c6_3 : ACode :=
  (.seq (.seq (.region false [⟨some 33, none, .mv (.s 11)⟩,
    ⟨some 34, none, .mv (.s 33)⟩,
    ⟨some 35, some (34, true), .mv (.s 9)⟩,
    ⟨some 36, some (34, true), .mv (.s 10)⟩,
    ⟨some 37, some (34, true), .bin .geq (.s 35) (.s 36)⟩,
    ⟨some 38, none, .pick (.s 34) (.s 37) (.c (.t (.bool false)))⟩] [] [0, 2, 7, 8, 9, 10, 38]) c6_2) c6_0)
def c6_4 : ACode :=
  (.seq (.region false [⟨some 28, none, .mv (.s 0)⟩,
    ⟨some 29, none, .mv (.s 8)⟩,
    ⟨some 30, none, .call 17 [(.s 28), (.s 29)]⟩,
    ⟨some 27, none, .mv (.s 30)⟩,
    ⟨some 31, none, .ext (.s 27) 0⟩,
    ⟨some 32, none, .ext (.s 27) 1⟩,
    ⟨some 10, none, .mv (.s 31)⟩,
    ⟨some 11, none, .mv (.s 32)⟩] [] [0, 2, 7, 8, 9, 10, 11]) c6_3)
def c6_5 : ACode :=
  (.seq (.region false [⟨some 26, none, .call 10 []⟩,
    ⟨some 6, none, .mv (.s 26)⟩] [] [6]) .ret)
def c6_6 : ACode :=
  (.cond (.s 25) c6_5 .skip)
def c6_7 : ACode :=
  (.seq (.seq (.region false [⟨some 18, none, .mv (.s 0)⟩,
    ⟨some 19, none, .len (.s 18)⟩,
    ⟨some 20, none, .bin .gtr (.s 19) (.c (.t (.int .i64 200)))⟩,
    ⟨some 21, none, .mv (.s 20)⟩,
    ⟨some 22, some (21, false), .mv (.s 9)⟩,
    ⟨some 23, some (21, false), .mv (.s 8)⟩,
    ⟨some 24, some (21, false), .bin .lss (.s 22) (.s 23)⟩,
    ⟨some 25, none, .pick (.s 21) (.c (.t (.bool true))) (.s 24)⟩] [] [0, 2, 7, 8, 9, 25]) c6_6) c6_4)
def c6_8 : ACode :=
  (.seq (.region true [⟨some 12, none, .iarr 3 1 (.s 4) (.c (.t (.int .i64 0)))⟩,
    ⟨some 13, none, .ld false 1 (.s 12)⟩,
    ⟨some 14, none, .iarr 3 1 (.s 4) (.c (.t (.int .i64 1)))⟩,
    ⟨some 15, none, .ld false 1 (.s 14)⟩,
    ⟨some 16, none, .iarr 3 1 (.s 4) (.c (.t (.int .i64 2)))⟩,
    ⟨some 17, none, .ld false 1 (.s 16)⟩,
    ⟨some 7, none, .mv (.s 13)⟩,
    ⟨some 8, none, .mv (.s 15)⟩,
    ⟨some 9, none, .mv (.s 17)⟩] [[], [0], [], [2], [], [4], [1, 0, 1], [3, 6, 0, 1, 2, 3, 6], [5, 7, 0, 1, 2, 3, 4, 5, 6, 7]] [0, 2, 7, 8, 9]) c6_7)
def c6 : ACode :=
  (.seq (.region false [⟨some 4, none, .box 3 (.s 1)⟩,
    ⟨some 6, none, .cst (.t (.bool false))⟩] [] [0, 2, 4]) c6_8)
def r6 : List ARes := [.tmp 6]
def n6 : Nat := 81
/- 7 supergraph supergraphlaw52.BehaviorLists -/
def c7_0 : ACode :=
  (.seq (.region false [⟨some 80, none, .mv (.s 9)⟩,
    ⟨some 81, none, .mv (.s 7)⟩,
    ⟨some 82, none, .mv (.s 8)⟩,
    ⟨some 83, none, .call 13 [(.s 80), (.s 81), (.s 82)]⟩,
    ⟨some 84, none, .mv (.s 0)⟩,
    ⟨some 85, none, .mv (.s 7)⟩,
    ⟨some 86, none, .mv (.s 8)⟩,
    ⟨some 87, none, .call 13 [(.s 84), (.s 85), (.s 86)]⟩,
    ⟨some 88, none, .mv (.s 1)⟩,
    ⟨some 89, none, .mv (.s 7)⟩,
    ⟨some 90, none, .mv (.s 8)⟩,
    ⟨some 91, none, .call 13 [(.s 88), (.s 89), (.s 90)]⟩,
    ⟨some 92, none, .maxi (.s 87) (.s 91)⟩,
    ⟨some 93, none, .bin .eql (.s 83) (.s 92)⟩,
    ⟨some 94, none, .mv (.s 93)⟩,
    ⟨some 95, some (94, true), .call 10 []⟩,
    ⟨some 96, none, .pick (.s 94) (.s 95) (.c (.t (.bool false)))⟩,
    ⟨some 6, none, .mv (.s 96)⟩] [] [6]) .ret)
def c7_1 : ACode :=
  (.region false [⟨some 48, none, .mv (.s 10)⟩,
    ⟨some 49, none, .bin .add (.s 48) (.c (.t (.int .i64 1)))⟩,
    ⟨some 10, none, .mv (.s 49)⟩] [] [0, 1, 7, 8, 9, 10])
def c7_2 : ACode :=
  (.seq (.region false [⟨some 6, none, .cst (.t (.bool false))⟩] [] [6]) .ret)
def c7_3 : ACode :=
  (.cond (.s 79) c7_2 .skip)
def c7_4 : ACode :=
  (.seq (.region true [⟨some 50, none, .mv (.s 9)⟩,
    ⟨some 51, none, .mv (.s 7)⟩,
    ⟨some 52, none, .mv (.s 8)⟩,
    ⟨some 53, none, .mv (.s 9)⟩,
    ⟨some 54, none, .mv (.s 10)⟩,
    ⟨some 55, none, .ia 6 (.s 53) (.s 54)⟩,
    ⟨some 56, none, .fa 5 (.s 55)⟩,
    ⟨some 57, none, .ld false 1 (.s 56)⟩,
    ⟨some 58, none, .call 15 [(.s 50), (.s 51), (.s 52), (.s 57)]⟩,
    ⟨some 59, none, .mv (.s 0)⟩,
    ⟨some 60, none, .mv (.s 7)⟩,
    ⟨some 61, none, .mv (.s 8)⟩,
    ⟨some 62, none, .mv (.s 9)⟩,
    ⟨some 63, none, .mv (.s 10)⟩,
    ⟨some 64, none, .ia 6 (.s 62) (.s 63)⟩,
    ⟨some 65, none, .fa 5 (.s 64)⟩,
    ⟨some 66, none, .ld false 1 (.s 65)⟩,
    ⟨some 67, none, .call 15 [(.s 59), (.s 60), (.s 61), (.s 66)]⟩,
    ⟨some 68, none, .mv (.s 67)⟩,
    ⟨some 69, some (68, false), .mv (.s 1)⟩,
    ⟨some 70, some (68, false), .mv (.s 7)⟩,
    ⟨some 71, some (68, false), .mv (.s 8)⟩,
    ⟨some 72, some (68, false), .mv (.s 9)⟩,
    ⟨some 73, some (68, false), .mv (.s 10)⟩,
    ⟨some 74, some (68, false), .ia 6 (.s 72) (.s 73)⟩,
    ⟨some 75, some (68, false), .fa 5 (.s 74)⟩,
    ⟨some 76, some (68, false), .ld false 1 (.s 75)⟩,
    ⟨some 77, some (68, false), .call 15 [(.s 69), (.s 70), (.s 71), (.s 76)]⟩,
    ⟨some 78, none, .pick (.s 68) (.c (.t (.bool true))) (.s 77)⟩,
    ⟨some 79, none, .eqb true (.s 58) (.s 78)⟩] [[], [], [], [], [], [3, 4], [5], [6], [0, 1, 2, 7], [], [], [], [], [], [12, 13], [14], [15], [9, 10, 11, 16, 8], [17, 17], [18], [18], [18], [18], [18], [22, 23, 18], [24, 18], [25, 18], [19, 20, 21, 26, 18, 18], [18, 27], [8, 28]] [0, 1, 7, 8, 9, 10, 79]) c7_3)
def c7_5 : ACode :=
  (.seq (.block 1 c7_4) c7_1)
def c7_6 : ACode :=
  (.cond (.s 47) .skip (.exit 0))
def c7_7 : ACode :=
  (.seq (.seq (.region false [⟨some 44, none, .mv (.s 10)⟩,
    ⟨some 45, none, .mv (.s 9)⟩,
    ⟨some 46, none, .len (.s 45)⟩,
    ⟨some 47, none, .bin .lss (.s 44) (.s 46)⟩] [] [0, 1, 7, 8, 9, 10, 47]) c7_6) c7_5)
def c7_8 : ACode :=
  (.loop c7_7)
def c7_9 : ACode :=
  (.block 0 c7_8)
def c7_10 : ACode :=
  (.seq (.seq (.region false [⟨some 10, none, .cst (.t (.int .i64 0))⟩] [] [0, 1, 7, 8, 9, 10]) c7_9) c7_0)
def c7_11 : ACode :=
  (.seq (.region false [⟨some 6, none, .cst (.t (.bool false))⟩] [] [6]) .ret)
def c7_12 : ACode :=
  (.cond (.s 43) c7_11 .skip)
def c7_13 : ACode :=
  (.seq (.seq (.region false [⟨some 29, none, .mv (.s 9)⟩,
    ⟨some 30, none, .mv (.s 7)⟩,
    ⟨some 31, none, .mv (.s 8)⟩,
    ⟨some 32, none, .call 11 [(.s 29), (.s 30), (.s 31)]⟩,
    ⟨some 33, none, .mv (.s 0)⟩,
    ⟨some 34, none, .mv (.s 7)⟩,
    ⟨some 35, none, .mv (.s 8)⟩,
    ⟨some 36, none, .call 11 [(.s 33), (.s 34), (.s 35)]⟩,
    ⟨some 37, none, .mv (.s 36)⟩,
    ⟨some 38, some (37, false), .mv (.s 1)⟩,
    ⟨some 39, some (37, false), .mv (.s 7)⟩,
    ⟨some 40, some (37, false), .mv (.s 8)⟩,
    ⟨some 41, some (37, false), .call 11 [(.s 38), (.s 39), (.s 40)]⟩,
    ⟨some 42, none, .pick (.s 37) (.c (.t (.bool true))) (.s 41)⟩,
    ⟨some 43, none, .eqb true (.s 32) (.s 42)⟩] [] [0, 1, 7, 8, 9, 43]) c7_12) c7_10)
def c7_14 : ACode :=
  (.seq (.region false [⟨some 24, none, .bsl true 6 [] []⟩,
    ⟨some 25, none, .mv (.s 0)⟩,
    ⟨some 26, none, .app 6 56 (.s 24) (.s 25)⟩,
    ⟨some 27, none, .mv (.s 1)⟩,
    ⟨some 28, none, .app 6 56 (.s 26) (.s 27)⟩,
    ⟨some 9, none, .mv (.s 28)⟩] [] [0, 1, 7, 8, 9]) c7_13)
def c7_15 : ACode :=
  (.seq (.region true [⟨some 20, none, .iarr 2 1 (.s 5) (.c (.t (.int .i64 0)))⟩,
    ⟨some 21, none, .ld false 1 (.s 20)⟩,
    ⟨some 22, none, .iarr 2 1 (.s 5) (.c (.t (.int .i64 1)))⟩,
    ⟨some 23, none, .ld false 1 (.s 22)⟩,
    ⟨some 7, none, .mv (.s 21)⟩,
    ⟨some 8, none, .mv (.s 23)⟩] [[], [0], [], [2], [1, 0, 1], [3, 4, 0, 1, 2, 3, 4]] [0, 1, 7, 8]) c7_14)
def c7_16 : ACode :=
  (.seq (.region false [⟨some 19, none, .call 10 []⟩,
    ⟨some 6, none, .mv (.s 19)⟩] [] [6]) .ret)
def c7_17 : ACode :=
  (.cond (.s 18) c7_16 .skip)
def c7_18 : ACode :=
  (.seq (.seq (.region false [⟨some 11, none, .mv (.s 0)⟩,
    ⟨some 12, none, .len (.s 11)⟩,
    ⟨some 13, none, .bin .gtr (.s 12) (.c (.t (.int .i64 200)))⟩,
    ⟨some 14, none, .mv (.s 13)⟩,
    ⟨some 15, some (14, false), .mv (.s 1)⟩,
    ⟨some 16, some (14, false), .len (.s 15)⟩,
    ⟨some 17, some (14, false), .bin .gtr (.s 16) (.c (.t (.int .i64 200)))⟩,
    ⟨some 18, none, .pick (.s 14) (.c (.t (.bool true))) (.s 17)⟩] [] [0, 1, 5, 18]) c7_17) c7_15)
def c7 : ACode :=
  (.seq (.region false [⟨some 5, none, .box 2 (.s 2)⟩,
    ⟨some 6, none, .cst (.t (.bool false))⟩] [] [0, 1, 5]) c7_18)
def r7 : List ARes := [.tmp 6]
def n7 : Nat := 97
/- 8 supergraph behavior.Right -/
def c8_0 : ACode :=
  (.seq (.region false [⟨some 2, none, .cst (.t (.bool false))⟩] [] [2]) .ret)
def c8_1 : ACode :=
  (.seq (.region false [⟨some 35, none, .fa 4 (.s 1)⟩,
    ⟨some 36, none, .ld false 1 (.s 35)⟩,
    ⟨some 37, none, .bin .eql (.s 36) (.c (.t (.int .i64 0)))⟩,
    ⟨some 38, none, .mv (.s 37)⟩,
    ⟨some 39, some (38, true), .fa 5 (.s 1)⟩,
    ⟨some 40, some (38, true), .ld false 1 (.s 39)⟩,
    ⟨some 41, some (38, true), .bin .eql (.s 40) (.c (.t (.str [])))⟩,
    ⟨some 42, none, .pick (.s 38) (.s 41) (.c (.t (.bool false)))⟩,
    ⟨some 2, none, .mv (.s 42)⟩] [] [2]) .ret)
def c8_2 : ACode :=
  (.seq (.region false [⟨some 45, none, .fa 4 (.s 1)⟩,
    ⟨some 46, none, .ld false 1 (.s 45)⟩,
    ⟨some 47, none, .bin .geq (.s 46) (.c (.t (.int .i64 1)))⟩,
    ⟨some 48, none, .mv (.s 47)⟩,
    ⟨some 49, some (48, true), .fa 4 (.s 1)⟩,
    ⟨some 50, some (48, true), .ld false 1 (.s 49)⟩,
    ⟨some 51, some (48, true), .bin .leq (.s 50) (.c (.t (.int .i64 1099511627776)))⟩,
    ⟨some 52, none, .pick (.s 48) (.s 51) (.c (.t (.bool false)))⟩,
    ⟨some 53, none, .mv (.s 52)⟩,
    ⟨some 54, some (53, true), .fa 5 (.s 1)⟩,
    ⟨some 55, some (53, true), .ld false 1 (.s 54)⟩,
    ⟨some 56, some (53, true), .bin .eql (.s 55) (.c (.t (.str [])))⟩,
    ⟨some 57, none, .pick (.s 53) (.s 56) (.c (.t (.bool false)))⟩,
    ⟨some 2, none, .mv (.s 57)⟩] [] [2]) .ret)
def c8_3 : ACode :=
  (.seq (.region false [⟨some 67, none, .fa 4 (.s 1)⟩,
    ⟨some 68, none, .ld false 1 (.s 67)⟩,
    ⟨some 69, none, .bin .eql (.s 68) (.c (.t (.int .i64 0)))⟩,
    ⟨some 70, none, .mv (.s 69)⟩,
    ⟨some 71, some (70, true), .mv (.s 5)⟩,
    ⟨some 72, none, .pick (.s 70) (.s 71) (.c (.t (.bool false)))⟩,
    ⟨some 73, none, .mv (.s 72)⟩,
    ⟨some 74, some (73, true), .mv (.s 3)⟩,
    ⟨some 75, some (73, true), .call 20 [(.s 74)]⟩,
    ⟨some 76, none, .pick (.s 73) (.s 75) (.c (.t (.bool false)))⟩,
    ⟨some 77, none, .mv (.s 76)⟩,
    ⟨some 78, some (77, true), .mv (.s 4)⟩,
    ⟨some 79, some (77, true), .call 20 [(.s 78)]⟩,
    ⟨some 80, none, .pick (.s 77) (.s 79) (.c (.t (.bool false)))⟩,
    ⟨some 2, none, .mv (.s 80)⟩] [] [2]) .ret)
def c8_4 : ACode :=
  (.seq (.region false [⟨some 61, none, .fa 5 (.s 1)⟩,
    ⟨some 62, none, .ld false 1 (.s 61)⟩,
    ⟨some 63, none, .call 19 [(.s 62), (.c (.t (.str [46])))]⟩,
    ⟨some 60, none, .mv (.s 63)⟩,
    ⟨some 64, none, .ext (.s 60) 0⟩,
    ⟨some 65, none, .ext (.s 60) 1⟩,
    ⟨some 66, none, .ext (.s 60) 2⟩,
    ⟨some 3, none, .mv (.s 64)⟩,
    ⟨some 4, none, .mv (.s 65)⟩,
    ⟨some 5, none, .mv (.s 66)⟩] [] [1, 3, 4, 5]) c8_3)
def c8_5 : ACode :=
  (.cond (.s 58) c8_4 .skip)
def c8_6 : ACode :=
  (.seq (.region false [⟨some 59, none, .bin .eql (.s 32) (.c (.t (.int .i64 3)))⟩,
    ⟨some 58, none, .mv (.s 59)⟩] [] [1, 58]) c8_5)
def c8_7 : ACode :=
  (.cond (.s 43) c8_2 c8_6)
def c8_8 : ACode :=
  (.seq (.region false [⟨some 44, none, .bin .eql (.s 32) (.c (.t (.int .i64 2)))⟩,
    ⟨some 43, none, .mv (.s 44)⟩] [] [1, 32, 43]) c8_7)
def c8_9 : ACode :=
  (.cond (.s 33) c8_1 c8_8)
def c8_10 : ACode :=
  (.seq (.region false [⟨some 34, none, .bin .eql (.s 32) (.c (.t (.int .i64 1)))⟩,
    ⟨some 33, none, .mv (.s 34)⟩] [] [1, 32, 33]) c8_9)
def c8_11 : ACode :=
  (.block 0 c8_10)
def c8_12 : ACode :=
  (.seq (.seq (.region false [⟨some 31, none, .fa 1 (.s 1)⟩,
    ⟨some 32, none, .ld false 1 (.s 31)⟩] [] [1, 32]) c8_11) c8_0)
def c8_13 : ACode :=
  (.seq (.region false [⟨some 2, none, .cst (.t (.bool false))⟩] [] [2]) .ret)
def c8_14 : ACode :=
  (.cond (.s 30) c8_13 .skip)
def c8_15 : ACode :=
  (.seq (.seq (.region false [⟨some 6, none, .fa 0 (.s 1)⟩,
    ⟨some 7, none, .ld false 1 (.s 6)⟩,
    ⟨some 8, none, .bin .lss (.s 7) (.c (.t (.int .i64 0)))⟩,
    ⟨some 9, none, .mv (.s 8)⟩,
    ⟨some 10, some (9, false), .fa 0 (.s 1)⟩,
    ⟨some 11, some (9, false), .ld false 1 (.s 10)⟩,
    ⟨some 12, some (9, false), .bin .geq (.s 11) (.c (.t (.int .i64 8)))⟩,
    ⟨some 13, none, .pick (.s 9) (.c (.t (.bool true))) (.s 12)⟩,
    ⟨some 14, none, .mv (.s 13)⟩,
    ⟨some 15, some (14, false), .fa 2 (.s 1)⟩,
    ⟨some 16, some (14, false), .ld false 1 (.s 15)⟩,
    ⟨some 17, some (14, false), .bin .lss (.s 16) (.c (.t (.int .i64 0)))⟩,
    ⟨some 18, none, .pick (.s 14) (.c (.t (.bool true))) (.s 17)⟩,
    ⟨some 19, none, .mv (.s 18)⟩,
    ⟨some 20, some (19, false), .fa 3 (.s 1)⟩,
    ⟨some 21, some (19, false), .ld false 1 (.s 20)⟩,
    ⟨some 22, some (19, false), .fa 2 (.s 1)⟩,
    ⟨some 23, some (19, false), .ld false 1 (.s 22)⟩,
    ⟨some 24, some (19, false), .bin .leq (.s 21) (.s 23)⟩,
    ⟨some 25, none, .pick (.s 19) (.c (.t (.bool true))) (.s 24)⟩,
    ⟨some 26, none, .mv (.s 25)⟩,
    ⟨some 27, some (26, false), .fa 3 (.s 1)⟩,
    ⟨some 28, some (26, false), .ld false 1 (.s 27)⟩,
    ⟨some 29, some (26, false), .bin .gtr (.s 28) (.c (.t (.int .i64 1099511627776)))⟩,
    ⟨some 30, none, .pick (.s 26) (.c (.t (.bool true))) (.s 29)⟩] [] [1, 30]) c8_14) c8_12)
def c8 : ACode :=
  (.seq (.region false [⟨some 1, none, .box 6 (.s 0)⟩,
    ⟨some 2, none, .cst (.t (.bool false))⟩] [] [1]) c8_15)
def r8 : List ARes := [.tmp 2]
def n8 : Nat := 81
/- 9 supergraph supergraphref52.Right -/
def c9_0 : ACode :=
  (.seq (.region false [⟨some 2, none, .cst (.t (.bool false))⟩] [] [2]) .ret)
def c9_1 : ACode :=
  (.seq (.region false [⟨some 32, none, .fa 4 (.s 1)⟩,
    ⟨some 33, none, .ld false 1 (.s 32)⟩,
    ⟨some 34, none, .bin .eql (.s 33) (.c (.t (.int .i64 0)))⟩,
    ⟨some 35, none, .mv (.s 34)⟩,
    ⟨some 36, some (35, true), .fa 5 (.s 1)⟩,
    ⟨some 37, some (35, true), .ld false 1 (.s 36)⟩,
    ⟨some 38, some (35, true), .bin .eql (.s 37) (.c (.t (.str [])))⟩,
    ⟨some 39, none, .pick (.s 35) (.s 38) (.c (.t (.bool false)))⟩,
    ⟨some 2, none, .mv (.s 39)⟩] [] [2]) .ret)
def c9_2 : ACode :=
  (.seq (.region false [⟨some 42, none, .fa 4 (.s 1)⟩,
    ⟨some 43, none, .ld false 1 (.s 42)⟩,
    ⟨some 44, none, .bin .geq (.s 43) (.c (.t (.int .i64 1)))⟩,
    ⟨some 45, none, .mv (.s 44)⟩,
    ⟨some 46, some (45, true), .fa 4 (.s 1)⟩,
    ⟨some 47, some (45, true), .ld false 1 (.s 46)⟩,
    ⟨some 48, some (45, true), .bin .leq (.s 47) (.c (.t (.int .i64 1099511627776)))⟩,
    ⟨some 49, none, .pick (.s 45) (.s 48) (.c (.t (.bool false)))⟩,
    ⟨some 50, none, .mv (.s 49)⟩,
    ⟨some 51, some (50, true), .fa 5 (.s 1)⟩,
    ⟨some 52, some (50, true), .ld false 1 (.s 51)⟩,
    ⟨some 53, some (50, true), .bin .eql (.s 52) (.c (.t (.str [])))⟩,
    ⟨some 54, none, .pick (.s 50) (.s 53) (.c (.t (.bool false)))⟩,
    ⟨some 2, none, .mv (.s 54)⟩] [] [2]) .ret)
def c9_3 : ACode :=
  (.seq (.region false [⟨some 57, none, .fa 4 (.s 1)⟩,
    ⟨some 58, none, .ld false 1 (.s 57)⟩,
    ⟨some 59, none, .bin .eql (.s 58) (.c (.t (.int .i64 0)))⟩,
    ⟨some 60, none, .mv (.s 59)⟩,
    ⟨some 61, some (60, true), .fa 5 (.s 1)⟩,
    ⟨some 62, some (60, true), .ld false 1 (.s 61)⟩,
    ⟨some 63, some (60, true), .call 21 [(.s 62)]⟩,
    ⟨some 64, none, .pick (.s 60) (.s 63) (.c (.t (.bool false)))⟩,
    ⟨some 2, none, .mv (.s 64)⟩] [] [2]) .ret)
def c9_4 : ACode :=
  (.cond (.s 55) c9_3 .skip)
def c9_5 : ACode :=
  (.seq (.region false [⟨some 56, none, .bin .eql (.s 29) (.c (.t (.int .i64 3)))⟩,
    ⟨some 55, none, .mv (.s 56)⟩] [] [1, 55]) c9_4)
def c9_6 : ACode :=
  (.cond (.s 40) c9_2 c9_5)
def c9_7 : ACode :=
  (.seq (.region false [⟨some 41, none, .bin .eql (.s 29) (.c (.t (.int .i64 2)))⟩,
    ⟨some 40, none, .mv (.s 41)⟩] [] [1, 29, 40]) c9_6)
def c9_8 : ACode :=
  (.cond (.s 30) c9_1 c9_7)
def c9_9 : ACode :=
  (.seq (.region false [⟨some 31, none, .bin .eql (.s 29) (.c (.t (.int .i64 1)))⟩,
    ⟨some 30, none, .mv (.s 31)⟩] [] [1, 29, 30]) c9_8)
def c9_10 : ACode :=
  (.block 0 c9_9)
def c9_11 : ACode :=
  (.seq (.seq (.region false [⟨some 28, none, .fa 1 (.s 1)⟩,
    ⟨some 29, none, .ld false 1 (.s 28)⟩] [] [1, 29]) c9_10) c9_0)
def c9_12 : ACode :=
  (.seq (.region false [⟨some 2, none, .cst (.t (.bool false))⟩] [] [2]) .ret)
def c9_13 : ACode :=
  (.cond (.s 27) c9_12 .skip)
def c9_14 : ACode :=
  (.seq (.seq (.region false [⟨some 3, none, .fa 0 (.s 1)⟩,
    ⟨some 4, none, .ld false 1 (.s 3)⟩,
    ⟨some 5, none, .bin .lss (.s 4) (.c (.t (.int .i64 0)))⟩,
    ⟨some 6, none, .mv (.s 5)⟩,
    ⟨some 7, some (6, false), .fa 0 (.s 1)⟩,
    ⟨some 8, some (6, false), .ld false 1 (.s 7)⟩,
    ⟨some 9, some (6, false), .bin .geq (.s 8) (.c (.t (.int .i64 8)))⟩,
    ⟨some 10, none, .pick (.s 6) (.c (.t (.bool true))) (.s 9)⟩,
    ⟨some 11, none, .mv (.s 10)⟩,
    ⟨some 12, some (11, false), .fa 2 (.s 1)⟩,
    ⟨some 13, some (11, false), .ld false 1 (.s 12)⟩,
    ⟨some 14, some (11, false), .bin .lss (.s 13) (.c (.t (.int .i64 0)))⟩,
    ⟨some 15, none, .pick (.s 11) (.c (.t (.bool true))) (.s 14)⟩,
    ⟨some 16, none, .mv (.s 15)⟩,
    ⟨some 17, some (16, false), .fa 2 (.s 1)⟩,
    ⟨some 18, some (16, false), .ld false 1 (.s 17)⟩,
    ⟨some 19, some (16, false), .fa 3 (.s 1)⟩,
    ⟨some 20, some (16, false), .ld false 1 (.s 19)⟩,
    ⟨some 21, some (16, false), .bin .geq (.s 18) (.s 20)⟩,
    ⟨some 22, none, .pick (.s 16) (.c (.t (.bool true))) (.s 21)⟩,
    ⟨some 23, none, .mv (.s 22)⟩,
    ⟨some 24, some (23, false), .fa 3 (.s 1)⟩,
    ⟨some 25, some (23, false), .ld false 1 (.s 24)⟩,
    ⟨some 26, some (23, false), .bin .gtr (.s 25) (.c (.t (.int .i64 1099511627776)))⟩,
    ⟨some 27, none, .pick (.s 23) (.c (.t (.bool true))) (.s 26)⟩] [] [1, 27]) c9_13) c9_11)
def c9 : ACode :=
  (.seq (.region false [⟨some 1, none, .box 6 (.s 0)⟩,
    ⟨some 2, none, .cst (.t (.bool false))⟩] [] [1]) c9_14)
def r9 : List ARes := [.tmp 2]
def n9 : Nat := 65
/- 10 supergraph supergraphlaw52.knows -/
def c10_0 : ACode :=
  (.seq (.region false [⟨some 33, none, .ld true 6 (.s 1)⟩,
    ⟨some 34, none, .call 8 [(.s 33)]⟩,
    ⟨some 35, none, .mv (.s 34)⟩,
    ⟨some 36, some (35, true), .build [.t (.int .i64 0), .t (.int .i64 0), .t (.int .i64 0), .t (.int .i64 0), .t (.int .i64 0), .t (.str [])] [(1, 1, (.c (.t (.int .i64 3)))), (3, 1, (.c (.t (.int .i64 1)))), (5, 1, (.c (.t (.str [85, 115, 101, 114]))))]⟩,
    ⟨some 37, some (35, true), .call 8 [(.s 36)]⟩,
    ⟨some 38, some (35, true), .un .not (.s 37)⟩,
    ⟨some 39, none, .pick (.s 35) (.s 38) (.c (.t (.bool false)))⟩,
    ⟨some 40, none, .mv (.s 39)⟩,
    ⟨some 41, some (40, true), .mv (.s 2)⟩,
    ⟨some 42, some (40, true), .call 15 [(.s 41), (.c (.t (.int .i64 0))), (.c (.t (.int .i64 8))), (.c (.t (.str [85, 115, 101, 114, 46, 110, 97, 109, 101])))]⟩,
    ⟨some 43, none, .pick (.s 40) (.s 42) (.c (.t (.bool false)))⟩,
    ⟨some 44, none, .mv (.s 43)⟩,
    ⟨some 45, some (44, true), .mv (.s 2)⟩,
    ⟨some 46, some (44, true), .call 15 [(.s 45), (.c (.t (.int .i64 0))), (.c (.t (.int .i64 9))), (.c (.t (.str [85, 115, 101, 114, 46, 110, 97, 109, 101])))]⟩,
    ⟨some 47, some (44, true), .un .not (.s 46)⟩,
    ⟨some 48, none, .pick (.s 44) (.s 47) (.c (.t (.bool false)))⟩,
    ⟨some 49, none, .mv (.s 48)⟩,
    ⟨some 50, some (49, true), .mv (.s 2)⟩,
    ⟨some 51, some (49, true), .call 13 [(.s 50), (.c (.t (.int .i64 0))), (.c (.t (.int .i64 5)))]⟩,
    ⟨some 52, some (49, true), .bin .eql (.s 51) (.c (.t (.int .i64 7)))⟩,
    ⟨some 53, none, .pick (.s 49) (.s 52) (.c (.t (.bool false)))⟩,
    ⟨some 54, none, .mv (.s 53)⟩,
    ⟨some 55, some (54, true), .mv (.s 2)⟩,
    ⟨some 56, some (54, true), .call 13 [(.s 55), (.c (.t (.int .i64 0))), (.c (.t (.int .i64 6)))]⟩,
    ⟨some 57, some (54, true), .bin .eql (.s 56) (.c (.t (.int .i64 3)))⟩,
    ⟨some 58, none, .pick (.s 54) (.s 57) (.c (.t (.bool false)))⟩,
    ⟨some 59, none, .mv (.s 58)⟩,
    ⟨some 60, some (59, true), .mv (.s 2)⟩,
    ⟨some 61, some (59, true), .call 11 [(.s 60), (.c (.t (.int .i64 0))), (.c (.t (.int .i64 5)))]⟩,
    ⟨some 62, none, .pick (.s 59) (.s 61) (.c (.t (.bool false)))⟩,
    ⟨some 63, none, .mv (.s 62)⟩,
    ⟨some 64, some (63, true), .mv (.s 2)⟩,
    ⟨some 65, some (63, true), .call 11 [(.s 64), (.c (.t (.int .i64 0))), (.c (.t (.int .i64 9)))]⟩,
    ⟨some 66, some (63, true), .un .not (.s 65)⟩,
    ⟨some 67, none, .pick (.s 63) (.s 66) (.c (.t (.bool false)))⟩,
    ⟨some 68, none, .mv (.s 67)⟩,
    ⟨some 69, some (68, true), .mv (.s 4)⟩,
    ⟨some 70, none, .pick (.s 68) (.s 69) (.c (.t (.bool false)))⟩,
    ⟨some 71, none, .mv (.s 70)⟩,
    ⟨some 72, some (71, true), .mv (.s 3)⟩,
    ⟨some 73, some (71, true), .bin .eql (.s 72) (.c (.t (.int .i64 5)))⟩,
    ⟨some 74, none, .pick (.s 71) (.s 73) (.c (.t (.bool false)))⟩,
    ⟨some 75, none, .mv (.s 74)⟩,
    ⟨some 76, some (75, true), .mv (.s 6)⟩,
    ⟨some 77, none, .pick (.s 75) (.s 76) (.c (.t (.bool false)))⟩,
    ⟨some 78, none, .mv (.s 77)⟩,
    ⟨some 79, some (78, true), .mv (.s 5)⟩,
    ⟨some 80, some (78, true), .bin .eql (.s 79) (.c (.t (.int .i64 9)))⟩,
    ⟨some 81, none, .pick (.s 78) (.s 80) (.c (.t (.bool false)))⟩,
    ⟨some 82, none, .mv (.s 81)⟩,
    ⟨some 83, some (82, true), .mv (.s 8)⟩,
    ⟨some 84, some (82, true), .un .not (.s 83)⟩,
    ⟨some 85, none, .pick (.s 82) (.s 84) (.c (.t (.bool false)))⟩,
    ⟨some 0, none, .mv (.s 85)⟩] [] [0]) .ret)
def c10_1 : ACode :=
  (.seq (.region false [⟨some 28, none, .mv (.s 2)⟩,
    ⟨some 29, none, .sll 6 (.s 28) none (some (.c (.t (.int .i64 1))))⟩,
    ⟨some 30, none, .call 17 [(.s 29), (.c (.t (.int .i64 9)))]⟩,
    ⟨some 27, none, .mv (.s 30)⟩,
    ⟨some 31, none, .ext (.s 27) 0⟩,
    ⟨some 32, none, .ext (.s 27) 1⟩,
    ⟨some 7, none, .mv (.s 31)⟩,
    ⟨some 8, none, .mv (.s 32)⟩] [] [1, 2, 3, 4, 5, 6, 8]) c10_0)
def c10_2 : ACode :=
  (.seq (.region false [⟨some 22, none, .mv (.s 2)⟩,
    ⟨some 23, none, .sll 6 (.s 22) none (some (.c (.t (.int .i64 1))))⟩,
    ⟨some 24, none, .call 17 [(.s 23), (.c (.t (.int .i64 5)))]⟩,
    ⟨some 21, none, .mv (.s 24)⟩,
    ⟨some 25, none, .ext (.s 21) 0⟩,
    ⟨some 26, none, .ext (.s 21) 1⟩,
    ⟨some 5, none, .mv (.s 25)⟩,
    ⟨some 6, none, .mv (.s 26)⟩] [] [1, 2, 3, 4, 5, 6]) c10_1)
def c10_3 : ACode :=
  (.seq (.region false [⟨some 16, none, .mv (.s 2)⟩,
    ⟨some 17, none, .sll 6 (.s 16) none (some (.c (.t (.int .i64 1))))⟩,
    ⟨some 18, none, .call 17 [(.s 17), (.c (.t (.int .i64 0)))]⟩,
    ⟨some 15, none, .mv (.s 18)⟩,
    ⟨some 19, none, .ext (.s 15) 0⟩,
    ⟨some 20, none, .ext (.s 15) 1⟩,
    ⟨some 3, none, .mv (.s 19)⟩,
    ⟨some 4, none, .mv (.s 20)⟩] [] [1, 2, 3, 4]) c10_2)
def c10_4 : ACode :=
  (.seq (.region false [⟨some 10, none, .ld true 6 (.s 1)⟩,
    ⟨some 11, none, .build [.t (.int .i64 0), .t (.int .i64 0), .t (.int .i64 0), .t (.int .i64 0), .t (.int .i64 0), .t (.str [])] [(1, 1, (.c (.t (.int .i64 2)))), (2, 1, (.c (.t (.int .i64 0)))), (3, 1, (.c (.t (.int .i64 9)))), (4, 1, (.c (.t (.int .i64 3))))]⟩,
    ⟨some 12, none, .build [.t (.int .i64 0), .t (.int .i64 0), .t (.int .i64 0), .t (.int .i64 0), .t (.int .i64 0), .t (.str [])] [(1, 1, (.c (.t (.int .i64 2)))), (2, 1, (.c (.t (.int .i64 5)))), (3, 1, (.c (.t (.int .i64 6)))), (4, 1, (.c (.t (.int .i64 7))))]⟩,
    ⟨some 13, none, .build [.t (.int .i64 0), .t (.int .i64 0), .t (.int .i64 0), .t (.int .i64 0), .t (.int .i64 0), .t (.str [])] [(1, 1, (.c (.t (.int .i64 1)))), (2, 1, (.c (.t (.int .i64 5)))), (3, 1, (.c (.t (.int .i64 9))))]⟩,
    ⟨some 14, none, .bsl true 6 [[.int .i64 0, .int .i64 0, .int .i64 0, .int .i64 0, .int .i64 0, .str []], [.int .i64 0, .int .i64 0, .int .i64 0, .int .i64 0, .int .i64 0, .str []], [.int .i64 0, .int .i64 0, .int .i64 0, .int .i64 0, .int .i64 0, .str []], [.int .i64 0, .int .i64 0, .int .i64 0, .int .i64 0, .int .i64 0, .str []]] [(0, (.s 10)), (1, (.s 11)), (2, (.s 12)), (3, (.s 13))]⟩,
    ⟨some 2, none, .mv (.s 14)⟩] [] [1, 2]) c10_3)
def c10_5 : ACode :=
  (.seq (.region false [⟨some 9, none, .build [.t (.int .i64 0), .t (.int .i64 0), .t (.int .i64 0), .t (.int .i64 0), .t (.int .i64 0), .t (.str [])] [(1, 1, (.c (.t (.int .i64 3)))), (2, 1, (.c (.t (.int .i64 5)))), (3, 1, (.c (.t (.int .i64 9)))), (5, 1, (.c (.t (.str [85, 115, 101, 114, 46, 110, 97, 109, 101]))))]⟩,
    ⟨some 1, none, .alloc [.t (.int .i64 0), .t (.int .i64 0), .t (.int .i64 0), .t (.int .i64 0), .t (.int .i64 0), .t (.str [])]⟩,
    ⟨none, none, .st 6 (.s 1) (.s 9)⟩] [] [1]) c10_4)
def c10 : ACode :=
  (.seq (.region false [⟨some 0, none, .cst (.t (.bool false))⟩] [] []) c10_5)
def r10 : List ARes := [.tmp 0]
def n10 : Nat := 86
/- 11 supergraph behavior.Down -/
def c11_0 : ACode :=
  (.seq (.region false [⟨some 7, none, .mv (.s 0)⟩,
    ⟨some 8, none, .mv (.s 1)⟩,
    ⟨some 9, none, .mv (.s 2)⟩,
    ⟨some 10, none, .call 22 [(.s 7), (.c (.t (.int .i64 1))), (.s 8), (.s 9)]⟩,
    ⟨some 11, none, .len (.s 10)⟩,
    ⟨some 12, none, .bin .gtr (.s 11) (.c (.t (.int .i64 0)))⟩,
    ⟨some 6, none, .mv (.s 12)⟩] [] [6]) .ret)
def c11 : ACode :=
  (.seq (.region false [⟨some 6, none, .cst (.t (.bool false))⟩] [] [0, 1, 2]) c11_0)
def r11 : List ARes := [.tmp 6]
def n11 : Nat := 13
/- 12 supergraph supergraphref52.Down -/
def c12_0 : ACode :=
  (.seq (.region false [⟨some 6, none, .cst (.t (.bool false))⟩] [] [6]) .ret)
def c12_1 : ACode :=
  (.region false [⟨some 12, none, .mv (.s 7)⟩,
    ⟨some 13, none, .bin .add (.s 12) (.c (.t (.int .i64 1)))⟩,
    ⟨some 7, none, .mv (.s 13)⟩] [] [0, 1, 2, 7])
def c12_2 : ACode :=
  (.seq (.region false [⟨some 6, none, .cst (.t (.bool true))⟩] [] [6]) .ret)
def c12_3 : ACode :=
  (.cond (.s 20) c12_2 .skip)
def c12_4 : ACode :=
  (.seq (.region false [⟨some 14, none, .mv (.s 0)⟩,
    ⟨some 15, none, .mv (.s 7)⟩,
    ⟨some 16, none, .ia 6 (.s 14) (.s 15)⟩,
    ⟨some 17, none, .ld true 6 (.s 16)⟩,
    ⟨some 18, none, .mv (.s 1)⟩,
    ⟨some 19, none, .mv (.s 2)⟩,
    ⟨some 20, none, .call 23 [(.s 17), (.c (.t (.int .i64 1))), (.s 18), (.s 19)]⟩] [] [0, 1, 2, 7, 20]) c12_3)
def c12_5 : ACode :=
  (.seq (.block 1 c12_4) c12_1)
def c12_6 : ACode :=
  (.cond (.s 11) .skip (.exit 0))
def c12_7 : ACode :=
  (.seq (.seq (.region false [⟨some 8, none, .mv (.s 7)⟩,
    ⟨some 9, none, .mv (.s 0)⟩,
    ⟨some 10, none, .len (.s 9)⟩,
    ⟨some 11, none, .bin .lss (.s 8) (.s 10)⟩] [] [0, 1, 2, 7, 11]) c12_6) c12_5)
def c12_8 : ACode :=
  (.loop c12_7)
def c12_9 : ACode :=
  (.block 0 c12_8)
def c12_10 : ACode :=
  (.seq (.seq (.region false [⟨some 7, none, .cst (.t (.int .i64 0))⟩] [] [0, 1, 2, 7]) c12_9) c12_0)
def c12 : ACode :=
  (.seq (.region false [⟨some 6, none, .cst (.t (.bool false))⟩] [] [0, 1, 2]) c12_10)
def r12 : List ARes := [.tmp 6]
def n12 : Nat := 21
/- 13 supergraph behavior.Lag -/
def c13_0 : ACode :=
  (.seq (.region false [⟨some 24, none, .mv (.s 7)⟩,
    ⟨some 6, none, .mv (.s 24)⟩] [] [6]) .ret)
def c13_1 : ACode :=
  (.region false [⟨some 23, none, .bin .add (.s 15) (.c (.t (.int .i64 1)))⟩,
    ⟨some 15, none, .mv (.s 23)⟩] [] [7, 13, 14, 15])
def c13_2 : ACode :=
  (.region false [⟨some 19, none, .mv (.s 7)⟩,
    ⟨some 20, none, .fa 4 (.s 9)⟩,
    ⟨some 21, none, .ld false 1 (.s 20)⟩,
    ⟨some 22, none, .maxi (.s 19) (.s 21)⟩,
    ⟨some 7, none, .mv (.s 22)⟩] [] [7, 13, 14, 15])
def c13_3 : ACode :=
  (.seq (.region false [⟨some 17, none, .ia 6 (.s 13) (.s 15)⟩,
    ⟨some 18, none, .ld true 6 (.s 17)⟩,
    ⟨some 9, none, .alloc [.t (.int .i64 0), .t (.int .i64 0), .t (.int .i64 0), .t (.int .i64 0), .t (.int .i64 0), .t (.str [])]⟩,
    ⟨none, none, .st 6 (.s 9) (.s 18)⟩] [] [7, 9, 13, 14, 15]) c13_2)
def c13_4 : ACode :=
  (.seq (.block 1 c13_3) c13_1)
def c13_5 : ACode :=
  (.seq (.cond (.s 16) .skip (.exit 0)) c13_4)
def c13_6 : ACode :=
  (.seq (.region false [⟨some 16, none, .bin .lss (.s 15) (.s 14)⟩] [] [7, 13, 14, 15, 16]) c13_5)
def c13_7 : ACode :=
  (.loop c13_6)
def c13_8 : ACode :=
  (.block 0 c13_7)
def c13_9 : ACode :=
  (.seq (.seq (.region false [⟨some 10, none, .mv (.s 0)⟩,
    ⟨some 11, none, .mv (.s 1)⟩,
    ⟨some 12, none, .mv (.s 2)⟩,
    ⟨some 13, none, .call 22 [(.s 10), (.c (.t (.int .i64 2))), (.s 11), (.s 12)]⟩,
    ⟨some 14, none, .len (.s 13)⟩,
    ⟨some 15, none, .cst (.t (.int .i64 0))⟩] [] [7, 13, 14, 15]) c13_8) c13_0)
def c13_10 : ACode :=
  (.seq (.region false [⟨some 7, none, .cst (.t (.int .i64 0))⟩] [] [0, 1, 2, 7]) c13_9)
def c13 : ACode :=
  (.seq (.region false [⟨some 6, none, .cst (.t (.int .i64 0))⟩] [] [0, 1, 2]) c13_10)
def r13 : List ARes := [.tmp 6]
def n13 : Nat := 25
/- 14 supergraph supergraphref52.Lag -/
def c14_0 : ACode :=
  (.seq (.region false [⟨some 29, none, .mv (.s 7)⟩,
    ⟨some 6, none, .mv (.s 29)⟩] [] [6]) .ret)
def c14_1 : ACode :=
  (.region false [⟨some 13, none, .mv (.s 8)⟩,
    ⟨some 14, none, .bin .add (.s 13) (.c (.t (.int .i64 1)))⟩,
    ⟨some 8, none, .mv (.s 14)⟩] [] [0, 1, 2, 7, 8])
def c14_2 : ACode :=
  (.region false [⟨some 22, none, .mv (.s 7)⟩,
    ⟨some 23, none, .mv (.s 0)⟩,
    ⟨some 24, none, .mv (.s 8)⟩,
    ⟨some 25, none, .ia 6 (.s 23) (.s 24)⟩,
    ⟨some 26, none, .fa 4 (.s 25)⟩,
    ⟨some 27, none, .ld false 1 (.s 26)⟩,
    ⟨some 28, none, .maxi (.s 22) (.s 27)⟩,
    ⟨some 7, none, .mv (.s 28)⟩] [] [0, 1, 2, 7, 8])
def c14_3 : ACode :=
  (.cond (.s 21) c14_2 .skip)
def c14_4 : ACode :=
  (.seq (.region false [⟨some 15, none, .mv (.s 0)⟩,
    ⟨some 16, none, .mv (.s 8)⟩,
    ⟨some 17, none, .ia 6 (.s 15) (.s 16)⟩,
    ⟨some 18, none, .ld true 6 (.s 17)⟩,
    ⟨some 19, none, .mv (.s 1)⟩,
    ⟨some 20, none, .mv (.s 2)⟩,
    ⟨some 21, none, .call 23 [(.s 18), (.c (.t (.int .i64 2))), (.s 19), (.s 20)]⟩] [] [0, 1, 2, 7, 8, 21]) c14_3)
def c14_5 : ACode :=
  (.seq (.block 1 c14_4) c14_1)
def c14_6 : ACode :=
  (.cond (.s 12) .skip (.exit 0))
def c14_7 : ACode :=
  (.seq (.seq (.region false [⟨some 9, none, .mv (.s 8)⟩,
    ⟨some 10, none, .mv (.s 0)⟩,
    ⟨some 11, none, .len (.s 10)⟩,
    ⟨some 12, none, .bin .lss (.s 9) (.s 11)⟩] [] [0, 1, 2, 7, 8, 12]) c14_6) c14_5)
def c14_8 : ACode :=
  (.loop c14_7)
def c14_9 : ACode :=
  (.block 0 c14_8)
def c14_10 : ACode :=
  (.seq (.seq (.region false [⟨some 8, none, .cst (.t (.int .i64 0))⟩] [] [0, 1, 2, 7, 8]) c14_9) c14_0)
def c14_11 : ACode :=
  (.seq (.region false [⟨some 7, none, .cst (.t (.int .i64 0))⟩] [] [0, 1, 2, 7]) c14_10)
def c14 : ACode :=
  (.seq (.region false [⟨some 6, none, .cst (.t (.int .i64 0))⟩] [] [0, 1, 2]) c14_11)
def r14 : List ARes := [.tmp 6]
def n14 : Nat := 30
/- 15 supergraph behavior.Fails -/
def c15_0 : ACode :=
  (.seq (.region false [⟨some 9, none, .mv (.s 0)⟩,
    ⟨some 10, none, .mv (.s 1)⟩,
    ⟨some 11, none, .mv (.s 2)⟩,
    ⟨some 12, none, .call 22 [(.s 9), (.c (.t (.int .i64 3))), (.s 10), (.s 11)]⟩,
    ⟨some 13, none, .mkfn 25 [(.s 7)]⟩,
    ⟨some 14, none, .call 24 [(.s 12), (.s 13)]⟩,
    ⟨some 8, none, .mv (.s 14)⟩] [] [8]) .ret)
def c15 : ACode :=
  (.seq (.region false [⟨some 7, none, .box 1 (.s 3)⟩,
    ⟨some 8, none, .cst (.t (.bool false))⟩] [] [0, 1, 2, 7]) c15_0)
def r15 : List ARes := [.tmp 8]
def n15 : Nat := 15
/- 16 supergraph supergraphref52.Fails -/
def c16_0 : ACode :=
  (.seq (.region false [⟨some 8, none, .cst (.t (.bool false))⟩] [] [8]) .ret)
def c16_1 : ACode :=
  (.region false [⟨some 14, none, .mv (.s 9)⟩,
    ⟨some 15, none, .bin .add (.s 14) (.c (.t (.int .i64 1)))⟩,
    ⟨some 9, none, .mv (.s 15)⟩] [] [0, 1, 2, 3, 9])
def c16_2 : ACode :=
  (.seq (.region false [⟨some 8, none, .cst (.t (.bool true))⟩] [] [8]) .ret)
def c16_3 : ACode :=
  (.cond (.s 31) c16_2 .skip)
def c16_4 : ACode :=
  (.seq (.region false [⟨some 16, none, .mv (.s 0)⟩,
    ⟨some 17, none, .mv (.s 9)⟩,
    ⟨some 18, none, .ia 6 (.s 16) (.s 17)⟩,
    ⟨some 19, none, .ld true 6 (.s 18)⟩,
    ⟨some 20, none, .mv (.s 1)⟩,
    ⟨some 21, none, .mv (.s 2)⟩,
    ⟨some 22, none, .call 23 [(.s 19), (.c (.t (.int .i64 3))), (.s 20), (.s 21)]⟩,
    ⟨some 23, none, .mv (.s 22)⟩,
    ⟨some 24, some (23, true), .mv (.s 0)⟩,
    ⟨some 25, some (23, true), .mv (.s 9)⟩,
    ⟨some 26, some (23, true), .ia 6 (.s 24) (.s 25)⟩,
    ⟨some 27, some (23, true), .fa 5 (.s 26)⟩,
    ⟨some 28, some (23, true), .ld false 1 (.s 27)⟩,
    ⟨some 29, some (23, true), .mv (.s 3)⟩,
    ⟨some 30, some (23, true), .bin .eql (.s 28) (.s 29)⟩,
    ⟨some 31, none, .pick (.s 23) (.s 30) (.c (.t (.bool false)))⟩] [] [0, 1, 2, 3, 9, 31]) c16_3)
def c16_5 : ACode :=
  (.seq (.block 1 c16_4) c16_1)
def c16_6 : ACode :=
  (.cond (.s 13) .skip (.exit 0))
def c16_7 : ACode :=
  (.seq (.seq (.region false [⟨some 10, none, .mv (.s 9)⟩,
    ⟨some 11, none, .mv (.s 0)⟩,
    ⟨some 12, none, .len (.s 11)⟩,
    ⟨some 13, none, .bin .lss (.s 10) (.s 12)⟩] [] [0, 1, 2, 3, 9, 13]) c16_6) c16_5)
def c16_8 : ACode :=
  (.loop c16_7)
def c16_9 : ACode :=
  (.block 0 c16_8)
def c16_10 : ACode :=
  (.seq (.seq (.region false [⟨some 9, none, .cst (.t (.int .i64 0))⟩] [] [0, 1, 2, 3, 9]) c16_9) c16_0)
def c16 : ACode :=
  (.seq (.region false [⟨some 8, none, .cst (.t (.bool false))⟩] [] [0, 1, 2, 3]) c16_10)
def r16 : List ARes := [.tmp 8]
def n16 : Nat := 32
/- 17 supergraph behavior.Next -/
def c17_0 : ACode :=
  (.seq (.region false [⟨some 44, none, .mv (.s 6)⟩,
    ⟨some 45, none, .mv (.s 7)⟩,
    ⟨some 4, none, .mv (.s 44)⟩,
    ⟨some 5, none, .mv (.s 45)⟩] [] [4, 5]) .ret)
def c17_1 : ACode :=
  (.region false [⟨some 43, none, .bin .add (.s 14) (.c (.t (.int .i64 1)))⟩,
    ⟨some 14, none, .mv (.s 43)⟩] [] [1, 6, 7, 12, 13, 14])
def c17_2 : ACode :=
  (.region false [⟨some 42, none, .bin .add (.s 26) (.c (.t (.int .i64 1)))⟩,
    ⟨some 26, none, .mv (.s 42)⟩] [] [1, 6, 7, 12, 13, 14, 25, 26])
def c17_3 : ACode :=
  (.region false [⟨some 41, none, .mv (.s 11)⟩,
    ⟨some 6, none, .mv (.s 41)⟩,
    ⟨some 7, none, .cst (.t (.bool true))⟩] [] [1, 6, 7, 12, 13, 14, 25, 26])
def c17_4 : ACode :=
  (.cond (.s 40) c17_3 .skip)
def c17_5 : ACode :=
  (.seq (.region false [⟨some 29, none, .mv (.s 11)⟩,
    ⟨some 30, none, .mv (.s 1)⟩,
    ⟨some 31, none, .bin .gtr (.s 29) (.s 30)⟩,
    ⟨some 32, none, .mv (.s 31)⟩,
    ⟨some 33, some (32, true), .mv (.s 7)⟩,
    ⟨some 34, some (32, true), .un .not (.s 33)⟩,
    ⟨some 35, some (32, true), .mv (.s 34)⟩,
    ⟨some 36, some (35, false), .mv (.s 11)⟩,
    ⟨some 37, some (35, false), .mv (.s 6)⟩,
    ⟨some 38, some (35, false), .bin .lss (.s 36) (.s 37)⟩,
    ⟨some 39, some (32, true), .pick (.s 35) (.c (.t (.bool true))) (.s 38)⟩,
    ⟨some 40, none, .pick (.s 32) (.s 39) (.c (.t (.bool false)))⟩] [] [1, 6, 7, 11, 12, 13, 14, 25, 26, 40]) c17_4)
def c17_6 : ACode :=
  (.seq (.region false [⟨some 28, none, .ixa false 2 1 (.s 25) (.s 26)⟩,
    ⟨some 11, none, .mv (.s 28)⟩] [] [1, 6, 7, 11, 12, 13, 14, 25, 26]) c17_5)
def c17_7 : ACode :=
  (.seq (.block 3 c17_6) c17_2)
def c17_8 : ACode :=
  (.seq (.cond (.s 27) .skip (.exit 2)) c17_7)
def c17_9 : ACode :=
  (.seq (.region false [⟨some 27, none, .bin .lss (.s 26) (.c (.t (.int .i64 2)))⟩] [] [1, 6, 7, 12, 13, 14, 25, 26, 27]) c17_8)
def c17_10 : ACode :=
  (.loop c17_9)
def c17_11 : ACode :=
  (.block 2 c17_10)
def c17_12 : ACode :=
  (.seq (.region false [⟨some 21, none, .fa 2 (.s 9)⟩,
    ⟨some 22, none, .ld false 1 (.s 21)⟩,
    ⟨some 23, none, .fa 3 (.s 9)⟩,
    ⟨some 24, none, .ld false 1 (.s 23)⟩,
    ⟨some 25, none, .build [.t (.int .i64 0), .t (.int .i64 0)] [(0, 1, (.s 22)), (1, 1, (.s 24))]⟩,
    ⟨some 26, none, .cst (.t (.int .i64 0))⟩] [] [1, 6, 7, 12, 13, 14, 25, 26]) c17_11)
def c17_13 : ACode :=
  (.cond (.s 20) (.exit 1) .skip)
def c17_14 : ACode :=
  (.seq (.seq (.region false [⟨some 18, none, .ld true 6 (.s 9)⟩,
    ⟨some 19, none, .call 8 [(.s 18)]⟩,
    ⟨some 20, none, .un .not (.s 19)⟩] [] [1, 6, 7, 9, 12, 13, 14, 20]) c17_13) c17_12)
def c17_15 : ACode :=
  (.seq (.region false [⟨some 16, none, .ia 6 (.s 12) (.s 14)⟩,
    ⟨some 17, none, .ld true 6 (.s 16)⟩,
    ⟨some 9, none, .alloc [.t (.int .i64 0), .t (.int .i64 0), .t (.int .i64 0), .t (.int .i64 0), .t (.int .i64 0), .t (.str [])]⟩,
    ⟨none, none, .st 6 (.s 9) (.s 17)⟩] [] [1, 6, 7, 9, 12, 13, 14]) c17_14)
def c17_16 : ACode :=
  (.seq (.block 1 c17_15) c17_1)
def c17_17 : ACode :=
  (.seq (.cond (.s 15) .skip (.exit 0)) c17_16)
def c17_18 : ACode :=
  (.seq (.region false [⟨some 15, none, .bin .lss (.s 14) (.s 13)⟩] [] [1, 6, 7, 12, 13, 14, 15]) c17_17)
def c17_19 : ACode :=
  (.loop c17_18)
def c17_20 : ACode :=
  (.block 0 c17_19)
def c17_21 : ACode :=
  (.seq (.seq (.region false [⟨some 12, none, .mv (.s 0)⟩,
    ⟨some 13, none, .len (.s 12)⟩,
    ⟨some 14, none, .cst (.t (.int .i64 0))⟩] [] [1, 6, 7, 12, 13, 14]) c17_20) c17_0)
def c17_22 : ACode :=
  (.seq (.region false [⟨some 6, none, .cst (.t (.int .i64 0))⟩,
    ⟨some 7, none, .cst (.t (.bool false))⟩] [] [0, 1, 6, 7]) c17_21)
def c17 : ACode :=
  (.seq (.region false [⟨some 4, none, .cst (.t (.int .i64 0))⟩,
    ⟨some 5, none, .cst (.t (.bool false))⟩] [] [0, 1]) c17_22)
def r17 : List ARes := [.tmp 4, .tmp 5]
def n17 : Nat := 46
/- 18 supergraph supergraphref52.Next -/
def c18_0 : ACode :=
  (.seq (.region false [⟨some 53, none, .mv (.s 6)⟩,
    ⟨some 54, none, .mv (.s 7)⟩,
    ⟨some 4, none, .mv (.s 53)⟩,
    ⟨some 5, none, .mv (.s 54)⟩] [] [4, 5]) .ret)
def c18_1 : ACode :=
  (.region false [⟨some 15, none, .mv (.s 8)⟩,
    ⟨some 16, none, .bin .add (.s 15) (.c (.t (.int .i64 1)))⟩,
    ⟨some 8, none, .mv (.s 16)⟩] [] [0, 1, 6, 7, 8])
def c18_2 : ACode :=
  (.region false [⟨some 26, none, .mv (.s 9)⟩,
    ⟨some 27, none, .bin .add (.s 26) (.c (.t (.int .i64 1)))⟩,
    ⟨some 9, none, .mv (.s 27)⟩] [] [0, 1, 6, 7, 8, 9])
def c18_3 : ACode :=
  (.region false [⟨some 7, none, .cst (.t (.bool true))⟩] [] [0, 1, 6, 7, 8, 9])
def c18_4 : ACode :=
  (.seq (.region false [⟨some 52, none, .mv (.s 10)⟩,
    ⟨some 6, none, .mv (.s 52)⟩] [] [0, 1, 6, 8, 9]) c18_3)
def c18_5 : ACode :=
  (.cond (.s 51) c18_4 .skip)
def c18_6 : ACode :=
  (.seq (.region false [⟨some 40, none, .mv (.s 10)⟩,
    ⟨some 41, none, .mv (.s 1)⟩,
    ⟨some 42, none, .bin .gtr (.s 40) (.s 41)⟩,
    ⟨some 43, none, .mv (.s 42)⟩,
    ⟨some 44, some (43, true), .mv (.s 7)⟩,
    ⟨some 45, some (43, true), .un .not (.s 44)⟩,
    ⟨some 46, some (43, true), .mv (.s 45)⟩,
    ⟨some 47, some (46, false), .mv (.s 10)⟩,
    ⟨some 48, some (46, false), .mv (.s 6)⟩,
    ⟨some 49, some (46, false), .bin .lss (.s 47) (.s 48)⟩,
    ⟨some 50, some (43, true), .pick (.s 46) (.c (.t (.bool true))) (.s 49)⟩,
    ⟨some 51, none, .pick (.s 43) (.s 50) (.c (.t (.bool false)))⟩] [] [0, 1, 6, 7, 8, 9, 10, 51]) c18_5)
def c18_7 : ACode :=
  (.region false [⟨some 35, none, .mv (.s 0)⟩,
    ⟨some 36, none, .mv (.s 8)⟩,
    ⟨some 37, none, .ia 6 (.s 35) (.s 36)⟩,
    ⟨some 38, none, .fa 3 (.s 37)⟩,
    ⟨some 39, none, .ld false 1 (.s 38)⟩,
    ⟨some 10, none, .mv (.s 39)⟩] [] [0, 1, 6, 7, 8, 9, 10])
def c18_8 : ACode :=
  (.cond (.s 34) c18_7 .skip)
def c18_9 : ACode :=
  (.seq (.seq (.region false [⟨some 33, none, .mv (.s 9)⟩,
    ⟨some 34, none, .bin .eql (.s 33) (.c (.t (.int .i64 1)))⟩] [] [0, 1, 6, 7, 8, 9, 10, 34]) c18_8) c18_6)
def c18_10 : ACode :=
  (.seq (.region false [⟨some 28, none, .mv (.s 0)⟩,
    ⟨some 29, none, .mv (.s 8)⟩,
    ⟨some 30, none, .ia 6 (.s 28) (.s 29)⟩,
    ⟨some 31, none, .fa 2 (.s 30)⟩,
    ⟨some 32, none, .ld false 1 (.s 31)⟩,
    ⟨some 10, none, .mv (.s 32)⟩] [] [0, 1, 6, 7, 8, 9, 10]) c18_9)
def c18_11 : ACode :=
  (.seq (.block 3 c18_10) c18_2)
def c18_12 : ACode :=
  (.cond (.s 25) .skip (.exit 2))
def c18_13 : ACode :=
  (.seq (.seq (.region false [⟨some 17, none, .mv (.s 9)⟩,
    ⟨some 18, none, .bin .lss (.s 17) (.c (.t (.int .i64 2)))⟩,
    ⟨some 19, none, .mv (.s 18)⟩,
    ⟨some 20, some (19, true), .mv (.s 0)⟩,
    ⟨some 21, some (19, true), .mv (.s 8)⟩,
    ⟨some 22, some (19, true), .ia 6 (.s 20) (.s 21)⟩,
    ⟨some 23, some (19, true), .ld true 6 (.s 22)⟩,
    ⟨some 24, some (19, true), .call 9 [(.s 23)]⟩,
    ⟨some 25, none, .pick (.s 19) (.s 24) (.c (.t (.bool false)))⟩] [] [0, 1, 6, 7, 8, 9, 25]) c18_12) c18_11)
def c18_14 : ACode :=
  (.loop c18_13)
def c18_15 : ACode :=
  (.block 2 c18_14)
def c18_16 : ACode :=
  (.seq (.region false [⟨some 9, none, .cst (.t (.int .i64 0))⟩] [] [0, 1, 6, 7, 8, 9]) c18_15)
def c18_17 : ACode :=
  (.seq (.block 1 c18_16) c18_1)
def c18_18 : ACode :=
  (.cond (.s 14) .skip (.exit 0))
def c18_19 : ACode :=
  (.seq (.seq (.region false [⟨some 11, none, .mv (.s 8)⟩,
    ⟨some 12, none, .mv (.s 0)⟩,
    ⟨some 13, none, .len (.s 12)⟩,
    ⟨some 14, none, .bin .lss (.s 11) (.s 13)⟩] [] [0, 1, 6, 7, 8, 14]) c18_18) c18_17)
def c18_20 : ACode :=
  (.loop c18_19)
def c18_21 : ACode :=
  (.block 0 c18_20)
def c18_22 : ACode :=
  (.seq (.seq (.region false [⟨some 8, none, .cst (.t (.int .i64 0))⟩] [] [0, 1, 6, 7, 8]) c18_21) c18_0)
def c18_23 : ACode :=
  (.seq (.region false [⟨some 6, none, .cst (.t (.int .i64 0))⟩,
    ⟨some 7, none, .cst (.t (.bool false))⟩] [] [0, 1, 6, 7]) c18_22)
def c18 : ACode :=
  (.seq (.region false [⟨some 4, none, .cst (.t (.int .i64 0))⟩,
    ⟨some 5, none, .cst (.t (.bool false))⟩] [] [0, 1]) c18_23)
def r18 : List ARes := [.tmp 4, .tmp 5]
def n18 : Nat := 55
/- 19 strings.Cut -/
def c19_0 : ACode :=
  (.seq (.region false [⟨some 7, none, .mv (.s 0)⟩,
    ⟨some 8, none, .mv (.s 1)⟩,
    ⟨some 9, none, .call 26 [(.s 7), (.s 8)]⟩,
    ⟨some 10, none, .ext (.s 9) 0⟩,
    ⟨some 11, none, .ext (.s 9) 1⟩,
    ⟨some 12, none, .ext (.s 9) 2⟩,
    ⟨some 4, none, .mv (.s 10)⟩,
    ⟨some 5, none, .mv (.s 11)⟩,
    ⟨some 6, none, .mv (.s 12)⟩] [] [4, 5, 6]) .ret)
def c19 : ACode :=
  (.seq (.region false [⟨some 4, none, .cst (.t (.str []))⟩,
    ⟨some 5, none, .cst (.t (.str []))⟩,
    ⟨some 6, none, .cst (.t (.bool false))⟩] [] [0, 1]) c19_0)
def r19 : List ARes := [.tmp 4, .tmp 5, .tmp 6]
def n19 : Nat := 13
/- 20 supergraph text.Name -/
def c20_0 : ACode :=
  (.seq (.region false [⟨some 2, none, .cst (.t (.bool true))⟩] [] [2]) .ret)
def c20_1 : ACode :=
  (.region false [⟨some 57, none, .bin .add (.s 24) (.c (.t (.int .i64 1)))⟩,
    ⟨some 24, none, .mv (.s 57)⟩] [] [0, 23, 24])
def c20_2 : ACode :=
  (.seq (.region false [⟨some 2, none, .cst (.t (.bool false))⟩] [] [2]) .ret)
def c20_3 : ACode :=
  (.cond (.s 56) c20_2 .skip)
def c20_4 : ACode :=
  (.seq (.region false [⟨some 30, none, .mv (.s 4)⟩,
    ⟨some 31, none, .bin .geq (.s 30) (.c (.t (.int .u8 97)))⟩,
    ⟨some 32, none, .mv (.s 31)⟩,
    ⟨some 33, some (32, true), .mv (.s 4)⟩,
    ⟨some 34, some (32, true), .bin .leq (.s 33) (.c (.t (.int .u8 122)))⟩,
    ⟨some 35, none, .pick (.s 32) (.s 34) (.c (.t (.bool false)))⟩,
    ⟨some 36, none, .mv (.s 35)⟩,
    ⟨some 37, some (36, false), .mv (.s 4)⟩,
    ⟨some 38, some (36, false), .bin .geq (.s 37) (.c (.t (.int .u8 65)))⟩,
    ⟨some 39, some (36, false), .mv (.s 38)⟩,
    ⟨some 40, some (39, true), .mv (.s 4)⟩,
    ⟨some 41, some (39, true), .bin .leq (.s 40) (.c (.t (.int .u8 90)))⟩,
    ⟨some 42, some (36, false), .pick (.s 39) (.s 41) (.c (.t (.bool false)))⟩,
    ⟨some 43, none, .pick (.s 36) (.c (.t (.bool true))) (.s 42)⟩,
    ⟨some 44, none, .mv (.s 43)⟩,
    ⟨some 45, some (44, false), .mv (.s 4)⟩,
    ⟨some 46, some (44, false), .bin .geq (.s 45) (.c (.t (.int .u8 48)))⟩,
    ⟨some 47, some (44, false), .mv (.s 46)⟩,
    ⟨some 48, some (47, true), .mv (.s 4)⟩,
    ⟨some 49, some (47, true), .bin .leq (.s 48) (.c (.t (.int .u8 57)))⟩,
    ⟨some 50, some (44, false), .pick (.s 47) (.s 49) (.c (.t (.bool false)))⟩,
    ⟨some 51, none, .pick (.s 44) (.c (.t (.bool true))) (.s 50)⟩,
    ⟨some 52, none, .mv (.s 51)⟩,
    ⟨some 53, some (52, false), .mv (.s 4)⟩,
    ⟨some 54, some (52, false), .bin .eql (.s 53) (.c (.t (.int .u8 95)))⟩,
    ⟨some 55, none, .pick (.s 52) (.c (.t (.bool true))) (.s 54)⟩,
    ⟨some 56, none, .un .not (.s 55)⟩] [] [0, 23, 24, 56]) c20_3)
def c20_5 : ACode :=
  (.seq (.region false [⟨some 27, none, .mv (.s 0)⟩,
    ⟨some 28, none, .mv (.s 3)⟩,
    ⟨some 29, none, .ixs (.s 27) (.s 28)⟩,
    ⟨some 4, none, .mv (.s 29)⟩] [] [0, 4, 23, 24]) c20_4)
def c20_6 : ACode :=
  (.seq (.region false [⟨some 26, none, .mv (.s 24)⟩,
    ⟨some 3, none, .mv (.s 26)⟩] [] [0, 3, 23, 24]) c20_5)
def c20_7 : ACode :=
  (.seq (.block 1 c20_6) c20_1)
def c20_8 : ACode :=
  (.seq (.cond (.s 25) .skip (.exit 0)) c20_7)
def c20_9 : ACode :=
  (.seq (.region false [⟨some 25, none, .bin .lss (.s 24) (.s 23)⟩] [] [0, 23, 24, 25]) c20_8)
def c20_10 : ACode :=
  (.loop c20_9)
def c20_11 : ACode :=
  (.block 0 c20_10)
def c20_12 : ACode :=
  (.seq (.seq (.region false [⟨some 22, none, .mv (.s 0)⟩,
    ⟨some 23, none, .lens (.s 22)⟩,
    ⟨some 24, none, .cst (.t (.int .i64 0))⟩] [] [0, 23, 24]) c20_11) c20_0)
def c20_13 : ACode :=
  (.seq (.region false [⟨some 2, none, .cst (.t (.bool false))⟩] [] [2]) .ret)
def c20_14 : ACode :=
  (.cond (.s 21) c20_13 .skip)
def c20_15 : ACode :=
  (.seq (.seq (.region false [⟨some 5, none, .mv (.s 0)⟩,
    ⟨some 6, none, .bin .eql (.s 5) (.c (.t (.str [])))⟩,
    ⟨some 7, none, .mv (.s 6)⟩,
    ⟨some 8, some (7, false), .mv (.s 0)⟩,
    ⟨some 9, some (7, false), .lens (.s 8)⟩,
    ⟨some 10, some (7, false), .bin .gtr (.s 9) (.c (.t (.int .i64 64)))⟩,
    ⟨some 11, none, .pick (.s 7) (.c (.t (.bool true))) (.s 10)⟩,
    ⟨some 12, none, .mv (.s 11)⟩,
    ⟨some 13, some (12, false), .mv (.s 0)⟩,
    ⟨some 14, some (12, false), .ixs (.s 13) (.c (.t (.int .i64 0)))⟩,
    ⟨some 15, some (12, false), .bin .geq (.s 14) (.c (.t (.int .u8 48)))⟩,
    ⟨some 16, some (12, false), .mv (.s 15)⟩,
    ⟨some 17, some (16, true), .mv (.s 0)⟩,
    ⟨some 18, some (16, true), .ixs (.s 17) (.c (.t (.int .i64 0)))⟩,
    ⟨some 19, some (16, true), .bin .leq (.s 18) (.c (.t (.int .u8 57)))⟩,
    ⟨some 20, some (12, false), .pick (.s 16) (.s 19) (.c (.t (.bool false)))⟩,
    ⟨some 21, none, .pick (.s 12) (.c (.t (.bool true))) (.s 20)⟩] [] [0, 21]) c20_14) c20_12)
def c20 : ACode :=
  (.seq (.region false [⟨some 2, none, .cst (.t (.bool false))⟩] [] [0]) c20_15)
def r20 : List ARes := [.tmp 2]
def n20 : Nat := 58
/- 21 supergraph supergraphref52.pair -/
def c21_0 : ACode :=
  (.seq (.region false [⟨some 2, none, .cst (.t (.bool false))⟩] [] [2]) .ret)
def c21_1 : ACode :=
  (.region false [⟨some 8, none, .mv (.s 3)⟩,
    ⟨some 9, none, .bin .add (.s 8) (.c (.t (.int .i64 1)))⟩,
    ⟨some 3, none, .mv (.s 9)⟩] [] [0, 3])
def c21_2 : ACode :=
  (.seq (.region false [⟨some 14, none, .mv (.s 0)⟩,
    ⟨some 15, none, .mv (.s 3)⟩,
    ⟨some 16, none, .sls (.s 14) none (some (.s 15))⟩,
    ⟨some 17, none, .call 27 [(.s 16)]⟩,
    ⟨some 18, none, .mv (.s 17)⟩,
    ⟨some 19, some (18, true), .mv (.s 0)⟩,
    ⟨some 20, some (18, true), .mv (.s 3)⟩,
    ⟨some 21, some (18, true), .bin .add (.s 20) (.c (.t (.int .i64 1)))⟩,
    ⟨some 22, some (18, true), .sls (.s 19) (some (.s 21)) none⟩,
    ⟨some 23, some (18, true), .call 27 [(.s 22)]⟩,
    ⟨some 24, none, .pick (.s 18) (.s 23) (.c (.t (.bool false)))⟩,
    ⟨some 2, none, .mv (.s 24)⟩] [] [2]) .ret)
def c21_3 : ACode :=
  (.cond (.s 13) c21_2 .skip)
def c21_4 : ACode :=
  (.seq (.region false [⟨some 10, none, .mv (.s 0)⟩,
    ⟨some 11, none, .mv (.s 3)⟩,
    ⟨some 12, none, .ixs (.s 10) (.s 11)⟩,
    ⟨some 13, none, .bin .eql (.s 12) (.c (.t (.int .u8 46)))⟩] [] [0, 3, 13]) c21_3)
def c21_5 : ACode :=
  (.seq (.block 1 c21_4) c21_1)
def c21_6 : ACode :=
  (.cond (.s 7) .skip (.exit 0))
def c21_7 : ACode :=
  (.seq (.seq (.region false [⟨some 4, none, .mv (.s 3)⟩,
    ⟨some 5, none, .mv (.s 0)⟩,
    ⟨some 6, none, .lens (.s 5)⟩,
    ⟨some 7, none, .bin .lss (.s 4) (.s 6)⟩] [] [0, 3, 7]) c21_6) c21_5)
def c21_8 : ACode :=
  (.loop c21_7)
def c21_9 : ACode :=
  (.block 0 c21_8)
def c21_10 : ACode :=
  (.seq (.seq (.region false [⟨some 3, none, .cst (.t (.int .i64 0))⟩] [] [0, 3]) c21_9) c21_0)
def c21 : ACode :=
  (.seq (.region false [⟨some 2, none, .cst (.t (.bool false))⟩] [] [0]) c21_10)
def r21 : List ARes := [.tmp 2]
def n21 : Nat := 25
/- 22 supergraph behavior.effect -/
def c22_0 : ACode :=
  (.seq (.region false [⟨some 49, none, .mv (.s 9)⟩,
    ⟨some 8, none, .mv (.s 49)⟩] [] [8]) .ret)
def c22_1 : ACode :=
  (.region false [⟨some 48, none, .bin .add (.s 14) (.c (.t (.int .i64 1)))⟩,
    ⟨some 14, none, .mv (.s 48)⟩] [] [1, 2, 3, 9, 12, 13, 14])
def c22_2 : ACode :=
  (.region false [⟨some 44, none, .mv (.s 9)⟩,
    ⟨some 45, none, .ld true 6 (.s 11)⟩,
    ⟨some 46, none, .bsl false 6 [[.int .i64 0, .int .i64 0, .int .i64 0, .int .i64 0, .int .i64 0, .str []]] [(0, (.s 45))]⟩,
    ⟨some 47, none, .app 6 56 (.s 44) (.s 46)⟩,
    ⟨some 9, none, .mv (.s 47)⟩] [] [1, 2, 3, 9, 12, 13, 14])
def c22_3 : ACode :=
  (.cond (.s 43) c22_2 .skip)
def c22_4 : ACode :=
  (.seq (.region false [⟨some 18, none, .ld true 6 (.s 11)⟩,
    ⟨some 19, none, .call 8 [(.s 18)]⟩,
    ⟨some 20, none, .mv (.s 19)⟩,
    ⟨some 21, some (20, true), .fa 1 (.s 11)⟩,
    ⟨some 22, some (20, true), .ld false 1 (.s 21)⟩,
    ⟨some 23, some (20, true), .mv (.s 1)⟩,
    ⟨some 24, some (20, true), .bin .eql (.s 22) (.s 23)⟩,
    ⟨some 25, none, .pick (.s 20) (.s 24) (.c (.t (.bool false)))⟩,
    ⟨some 26, none, .mv (.s 25)⟩,
    ⟨some 27, some (26, true), .fa 0 (.s 11)⟩,
    ⟨some 28, some (26, true), .ld false 1 (.s 27)⟩,
    ⟨some 29, some (26, true), .mv (.s 2)⟩,
    ⟨some 30, some (26, true), .bin .eql (.s 28) (.s 29)⟩,
    ⟨some 31, none, .pick (.s 26) (.s 30) (.c (.t (.bool false)))⟩,
    ⟨some 32, none, .mv (.s 31)⟩,
    ⟨some 33, some (32, true), .fa 2 (.s 11)⟩,
    ⟨some 34, some (32, true), .ld false 1 (.s 33)⟩,
    ⟨some 35, some (32, true), .mv (.s 3)⟩,
    ⟨some 36, some (32, true), .bin .leq (.s 34) (.s 35)⟩,
    ⟨some 37, none, .pick (.s 32) (.s 36) (.c (.t (.bool false)))⟩,
    ⟨some 38, none, .mv (.s 37)⟩,
    ⟨some 39, some (38, true), .mv (.s 3)⟩,
    ⟨some 40, some (38, true), .fa 3 (.s 11)⟩,
    ⟨some 41, some (38, true), .ld false 1 (.s 40)⟩,
    ⟨some 42, some (38, true), .bin .lss (.s 39) (.s 41)⟩,
    ⟨some 43, none, .pick (.s 38) (.s 42) (.c (.t (.bool false)))⟩] [] [1, 2, 3, 9, 11, 12, 13, 14, 43]) c22_3)
def c22_5 : ACode :=
  (.seq (.region false [⟨some 16, none, .ia 6 (.s 12) (.s 14)⟩,
    ⟨some 17, none, .ld true 6 (.s 16)⟩,
    ⟨some 11, none, .alloc [.t (.int .i64 0), .t (.int .i64 0), .t (.int .i64 0), .t (.int .i64 0), .t (.int .i64 0), .t (.str [])]⟩,
    ⟨none, none, .st 6 (.s 11) (.s 17)⟩] [] [1, 2, 3, 9, 11, 12, 13, 14]) c22_4)
def c22_6 : ACode :=
  (.seq (.block 1 c22_5) c22_1)
def c22_7 : ACode :=
  (.seq (.cond (.s 15) .skip (.exit 0)) c22_6)
def c22_8 : ACode :=
  (.seq (.region false [⟨some 15, none, .bin .lss (.s 14) (.s 13)⟩] [] [1, 2, 3, 9, 12, 13, 14, 15]) c22_7)
def c22_9 : ACode :=
  (.loop c22_8)
def c22_10 : ACode :=
  (.block 0 c22_9)
def c22_11 : ACode :=
  (.seq (.seq (.region false [⟨some 12, none, .mv (.s 0)⟩,
    ⟨some 13, none, .len (.s 12)⟩,
    ⟨some 14, none, .cst (.t (.int .i64 0))⟩] [] [1, 2, 3, 9, 12, 13, 14]) c22_10) c22_0)
def c22_12 : ACode :=
  (.seq (.region false [⟨some 9, none, .cst (.nils)⟩] [] [0, 1, 2, 3, 9]) c22_11)
def c22 : ACode :=
  (.seq (.region false [⟨some 8, none, .cst (.nils)⟩] [] [0, 1, 2, 3]) c22_12)
def r22 : List ARes := [.tmp 8]
def n22 : Nat := 50
/- 23 supergraph supergraphref52.effect -/
def c23_0 : ACode :=
  (.seq (.region false [⟨some 9, none, .ld true 6 (.s 4)⟩,
    ⟨some 10, none, .call 9 [(.s 9)]⟩,
    ⟨some 11, none, .mv (.s 10)⟩,
    ⟨some 12, some (11, true), .fa 1 (.s 4)⟩,
    ⟨some 13, some (11, true), .ld false 1 (.s 12)⟩,
    ⟨some 14, some (11, true), .mv (.s 1)⟩,
    ⟨some 15, some (11, true), .bin .eql (.s 13) (.s 14)⟩,
    ⟨some 16, none, .pick (.s 11) (.s 15) (.c (.t (.bool false)))⟩,
    ⟨some 17, none, .mv (.s 16)⟩,
    ⟨some 18, some (17, true), .fa 0 (.s 4)⟩,
    ⟨some 19, some (17, true), .ld false 1 (.s 18)⟩,
    ⟨some 20, some (17, true), .mv (.s 2)⟩,
    ⟨some 21, some (17, true), .bin .eql (.s 19) (.s 20)⟩,
    ⟨some 22, none, .pick (.s 17) (.s 21) (.c (.t (.bool false)))⟩,
    ⟨some 23, none, .mv (.s 22)⟩,
    ⟨some 24, some (23, true), .fa 2 (.s 4)⟩,
    ⟨some 25, some (23, true), .ld false 1 (.s 24)⟩,
    ⟨some 26, some (23, true), .mv (.s 3)⟩,
    ⟨some 27, some (23, true), .bin .leq (.s 25) (.s 26)⟩,
    ⟨some 28, none, .pick (.s 23) (.s 27) (.c (.t (.bool false)))⟩,
    ⟨some 29, none, .mv (.s 28)⟩,
    ⟨some 30, some (29, true), .mv (.s 3)⟩,
    ⟨some 31, some (29, true), .fa 3 (.s 4)⟩,
    ⟨some 32, some (29, true), .ld false 1 (.s 31)⟩,
    ⟨some 33, some (29, true), .bin .lss (.s 30) (.s 32)⟩,
    ⟨some 34, none, .pick (.s 29) (.s 33) (.c (.t (.bool false)))⟩,
    ⟨some 8, none, .mv (.s 34)⟩] [] [8]) .ret)
def c23 : ACode :=
  (.seq (.region false [⟨some 4, none, .box 6 (.s 0)⟩,
    ⟨some 8, none, .cst (.t (.bool false))⟩] [] [1, 2, 3, 4]) c23_0)
def r23 : List ARes := [.tmp 8]
def n23 : Nat := 35
/- 24 slices.ContainsFunc[[]supergraph api.Behavior,supergraph api.Behavior] -/
def c24_0 : ACode :=
  (.seq (.region false [⟨some 5, none, .mv (.s 0)⟩,
    ⟨some 6, none, .mv (.s 1)⟩,
    ⟨some 7, none, .call 28 [(.s 5), (.s 6)]⟩,
    ⟨some 8, none, .bin .geq (.s 7) (.c (.t (.int .i64 0)))⟩,
    ⟨some 4, none, .mv (.s 8)⟩] [] [4]) .ret)
def c24 : ACode :=
  (.seq (.region false [⟨some 4, none, .cst (.t (.bool false))⟩] [] [0, 1]) c24_0)
def r24 : List ARes := [.tmp 4]
def n24 : Nat := 9
/- 25 supergraph behavior.Fails 1 -/
def c25_0 : ACode :=
  (.seq (.region false [⟨some 4, none, .fa 5 (.s 2)⟩,
    ⟨some 5, none, .ld false 1 (.s 4)⟩,
    ⟨some 6, none, .ld false 1 (.s 1)⟩,
    ⟨some 7, none, .bin .eql (.s 5) (.s 6)⟩,
    ⟨some 3, none, .mv (.s 7)⟩] [] [3]) .ret)
def c25 : ACode :=
  (.seq (.region false [⟨some 2, none, .box 6 (.s 0)⟩,
    ⟨some 3, none, .cst (.t (.bool false))⟩] [] [1, 2]) c25_0)
def r25 : List ARes := [.tmp 3]
def n25 : Nat := 8
/- 26 internal stringslite.Cut -/
def c26_0 : ACode :=
  (.seq (.region false [⟨some 22, none, .mv (.s 0)⟩,
    ⟨some 4, none, .mv (.s 22)⟩,
    ⟨some 5, none, .cst (.t (.str []))⟩,
    ⟨some 6, none, .cst (.t (.bool false))⟩] [] [4, 5, 6]) .ret)
def c26_1 : ACode :=
  (.seq (.region true [⟨some 13, none, .mv (.s 0)⟩,
    ⟨some 14, none, .mv (.s 7)⟩,
    ⟨some 15, none, .sls (.s 13) none (some (.s 14))⟩,
    ⟨some 16, none, .mv (.s 0)⟩,
    ⟨some 17, none, .mv (.s 7)⟩,
    ⟨some 18, none, .mv (.s 1)⟩,
    ⟨some 19, none, .lens (.s 18)⟩,
    ⟨some 20, none, .bin .add (.s 17) (.s 19)⟩,
    ⟨some 21, none, .sls (.s 16) (some (.s 20)) none⟩,
    ⟨some 4, none, .mv (.s 15)⟩,
    ⟨some 5, none, .mv (.s 21)⟩,
    ⟨some 6, none, .cst (.t (.bool true))⟩] [[], [], [0, 1], [], [], [], [5], [4, 6], [3, 7], [2, 0, 1, 2], [8, 9, 0, 1, 2, 3, 4, 5, 6, 7, 8, 9], [10, 0, 1, 2, 3, 4, 5, 6, 7, 8, 9, 10]] [4, 5, 6]) .ret)
def c26_2 : ACode :=
  (.cond (.s 12) c26_1 .skip)
def c26_3 : ACode :=
  (.seq (.region false [⟨some 11, none, .mv (.s 7)⟩,
    ⟨some 12, none, .bin .geq (.s 11) (.c (.t (.int .i64 0)))⟩] [] [0, 1, 7, 12]) c26_2)
def c26_4 : ACode :=
  (.seq (.seq (.region false [⟨some 8, none, .mv (.s 0)⟩,
    ⟨some 9, none, .mv (.s 1)⟩,
    ⟨some 10, none, .call 29 [(.s 8), (.s 9)]⟩,
    ⟨some 7, none, .mv (.s 10)⟩] [] [0, 1, 7]) c26_3) c26_0)
def c26 : ACode :=
  (.seq (.region false [⟨some 4, none, .cst (.t (.str []))⟩,
    ⟨some 5, none, .cst (.t (.str []))⟩,
    ⟨some 6, none, .cst (.t (.bool false))⟩] [] [0, 1]) c26_4)
def r26 : List ARes := [.tmp 4, .tmp 5, .tmp 6]
def n26 : Nat := 23
/- 27 supergraph supergraphref01.Name -/
def c27_0 : ACode :=
  (.seq (.region false [⟨some 2, none, .cst (.t (.bool true))⟩] [] [2]) .ret)
def c27_1 : ACode :=
  (.region false [⟨some 16, none, .mv (.s 3)⟩,
    ⟨some 17, none, .bin .add (.s 16) (.c (.t (.int .i64 1)))⟩,
    ⟨some 3, none, .mv (.s 17)⟩] [] [0, 3])
def c27_2 : ACode :=
  (.seq (.region false [⟨some 2, none, .cst (.t (.bool false))⟩] [] [2]) .ret)
def c27_3 : ACode :=
  (.cond (.s 33) c27_2 .skip)
def c27_4 : ACode :=
  (.seq (.region false [⟨some 18, none, .mv (.s 0)⟩,
    ⟨some 19, none, .mv (.s 3)⟩,
    ⟨some 20, none, .ixs (.s 18) (.s 19)⟩,
    ⟨some 21, none, .call 30 [(.s 20)]⟩,
    ⟨some 22, none, .un .not (.s 21)⟩,
    ⟨some 23, none, .mv (.s 22)⟩,
    ⟨some 24, some (23, true), .mv (.s 3)⟩,
    ⟨some 25, some (23, true), .bin .eql (.s 24) (.c (.t (.int .i64 0)))⟩,
    ⟨some 26, some (23, true), .mv (.s 25)⟩,
    ⟨some 27, some (26, false), .mv (.s 0)⟩,
    ⟨some 28, some (26, false), .mv (.s 3)⟩,
    ⟨some 29, some (26, false), .ixs (.s 27) (.s 28)⟩,
    ⟨some 30, some (26, false), .call 31 [(.s 29)]⟩,
    ⟨some 31, some (26, false), .un .not (.s 30)⟩,
    ⟨some 32, some (23, true), .pick (.s 26) (.c (.t (.bool true))) (.s 31)⟩,
    ⟨some 33, none, .pick (.s 23) (.s 32) (.c (.t (.bool false)))⟩] [] [0, 3, 33]) c27_3)
def c27_5 : ACode :=
  (.seq (.block 1 c27_4) c27_1)
def c27_6 : ACode :=
  (.cond (.s 15) .skip (.exit 0))
def c27_7 : ACode :=
  (.seq (.seq (.region false [⟨some 12, none, .mv (.s 3)⟩,
    ⟨some 13, none, .mv (.s 0)⟩,
    ⟨some 14, none, .lens (.s 13)⟩,
    ⟨some 15, none, .bin .lss (.s 12) (.s 14)⟩] [] [0, 3, 15]) c27_6) c27_5)
def c27_8 : ACode :=
  (.loop c27_7)
def c27_9 : ACode :=
  (.block 0 c27_8)
def c27_10 : ACode :=
  (.seq (.seq (.region false [⟨some 3, none, .cst (.t (.int .i64 0))⟩] [] [0, 3]) c27_9) c27_0)
def c27_11 : ACode :=
  (.seq (.region false [⟨some 2, none, .cst (.t (.bool false))⟩] [] [2]) .ret)
def c27_12 : ACode :=
  (.cond (.s 11) c27_11 .skip)
def c27_13 : ACode :=
  (.seq (.seq (.region false [⟨some 4, none, .mv (.s 0)⟩,
    ⟨some 5, none, .lens (.s 4)⟩,
    ⟨some 6, none, .bin .lss (.s 5) (.c (.t (.int .i64 1)))⟩,
    ⟨some 7, none, .mv (.s 6)⟩,
    ⟨some 8, some (7, false), .mv (.s 0)⟩,
    ⟨some 9, some (7, false), .lens (.s 8)⟩,
    ⟨some 10, some (7, false), .bin .gtr (.s 9) (.c (.t (.int .i64 64)))⟩,
    ⟨some 11, none, .pick (.s 7) (.c (.t (.bool true))) (.s 10)⟩] [] [0, 11]) c27_12) c27_10)
def c27 : ACode :=
  (.seq (.region false [⟨some 2, none, .cst (.t (.bool false))⟩] [] [0]) c27_13)
def r27 : List ARes := [.tmp 2]
def n27 : Nat := 34
/- 28 slices.IndexFunc[[]supergraph api.Behavior,supergraph api.Behavior] -/
def c28_0 : ACode :=
  (.seq (.region false [⟨some 4, none, .cst (.t (.int .i64 (-1)))⟩] [] [4]) .ret)
def c28_1 : ACode :=
  (.region false [⟨some 18, none, .bin .add (.s 8) (.c (.t (.int .i64 1)))⟩,
    ⟨some 8, none, .mv (.s 18)⟩] [] [0, 1, 7, 8])
def c28_2 : ACode :=
  (.seq (.region false [⟨some 17, none, .mv (.s 5)⟩,
    ⟨some 4, none, .mv (.s 17)⟩] [] [4]) .ret)
def c28_3 : ACode :=
  (.cond (.s 16) c28_2 .skip)
def c28_4 : ACode :=
  (.seq (.region false [⟨some 11, none, .mv (.s 1)⟩,
    ⟨some 12, none, .mv (.s 0)⟩,
    ⟨some 13, none, .mv (.s 5)⟩,
    ⟨some 14, none, .ia 6 (.s 12) (.s 13)⟩,
    ⟨some 15, none, .ld true 6 (.s 14)⟩,
    ⟨some 16, none, .callv (.s 11) [(.s 15)]⟩] [] [0, 1, 5, 7, 8, 16]) c28_3)
def c28_5 : ACode :=
  (.seq (.region false [⟨some 10, none, .mv (.s 8)⟩,
    ⟨some 5, none, .mv (.s 10)⟩] [] [0, 1, 5, 7, 8]) c28_4)
def c28_6 : ACode :=
  (.seq (.block 1 c28_5) c28_1)
def c28_7 : ACode :=
  (.seq (.cond (.s 9) .skip (.exit 0)) c28_6)
def c28_8 : ACode :=
  (.seq (.region false [⟨some 9, none, .bin .lss (.s 8) (.s 7)⟩] [] [0, 1, 7, 8, 9]) c28_7)
def c28_9 : ACode :=
  (.loop c28_8)
def c28_10 : ACode :=
  (.block 0 c28_9)
def c28_11 : ACode :=
  (.seq (.seq (.region false [⟨some 6, none, .mv (.s 0)⟩,
    ⟨some 7, none, .len (.s 6)⟩,
    ⟨some 8, none, .cst (.t (.int .i64 0))⟩] [] [0, 1, 7, 8]) c28_10) c28_0)
def c28 : ACode :=
  (.seq (.region false [⟨some 4, none, .cst (.t (.int .i64 0))⟩] [] [0, 1]) c28_11)
def r28 : List ARes := [.tmp 4]
def n28 : Nat := 19
-- 29 internal/stringslite.Index: not resolved
/- 30 supergraph supergraphref01.letter -/
def c30_0 : ACode :=
  (.seq (.region false [⟨some 3, none, .mv (.s 0)⟩,
    ⟨some 4, none, .bin .geq (.s 3) (.c (.t (.int .u8 65)))⟩,
    ⟨some 5, none, .mv (.s 4)⟩,
    ⟨some 6, some (5, true), .mv (.s 0)⟩,
    ⟨some 7, some (5, true), .bin .leq (.s 6) (.c (.t (.int .u8 90)))⟩,
    ⟨some 8, none, .pick (.s 5) (.s 7) (.c (.t (.bool false)))⟩,
    ⟨some 9, none, .mv (.s 8)⟩,
    ⟨some 10, some (9, false), .mv (.s 0)⟩,
    ⟨some 11, some (9, false), .bin .geq (.s 10) (.c (.t (.int .u8 97)))⟩,
    ⟨some 12, some (9, false), .mv (.s 11)⟩,
    ⟨some 13, some (12, true), .mv (.s 0)⟩,
    ⟨some 14, some (12, true), .bin .leq (.s 13) (.c (.t (.int .u8 122)))⟩,
    ⟨some 15, some (9, false), .pick (.s 12) (.s 14) (.c (.t (.bool false)))⟩,
    ⟨some 16, none, .pick (.s 9) (.c (.t (.bool true))) (.s 15)⟩,
    ⟨some 17, none, .mv (.s 16)⟩,
    ⟨some 18, some (17, false), .mv (.s 0)⟩,
    ⟨some 19, some (17, false), .bin .eql (.s 18) (.c (.t (.int .u8 95)))⟩,
    ⟨some 20, none, .pick (.s 17) (.c (.t (.bool true))) (.s 19)⟩,
    ⟨some 2, none, .mv (.s 20)⟩] [] [2]) .ret)
def c30 : ACode :=
  (.seq (.region false [⟨some 2, none, .cst (.t (.bool false))⟩] [] [0]) c30_0)
def r30 : List ARes := [.tmp 2]
def n30 : Nat := 21
/- 31 supergraph supergraphref01.digit -/
def c31_0 : ACode :=
  (.seq (.region false [⟨some 3, none, .mv (.s 0)⟩,
    ⟨some 4, none, .bin .geq (.s 3) (.c (.t (.int .u8 48)))⟩,
    ⟨some 5, none, .mv (.s 4)⟩,
    ⟨some 6, some (5, true), .mv (.s 0)⟩,
    ⟨some 7, some (5, true), .bin .leq (.s 6) (.c (.t (.int .u8 57)))⟩,
    ⟨some 8, none, .pick (.s 5) (.s 7) (.c (.t (.bool false)))⟩,
    ⟨some 2, none, .mv (.s 8)⟩] [] [2]) .ret)
def c31 : ACode :=
  (.seq (.region false [⟨some 2, none, .cst (.t (.bool false))⟩] [] [0]) c31_0)
def r31 : List ARes := [.tmp 2]
def n31 : Nat := 9
/- 32 internal stringslite.IndexByte -/
def c32_0 : ACode :=
  (.seq (.region false [⟨some 5, none, .mv (.s 0)⟩,
    ⟨some 6, none, .mv (.s 1)⟩,
    ⟨some 7, none, .call 36 [(.s 5), (.s 6)]⟩,
    ⟨some 4, none, .mv (.s 7)⟩] [] [4]) .ret)
def c32 : ACode :=
  (.seq (.region false [⟨some 4, none, .cst (.t (.int .i64 0))⟩] [] [0, 1]) c32_0)
def r32 : List ARes := [.tmp 4]
def n32 : Nat := 8
/- 34 internal bytealg.Cutover -/
def c34_0 : ACode :=
  (.seq (.region false [⟨some 3, none, .mv (.s 0)⟩,
    ⟨some 4, none, .bin .add (.s 3) (.c (.t (.int .i64 16)))⟩,
    ⟨some 5, none, .bin .quo (.s 4) (.c (.t (.int .i64 8)))⟩,
    ⟨some 2, none, .mv (.s 5)⟩] [] [2]) .ret)
def c34 : ACode :=
  (.seq (.region false [⟨some 2, none, .cst (.t (.int .i64 0))⟩] [] [0]) c34_0)
def r34 : List ARes := [.tmp 2]
def n34 : Nat := 6
/- 35 internal bytealg.IndexRabinKarp[string] -/
def c35_0 : ACode :=
  (.seq (.region false [⟨some 4, none, .cst (.t (.int .i64 (-1)))⟩] [] [4]) .ret)
def c35_1 : ACode :=
  (.seq (.region false [⟨some 78, none, .mv (.s 10)⟩,
    ⟨some 79, none, .mv (.s 7)⟩,
    ⟨some 80, none, .bin .sub (.s 78) (.s 79)⟩,
    ⟨some 4, none, .mv (.s 80)⟩] [] [4]) .ret)
def c35_2 : ACode :=
  (.cond (.s 77) c35_1 .skip)
def c35_3 : ACode :=
  (.seq (.region false [⟨some 65, none, .mv (.s 8)⟩,
    ⟨some 66, none, .mv (.s 5)⟩,
    ⟨some 67, none, .bin .eql (.s 65) (.s 66)⟩,
    ⟨some 68, none, .mv (.s 67)⟩,
    ⟨some 69, some (68, true), .mv (.s 0)⟩,
    ⟨some 70, some (68, true), .mv (.s 10)⟩,
    ⟨some 71, some (68, true), .mv (.s 7)⟩,
    ⟨some 72, some (68, true), .bin .sub (.s 70) (.s 71)⟩,
    ⟨some 73, some (68, true), .mv (.s 10)⟩,
    ⟨some 74, some (68, true), .sls (.s 69) (some (.s 72)) (some (.s 73))⟩,
    ⟨some 75, some (68, true), .mv (.s 1)⟩,
    ⟨some 76, some (68, true), .bin .eql (.s 74) (.s 75)⟩,
    ⟨some 77, none, .pick (.s 68) (.s 76) (.c (.t (.bool false)))⟩] [] [0, 1, 5, 6, 7, 8, 10, 77]) c35_2)
def c35_4 : ACode :=
  (.seq (.region false [⟨some 63, none, .mv (.s 10)⟩,
    ⟨some 64, none, .bin .add (.s 63) (.c (.t (.int .i64 1)))⟩,
    ⟨some 10, none, .mv (.s 64)⟩] [] [0, 1, 5, 6, 7, 8, 10]) c35_3)
def c35_5 : ACode :=
  (.seq (.region false [⟨some 53, none, .mv (.s 8)⟩,
    ⟨some 54, none, .mv (.s 6)⟩,
    ⟨some 55, none, .mv (.s 0)⟩,
    ⟨some 56, none, .mv (.s 10)⟩,
    ⟨some 57, none, .mv (.s 7)⟩,
    ⟨some 58, none, .bin .sub (.s 56) (.s 57)⟩,
    ⟨some 59, none, .ixs (.s 55) (.s 58)⟩,
    ⟨some 60, none, .conv .u32 (.s 59)⟩,
    ⟨some 61, none, .bin .mul (.s 54) (.s 60)⟩,
    ⟨some 62, none, .bin .sub (.s 53) (.s 61)⟩,
    ⟨some 8, none, .mv (.s 62)⟩] [] [0, 1, 5, 6, 7, 8, 10]) c35_4)
def c35_6 : ACode :=
  (.seq (.region false [⟨some 47, none, .mv (.s 8)⟩,
    ⟨some 48, none, .mv (.s 0)⟩,
    ⟨some 49, none, .mv (.s 10)⟩,
    ⟨some 50, none, .ixs (.s 48) (.s 49)⟩,
    ⟨some 51, none, .conv .u32 (.s 50)⟩,
    ⟨some 52, none, .bin .add (.s 47) (.s 51)⟩,
    ⟨some 8, none, .mv (.s 52)⟩] [] [0, 1, 5, 6, 7, 8, 10]) c35_5)
def c35_7 : ACode :=
  (.seq (.region false [⟨some 45, none, .mv (.s 8)⟩,
    ⟨some 46, none, .bin .mul (.s 45) (.c (.t (.int .u32 16777619)))⟩,
    ⟨some 8, none, .mv (.s 46)⟩] [] [0, 1, 5, 6, 7, 8, 10]) c35_6)
def c35_8 : ACode :=
  (.block 3 c35_7)
def c35_9 : ACode :=
  (.cond (.s 44) .skip (.exit 2))
def c35_10 : ACode :=
  (.seq (.seq (.region false [⟨some 41, none, .mv (.s 10)⟩,
    ⟨some 42, none, .mv (.s 0)⟩,
    ⟨some 43, none, .lens (.s 42)⟩,
    ⟨some 44, none, .bin .lss (.s 41) (.s 43)⟩] [] [0, 1, 5, 6, 7, 8, 10, 44]) c35_9) c35_8)
def c35_11 : ACode :=
  (.loop c35_10)
def c35_12 : ACode :=
  (.block 2 c35_11)
def c35_13 : ACode :=
  (.seq (.seq (.region false [⟨some 40, none, .mv (.s 7)⟩,
    ⟨some 10, none, .mv (.s 40)⟩] [] [0, 1, 5, 6, 7, 8, 10]) c35_12) c35_0)
def c35_14 : ACode :=
  (.seq (.region false [⟨some 4, none, .cst (.t (.int .i64 0))⟩] [] [4]) .ret)
def c35_15 : ACode :=
  (.cond (.s 39) c35_14 .skip)
def c35_16 : ACode :=
  (.seq (.seq (.region false [⟨some 30, none, .mv (.s 8)⟩,
    ⟨some 31, none, .mv (.s 5)⟩,
    ⟨some 32, none, .bin .eql (.s 30) (.s 31)⟩,
    ⟨some 33, none, .mv (.s 32)⟩,
    ⟨some 34, some (33, true), .mv (.s 0)⟩,
    ⟨some 35, some (33, true), .mv (.s 7)⟩,
    ⟨some 36, some (33, true), .sls (.s 34) none (some (.s 35))⟩,
    ⟨some 37, some (33, true), .mv (.s 1)⟩,
    ⟨some 38, some (33, true), .bin .eql (.s 36) (.s 37)⟩,
    ⟨some 39, none, .pick (.s 33) (.s 38) (.c (.t (.bool false)))⟩] [] [0, 1, 5, 6, 7, 8, 39]) c35_15) c35_13)
def c35_17 : ACode :=
  (.region false [⟨some 21, none, .mv (.s 9)⟩,
    ⟨some 22, none, .bin .add (.s 21) (.c (.t (.int .i64 1)))⟩,
    ⟨some 9, none, .mv (.s 22)⟩] [] [0, 1, 5, 6, 7, 8, 9])
def c35_18 : ACode :=
  (.region false [⟨some 23, none, .mv (.s 8)⟩,
    ⟨some 24, none, .bin .mul (.s 23) (.c (.t (.int .u32 16777619)))⟩,
    ⟨some 25, none, .mv (.s 0)⟩,
    ⟨some 26, none, .mv (.s 9)⟩,
    ⟨some 27, none, .ixs (.s 25) (.s 26)⟩,
    ⟨some 28, none, .conv .u32 (.s 27)⟩,
    ⟨some 29, none, .bin .add (.s 24) (.s 28)⟩,
    ⟨some 8, none, .mv (.s 29)⟩] [] [0, 1, 5, 6, 7, 8, 9])
def c35_19 : ACode :=
  (.seq (.block 1 c35_18) c35_17)
def c35_20 : ACode :=
  (.cond (.s 20) .skip (.exit 0))
def c35_21 : ACode :=
  (.seq (.seq (.region false [⟨some 18, none, .mv (.s 9)⟩,
    ⟨some 19, none, .mv (.s 7)⟩,
    ⟨some 20, none, .bin .lss (.s 18) (.s 19)⟩] [] [0, 1, 5, 6, 7, 8, 9, 20]) c35_20) c35_19)
def c35_22 : ACode :=
  (.loop c35_21)
def c35_23 : ACode :=
  (.block 0 c35_22)
def c35_24 : ACode :=
  (.seq (.seq (.region false [⟨some 9, none, .cst (.t (.int .i64 0))⟩] [] [0, 1, 5, 6, 7, 8, 9]) c35_23) c35_16)
def c35_25 : ACode :=
  (.seq (.region false [⟨some 8, none, .cst (.t (.int .u32 0))⟩] [] [0, 1, 5, 6, 7, 8]) c35_24)
def c35_26 : ACode :=
  (.seq (.region false [⟨some 16, none, .mv (.s 1)⟩,
    ⟨some 17, none, .lens (.s 16)⟩,
    ⟨some 7, none, .mv (.s 17)⟩] [] [0, 1, 5, 6, 7]) c35_25)
def c35_27 : ACode :=
  (.seq (.region false [⟨some 12, none, .mv (.s 1)⟩,
    ⟨some 13, none, .call 37 [(.s 12)]⟩,
    ⟨some 11, none, .mv (.s 13)⟩,
    ⟨some 14, none, .ext (.s 11) 0⟩,
    ⟨some 15, none, .ext (.s 11) 1⟩,
    ⟨some 5, none, .mv (.s 14)⟩,
    ⟨some 6, none, .mv (.s 15)⟩] [] [0, 1, 5, 6]) c35_26)
def c35 : ACode :=
  (.seq (.region false [⟨some 4, none, .cst (.t (.int .i64 0))⟩] [] [0, 1]) c35_27)
def r35 : List ARes := [.tmp 4]
def n35 : Nat := 81
/- 37 internal bytealg.hashStr[string] -/
def c37_0 : ACode :=
  (.seq (.region false [⟨some 37, none, .mv (.s 4)⟩,
    ⟨some 38, none, .mv (.s 6)⟩,
    ⟨some 2, none, .mv (.s 37)⟩,
    ⟨some 3, none, .mv (.s 38)⟩] [] [2, 3]) .ret)
def c37_1 : ACode :=
  (.region false [⟨some 26, none, .mv (.s 8)⟩,
    ⟨some 27, none, .bin .shr (.s 26) (.c (.t (.int .u64 1)))⟩,
    ⟨some 8, none, .mv (.s 27)⟩] [] [4, 6, 7, 8])
def c37_2 : ACode :=
  (.region false [⟨some 34, none, .mv (.s 7)⟩,
    ⟨some 35, none, .mv (.s 7)⟩,
    ⟨some 36, none, .bin .mul (.s 34) (.s 35)⟩,
    ⟨some 7, none, .mv (.s 36)⟩] [] [4, 6, 7, 8])
def c37_3 : ACode :=
  (.region false [⟨some 31, none, .mv (.s 6)⟩,
    ⟨some 32, none, .mv (.s 7)⟩,
    ⟨some 33, none, .bin .mul (.s 31) (.s 32)⟩,
    ⟨some 6, none, .mv (.s 33)⟩] [] [4, 6, 7, 8])
def c37_4 : ACode :=
  (.cond (.s 30) c37_3 .skip)
def c37_5 : ACode :=
  (.seq (.seq (.region false [⟨some 28, none, .mv (.s 8)⟩,
    ⟨some 29, none, .bin .and (.s 28) (.c (.t (.int .i64 1)))⟩,
    ⟨some 30, none, .bin .neq (.s 29) (.c (.t (.int .i64 0)))⟩] [] [4, 6, 7, 8, 30]) c37_4) c37_2)
def c37_6 : ACode :=
  (.seq (.block 3 c37_5) c37_1)
def c37_7 : ACode :=
  (.cond (.s 25) .skip (.exit 2))
def c37_8 : ACode :=
  (.seq (.seq (.region false [⟨some 24, none, .mv (.s 8)⟩,
    ⟨some 25, none, .bin .gtr (.s 24) (.c (.t (.int .i64 0)))⟩] [] [4, 6, 7, 8, 25]) c37_7) c37_6)
def c37_9 : ACode :=
  (.loop c37_8)
def c37_10 : ACode :=
  (.block 2 c37_9)
def c37_11 : ACode :=
  (.seq (.seq (.region false [⟨some 22, none, .mv (.s 0)⟩,
    ⟨some 23, none, .lens (.s 22)⟩,
    ⟨some 8, none, .mv (.s 23)⟩] [] [4, 6, 7, 8]) c37_10) c37_0)
def c37_12 : ACode :=
  (.seq (.region false [⟨some 6, none, .cst (.t (.int .u32 1))⟩,
    ⟨some 7, none, .cst (.t (.int .u32 16777619))⟩] [] [0, 4, 6, 7]) c37_11)
def c37_13 : ACode :=
  (.region false [⟨some 13, none, .mv (.s 5)⟩,
    ⟨some 14, none, .bin .add (.s 13) (.c (.t (.int .i64 1)))⟩,
    ⟨some 5, none, .mv (.s 14)⟩] [] [0, 4, 5])
def c37_14 : ACode :=
  (.region false [⟨some 15, none, .mv (.s 4)⟩,
    ⟨some 16, none, .bin .mul (.s 15) (.c (.t (.int .u32 16777619)))⟩,
    ⟨some 17, none, .mv (.s 0)⟩,
    ⟨some 18, none, .mv (.s 5)⟩,
    ⟨some 19, none, .ixs (.s 17) (.s 18)⟩,
    ⟨some 20, none, .conv .u32 (.s 19)⟩,
    ⟨some 21, none, .bin .add (.s 16) (.s 20)⟩,
    ⟨some 4, none, .mv (.s 21)⟩] [] [0, 4, 5])
def c37_15 : ACode :=
  (.seq (.block 1 c37_14) c37_13)
def c37_16 : ACode :=
  (.cond (.s 12) .skip (.exit 0))
def c37_17 : ACode :=
  (.seq (.seq (.region false [⟨some 9, none, .mv (.s 5)⟩,
    ⟨some 10, none, .mv (.s 0)⟩,
    ⟨some 11, none, .lens (.s 10)⟩,
    ⟨some 12, none, .bin .lss (.s 9) (.s 11)⟩] [] [0, 4, 5, 12]) c37_16) c37_15)
def c37_18 : ACode :=
  (.loop c37_17)
def c37_19 : ACode :=
  (.block 0 c37_18)
def c37_20 : ACode :=
  (.seq (.seq (.region false [⟨some 5, none, .cst (.t (.int .i64 0))⟩] [] [0, 4, 5]) c37_19) c37_12)
def c37_21 : ACode :=
  (.seq (.region false [⟨some 4, none, .cst (.t (.int .u32 0))⟩] [] [0, 4]) c37_20)
def c37 : ACode :=
  (.seq (.region false [⟨some 2, none, .cst (.t (.int .u32 0))⟩,
    ⟨some 3, none, .cst (.t (.int .u32 0))⟩] [] [0]) c37_21)
def r37 : List ARes := [.tmp 2, .tmp 3]
def n37 : Nat := 39

end Go.GB.C52
