/-
  YtpagjojfjeanlaaP5: lemmas of this proof (part 5). No conditions.
-/
import Derived.Test.YtpagjojfjeanlaaP3
import Derived.Test.YtpagjojfjeanlaaP4

/-
  C35Code: the code of chapter 35's functions as abstract code (printed by program).
-/
namespace Go.GB.C35
open Go.GB
/- 3 supergraph supergraphlaw35.LoaderRuns -/
def c3_0 : ACode :=
  (.seq (.region false [⟨some 93, none, .call 10 []⟩,
    ⟨some 4, none, .mv (.s 93)⟩] [] [4]) .ret)
def c3_1 : ACode :=
  (.region false [⟨some 40, none, .mv (.s 10)⟩,
    ⟨some 41, none, .bin .add (.s 40) (.c (.t (.int .i64 1)))⟩,
    ⟨some 10, none, .mv (.s 41)⟩] [] [1, 5, 7, 9, 10])
def c3_2 : ACode :=
  (.seq (.region false [⟨some 4, none, .cst (.t (.bool false))⟩] [] [4]) .ret)
def c3_3 : ACode :=
  (.cond (.s 92) c3_2 .skip)
def c3_4 : ACode :=
  (.seq (.region false [⟨some 77, none, .mv (.s 11)⟩,
    ⟨some 78, none, .un .not (.s 77)⟩,
    ⟨some 79, none, .mv (.s 78)⟩,
    ⟨some 80, some (79, false), .mv (.s 5)⟩,
    ⟨some 81, some (79, false), .call 12 [(.s 80)]⟩,
    ⟨some 82, some (79, false), .mv (.s 7)⟩,
    ⟨some 83, some (79, false), .call 13 [(.s 82)]⟩,
    ⟨some 84, some (79, false), .bin .neq (.s 81) (.s 83)⟩,
    ⟨some 85, none, .pick (.s 79) (.c (.t (.bool true))) (.s 84)⟩,
    ⟨some 86, none, .mv (.s 85)⟩,
    ⟨some 87, some (86, false), .mv (.s 5)⟩,
    ⟨some 88, some (86, false), .call 14 [(.s 87)]⟩,
    ⟨some 89, some (86, false), .mv (.s 7)⟩,
    ⟨some 90, some (86, false), .call 15 [(.s 89)]⟩,
    ⟨some 91, some (86, false), .bin .neq (.s 88) (.s 90)⟩,
    ⟨some 92, none, .pick (.s 86) (.c (.t (.bool true))) (.s 91)⟩] [] [1, 5, 7, 9, 10, 92]) c3_3)
def c3_5 : ACode :=
  (.seq (.region false [⟨some 67, none, .mv (.s 5)⟩,
    ⟨some 68, none, .mv (.s 7)⟩,
    ⟨some 69, none, .mv (.s 1)⟩,
    ⟨some 70, none, .mv (.s 10)⟩,
    ⟨some 71, none, .ia 8 (.s 69) (.s 70)⟩,
    ⟨some 72, none, .ld true 8 (.s 71)⟩,
    ⟨some 73, none, .mv (.s 9)⟩,
    ⟨some 74, none, .call 11 [(.s 67), (.s 68), (.s 72), (.s 73)]⟩,
    ⟨some 66, none, .mv (.s 74)⟩,
    ⟨some 75, none, .ext (.s 66) 0⟩,
    ⟨some 76, none, .ext (.s 66) 1⟩,
    ⟨some 11, none, .mv (.s 75)⟩,
    ⟨some 9, none, .mv (.s 76)⟩] [] [1, 5, 7, 9, 10, 11]) c3_4)
def c3_6 : ACode :=
  (.seq (.region false [⟨some 11, none, .cst (.t (.bool false))⟩] [] [1, 5, 7, 9, 10]) c3_5)
def c3_7 : ACode :=
  (.seq (.region false [⟨some 65, none, .call 10 []⟩,
    ⟨some 4, none, .mv (.s 65)⟩] [] [4]) .ret)
def c3_8 : ACode :=
  (.cond (.s 64) c3_7 .skip)
def c3_9 : ACode :=
  (.seq (.seq (.region false [⟨some 42, none, .mv (.s 1)⟩,
    ⟨some 43, none, .mv (.s 10)⟩,
    ⟨some 44, none, .ia 8 (.s 42) (.s 43)⟩,
    ⟨some 45, none, .fa 3 (.s 44)⟩,
    ⟨some 46, none, .ld true 5 (.s 45)⟩,
    ⟨some 47, none, .call 9 [(.s 46)]⟩,
    ⟨some 48, none, .bin .gtr (.s 47) (.c (.t (.int .i64 50)))⟩,
    ⟨some 49, none, .mv (.s 48)⟩,
    ⟨some 50, some (49, false), .mv (.s 1)⟩,
    ⟨some 51, some (49, false), .mv (.s 10)⟩,
    ⟨some 52, some (49, false), .ia 8 (.s 50) (.s 51)⟩,
    ⟨some 53, some (49, false), .fa 2 (.s 52)⟩,
    ⟨some 54, some (49, false), .ld false 1 (.s 53)⟩,
    ⟨some 55, some (49, false), .bin .gtr (.s 54) (.c (.t (.int .i64 100)))⟩,
    ⟨some 56, none, .pick (.s 49) (.c (.t (.bool true))) (.s 55)⟩,
    ⟨some 57, none, .mv (.s 56)⟩,
    ⟨some 58, some (57, false), .mv (.s 1)⟩,
    ⟨some 59, some (57, false), .mv (.s 10)⟩,
    ⟨some 60, some (57, false), .ia 8 (.s 58) (.s 59)⟩,
    ⟨some 61, some (57, false), .fa 2 (.s 60)⟩,
    ⟨some 62, some (57, false), .ld false 1 (.s 61)⟩,
    ⟨some 63, some (57, false), .bin .lss (.s 62) (.c (.t (.int .i64 (-100))))⟩,
    ⟨some 64, none, .pick (.s 57) (.c (.t (.bool true))) (.s 63)⟩] [] [1, 5, 7, 9, 10, 64]) c3_8) c3_6)
def c3_10 : ACode :=
  (.seq (.block 1 c3_9) c3_1)
def c3_11 : ACode :=
  (.cond (.s 39) .skip (.exit 0))
def c3_12 : ACode :=
  (.seq (.seq (.region false [⟨some 32, none, .mv (.s 10)⟩,
    ⟨some 33, none, .mv (.s 1)⟩,
    ⟨some 34, none, .len (.s 33)⟩,
    ⟨some 35, none, .bin .lss (.s 32) (.s 34)⟩,
    ⟨some 36, none, .mv (.s 35)⟩,
    ⟨some 37, some (36, true), .mv (.s 10)⟩,
    ⟨some 38, some (36, true), .bin .lss (.s 37) (.c (.t (.int .i64 100)))⟩,
    ⟨some 39, none, .pick (.s 36) (.s 38) (.c (.t (.bool false)))⟩] [] [1, 5, 7, 9, 10, 39]) c3_11) c3_10)
def c3_13 : ACode :=
  (.loop c3_12)
def c3_14 : ACode :=
  (.block 0 c3_13)
def c3_15 : ACode :=
  (.seq (.seq (.region false [⟨some 10, none, .cst (.t (.int .i64 0))⟩] [] [1, 5, 7, 9, 10]) c3_14) c3_0)
def c3_16 : ACode :=
  (.seq (.region false [⟨some 9, none, .cst (.t (.int .i64 0))⟩] [] [1, 5, 7, 9]) c3_15)
def c3_17 : ACode :=
  (.seq (.region false [⟨some 4, none, .cst (.t (.bool false))⟩] [] [4]) .ret)
def c3_18 : ACode :=
  (.cond (.s 31) c3_17 .skip)
def c3_19 : ACode :=
  (.seq (.seq (.region false [⟨some 22, none, .mv (.s 6)⟩,
    ⟨some 23, none, .mv (.s 8)⟩,
    ⟨some 24, none, .bin .neq (.s 22) (.s 23)⟩,
    ⟨some 25, none, .mv (.s 24)⟩,
    ⟨some 26, some (25, false), .mv (.s 5)⟩,
    ⟨some 27, some (25, false), .eqp false (.s 26)⟩,
    ⟨some 28, some (25, false), .mv (.s 7)⟩,
    ⟨some 29, some (25, false), .eqp false (.s 28)⟩,
    ⟨some 30, some (25, false), .eqb true (.s 27) (.s 29)⟩,
    ⟨some 31, none, .pick (.s 25) (.c (.t (.bool true))) (.s 30)⟩] [] [1, 5, 7, 31]) c3_18) c3_16)
def c3_20 : ACode :=
  (.seq (.region false [⟨some 18, none, .mv (.s 0)⟩,
    ⟨some 19, none, .call 8 [(.s 18)]⟩,
    ⟨some 17, none, .mv (.s 19)⟩,
    ⟨some 20, none, .ext (.s 17) 0⟩,
    ⟨some 21, none, .ext (.s 17) 1⟩,
    ⟨some 7, none, .mv (.s 20)⟩,
    ⟨some 8, none, .mv (.s 21)⟩] [] [1, 5, 6, 7, 8]) c3_19)
def c3_21 : ACode :=
  (.seq (.region false [⟨some 13, none, .mv (.s 0)⟩,
    ⟨some 14, none, .call 7 [(.s 13)]⟩,
    ⟨some 12, none, .mv (.s 14)⟩,
    ⟨some 15, none, .ext (.s 12) 0⟩,
    ⟨some 16, none, .ext (.s 12) 1⟩,
    ⟨some 5, none, .mv (.s 15)⟩,
    ⟨some 6, none, .mv (.s 16)⟩] [] [0, 1, 5, 6]) c3_20)
def c3 : ACode :=
  (.seq (.region false [⟨some 4, none, .cst (.t (.bool false))⟩] [] [0, 1]) c3_21)
def r3 : List ARes := [.tmp 4]
def n3 : Nat := 94
/- 4 supergraph supergraphlaw35.LoaderNil -/
def c4_0 : ACode :=
  (.seq (.region false [⟨some 89, none, .call 10 []⟩,
    ⟨some 4, none, .mv (.s 89)⟩] [] [4]) .ret)
def c4_1 : ACode :=
  (.region false [⟨some 88, none, .bin .add (.s 23) (.c (.t (.int .i64 1)))⟩,
    ⟨some 23, none, .mv (.s 88)⟩] [] [0, 3, 21, 22, 23])
def c4_2 : ACode :=
  (.seq (.region false [⟨some 4, none, .cst (.t (.bool false))⟩] [] [4]) .ret)
def c4_3 : ACode :=
  (.cond (.s 87) c4_2 .skip)
def c4_4 : ACode :=
  (.seq (.region false [⟨some 51, none, .mv (.s 8)⟩,
    ⟨some 52, none, .bin .neq (.s 51) (.c (.t (.int .i64 0)))⟩,
    ⟨some 53, none, .mv (.s 52)⟩,
    ⟨some 54, some (53, false), .mv (.s 9)⟩,
    ⟨some 55, some (53, false), .bin .neq (.s 54) (.c (.t (.int .i64 1)))⟩,
    ⟨some 56, none, .pick (.s 53) (.c (.t (.bool true))) (.s 55)⟩,
    ⟨some 57, none, .mv (.s 56)⟩,
    ⟨some 58, some (57, false), .mv (.s 10)⟩,
    ⟨some 59, some (57, false), .len (.s 58)⟩,
    ⟨some 60, some (57, false), .bin .neq (.s 59) (.c (.t (.int .i64 0)))⟩,
    ⟨some 61, none, .pick (.s 57) (.c (.t (.bool true))) (.s 60)⟩,
    ⟨some 62, none, .mv (.s 61)⟩,
    ⟨some 63, some (62, false), .mv (.s 11)⟩,
    ⟨some 64, none, .pick (.s 62) (.c (.t (.bool true))) (.s 63)⟩,
    ⟨some 65, none, .mv (.s 64)⟩,
    ⟨some 66, some (65, false), .mv (.s 12)⟩,
    ⟨some 67, some (65, false), .bin .neq (.s 66) (.c (.t (.int .i64 1)))⟩,
    ⟨some 68, none, .pick (.s 65) (.c (.t (.bool true))) (.s 67)⟩,
    ⟨some 69, none, .mv (.s 68)⟩,
    ⟨some 70, some (69, false), .mv (.s 14)⟩,
    ⟨some 71, none, .pick (.s 69) (.c (.t (.bool true))) (.s 70)⟩,
    ⟨some 72, none, .mv (.s 71)⟩,
    ⟨some 73, some (72, false), .ld true 5 (.s 13)⟩,
    ⟨some 74, some (72, false), .build [.t (.int .i64 0), .t (.int .i64 0), .t (.str []), .nils, .nils] []⟩,
    ⟨some 75, some (72, false), .call 20 [(.s 73), (.s 74)]⟩,
    ⟨some 76, some (72, false), .un .not (.s 75)⟩,
    ⟨some 77, none, .pick (.s 72) (.c (.t (.bool true))) (.s 76)⟩,
    ⟨some 78, none, .mv (.s 77)⟩,
    ⟨some 79, some (78, false), .mv (.s 7)⟩,
    ⟨some 80, some (78, false), .call 12 [(.s 79)]⟩,
    ⟨some 81, some (78, false), .bin .neq (.s 80) (.c (.t (.int .i64 0)))⟩,
    ⟨some 82, none, .pick (.s 78) (.c (.t (.bool true))) (.s 81)⟩,
    ⟨some 83, none, .mv (.s 82)⟩,
    ⟨some 84, some (83, false), .mv (.s 7)⟩,
    ⟨some 85, some (83, false), .call 14 [(.s 84)]⟩,
    ⟨some 86, some (83, false), .bin .neq (.s 85) (.c (.t (.int .i64 0)))⟩,
    ⟨some 87, none, .pick (.s 83) (.c (.t (.bool true))) (.s 86)⟩] [] [0, 3, 21, 22, 23, 87]) c4_3)
def c4_5 : ACode :=
  (.seq (.region false [⟨some 46, none, .mv (.s 7)⟩,
    ⟨some 47, none, .mv (.s 0)⟩,
    ⟨some 48, none, .call 19 [(.s 46), (.s 47), (.c (.t (.int .i64 0)))]⟩,
    ⟨some 45, none, .mv (.s 48)⟩,
    ⟨some 49, none, .ext (.s 45) 0⟩,
    ⟨some 50, none, .ext (.s 45) 1⟩,
    ⟨some 13, none, .alloc [.t (.int .i64 0), .t (.int .i64 0), .t (.str []), .nils, .nils]⟩,
    ⟨none, none, .st 5 (.s 13) (.s 49)⟩,
    ⟨some 14, none, .mv (.s 50)⟩] [] [0, 3, 7, 8, 9, 10, 11, 12, 13, 14, 21, 22, 23]) c4_4)
def c4_6 : ACode :=
  (.seq (.region false [⟨some 40, none, .mv (.s 7)⟩,
    ⟨some 41, none, .mv (.s 0)⟩,
    ⟨some 42, none, .ld true 5 (.s 3)⟩,
    ⟨some 43, none, .bsl true 5 [[.int .i64 0, .int .i64 0, .str [], .lst [], .lst []]] [(0, (.s 42))]⟩,
    ⟨some 44, none, .call 18 [(.s 40), (.s 41), (.s 43)]⟩,
    ⟨some 12, none, .mv (.s 44)⟩] [] [0, 3, 7, 8, 9, 10, 11, 12, 21, 22, 23]) c4_5)
def c4_7 : ACode :=
  (.seq (.region false [⟨some 35, none, .mv (.s 7)⟩,
    ⟨some 36, none, .mv (.s 0)⟩,
    ⟨some 37, none, .call 17 [(.s 35), (.s 36)]⟩,
    ⟨some 34, none, .mv (.s 37)⟩,
    ⟨some 38, none, .ext (.s 34) 0⟩,
    ⟨some 39, none, .ext (.s 34) 1⟩,
    ⟨some 10, none, .mv (.s 38)⟩,
    ⟨some 11, none, .mv (.s 39)⟩] [] [0, 3, 7, 8, 9, 10, 11, 21, 22, 23]) c4_6)
def c4_8 : ACode :=
  (.seq (.region false [⟨some 28, none, .mv (.s 7)⟩,
    ⟨some 29, none, .mv (.s 0)⟩,
    ⟨some 30, none, .ld true 5 (.s 3)⟩,
    ⟨some 31, none, .call 16 [(.s 28), (.s 29), (.s 30)]⟩,
    ⟨some 27, none, .mv (.s 31)⟩,
    ⟨some 32, none, .ext (.s 27) 0⟩,
    ⟨some 33, none, .ext (.s 27) 1⟩,
    ⟨some 8, none, .mv (.s 32)⟩,
    ⟨some 9, none, .mv (.s 33)⟩] [] [0, 3, 7, 8, 9, 21, 22, 23]) c4_7)
def c4_9 : ACode :=
  (.seq (.region false [⟨some 25, none, .ia 1 (.s 21) (.s 23)⟩,
    ⟨some 26, none, .ld false 1 (.s 25)⟩,
    ⟨some 7, none, .mv (.s 26)⟩] [] [0, 3, 7, 21, 22, 23]) c4_8)
def c4_10 : ACode :=
  (.seq (.block 1 c4_9) c4_1)
def c4_11 : ACode :=
  (.seq (.cond (.s 24) .skip (.exit 0)) c4_10)
def c4_12 : ACode :=
  (.seq (.region false [⟨some 24, none, .bin .lss (.s 23) (.s 22)⟩] [] [0, 3, 21, 22, 23, 24]) c4_11)
def c4_13 : ACode :=
  (.loop c4_12)
def c4_14 : ACode :=
  (.block 0 c4_13)
def c4_15 : ACode :=
  (.seq (.seq (.region false [⟨some 19, none, .mv (.s 5)⟩,
    ⟨some 20, none, .alloc [.t (.int .i64 0), .t (.nilm), .t (.int .i64 0), .t (.int .i64 0)]⟩,
    ⟨some 21, none, .bsl true 1 [[.nilp], [.nilp]] [(0, (.s 19)), (1, (.s 20))]⟩,
    ⟨some 22, none, .len (.s 21)⟩,
    ⟨some 23, none, .cst (.t (.int .i64 0))⟩] [] [0, 3, 21, 22, 23]) c4_14) c4_0)
def c4_16 : ACode :=
  (.seq (.region false [⟨some 5, none, .cst (.t (.nilp))⟩] [] [0, 3, 5]) c4_15)
def c4_17 : ACode :=
  (.seq (.region false [⟨some 18, none, .call 10 []⟩,
    ⟨some 4, none, .mv (.s 18)⟩] [] [4]) .ret)
def c4_18 : ACode :=
  (.cond (.s 17) c4_17 .skip)
def c4_19 : ACode :=
  (.seq (.seq (.region false [⟨some 15, none, .ld true 5 (.s 3)⟩,
    ⟨some 16, none, .call 9 [(.s 15)]⟩,
    ⟨some 17, none, .bin .gtr (.s 16) (.c (.t (.int .i64 50)))⟩] [] [0, 3, 17]) c4_18) c4_16)
def c4 : ACode :=
  (.seq (.region false [⟨some 3, none, .box 5 (.s 1)⟩,
    ⟨some 4, none, .cst (.t (.bool false))⟩] [] [0, 3]) c4_19)
def r4 : List ARes := [.tmp 4]
def n4 : Nat := 90
/- 5 supergraph supergraphlaw35.LoaderLoads -/
/- 6 supergraph supergraphlaw35.LoaderApart -/
def c6_0 : ACode :=
  (.seq (.region false [⟨some 133, none, .call 10 []⟩,
    ⟨some 6, none, .mv (.s 133)⟩] [] [6]) .ret)
def c6_1 : ACode :=
  (.region false [⟨some 110, none, .mv (.s 16)⟩,
    ⟨some 111, none, .bin .add (.s 110) (.c (.t (.int .i64 1)))⟩,
    ⟨some 16, none, .mv (.s 111)⟩] [] [1, 7, 9, 16])
def c6_2 : ACode :=
  (.seq (.region false [⟨some 6, none, .cst (.t (.bool false))⟩] [] [6]) .ret)
def c6_3 : ACode :=
  (.cond (.s 132) c6_2 .skip)
def c6_4 : ACode :=
  (.seq (.region false [⟨some 124, none, .mv (.s 18)⟩,
    ⟨some 125, none, .mv (.s 20)⟩,
    ⟨some 126, none, .eqb true (.s 124) (.s 125)⟩,
    ⟨some 127, none, .mv (.s 126)⟩,
    ⟨some 128, some (127, false), .ld true 5 (.s 17)⟩,
    ⟨some 129, some (127, false), .ld true 5 (.s 19)⟩,
    ⟨some 130, some (127, false), .call 20 [(.s 128), (.s 129)]⟩,
    ⟨some 131, some (127, false), .un .not (.s 130)⟩,
    ⟨some 132, none, .pick (.s 127) (.c (.t (.bool true))) (.s 131)⟩] [] [1, 7, 9, 16, 132]) c6_3)
def c6_5 : ACode :=
  (.seq (.region false [⟨some 119, none, .mv (.s 9)⟩,
    ⟨some 120, none, .mv (.s 16)⟩,
    ⟨some 121, none, .call 19 [(.s 119), (.c (.t (.int .i64 1))), (.s 120)]⟩,
    ⟨some 118, none, .mv (.s 121)⟩,
    ⟨some 122, none, .ext (.s 118) 0⟩,
    ⟨some 123, none, .ext (.s 118) 1⟩,
    ⟨some 19, none, .alloc [.t (.int .i64 0), .t (.int .i64 0), .t (.str []), .nils, .nils]⟩,
    ⟨none, none, .st 5 (.s 19) (.s 122)⟩,
    ⟨some 20, none, .mv (.s 123)⟩] [] [1, 7, 9, 16, 17, 18, 19, 20]) c6_4)
def c6_6 : ACode :=
  (.seq (.region false [⟨some 113, none, .mv (.s 7)⟩,
    ⟨some 114, none, .mv (.s 16)⟩,
    ⟨some 115, none, .call 19 [(.s 113), (.c (.t (.int .i64 1))), (.s 114)]⟩,
    ⟨some 112, none, .mv (.s 115)⟩,
    ⟨some 116, none, .ext (.s 112) 0⟩,
    ⟨some 117, none, .ext (.s 112) 1⟩,
    ⟨some 17, none, .alloc [.t (.int .i64 0), .t (.int .i64 0), .t (.str []), .nils, .nils]⟩,
    ⟨none, none, .st 5 (.s 17) (.s 116)⟩,
    ⟨some 18, none, .mv (.s 117)⟩] [] [1, 7, 9, 16, 17, 18]) c6_5)
def c6_7 : ACode :=
  (.seq (.block 3 c6_6) c6_1)
def c6_8 : ACode :=
  (.cond (.s 109) .skip (.exit 2))
def c6_9 : ACode :=
  (.seq (.seq (.region false [⟨some 106, none, .mv (.s 16)⟩,
    ⟨some 107, none, .mv (.s 1)⟩,
    ⟨some 108, none, .len (.s 107)⟩,
    ⟨some 109, none, .bin .lss (.s 106) (.s 108)⟩] [] [1, 7, 9, 16, 109]) c6_8) c6_7)
def c6_10 : ACode :=
  (.loop c6_9)
def c6_11 : ACode :=
  (.block 2 c6_10)
def c6_12 : ACode :=
  (.seq (.seq (.region false [⟨some 16, none, .cst (.t (.int .i64 0))⟩] [] [1, 7, 9, 16]) c6_11) c6_0)
def c6_13 : ACode :=
  (.seq (.region false [⟨some 6, none, .cst (.t (.bool false))⟩] [] [6]) .ret)
def c6_14 : ACode :=
  (.cond (.s 105) c6_13 .skip)
def c6_15 : ACode :=
  (.seq (.seq (.region false [⟨some 88, none, .mv (.s 13)⟩,
    ⟨some 89, none, .mv (.s 15)⟩,
    ⟨some 90, none, .eqb true (.s 88) (.s 89)⟩,
    ⟨some 91, none, .mv (.s 90)⟩,
    ⟨some 92, some (91, false), .mv (.s 12)⟩,
    ⟨some 93, some (91, false), .mv (.s 14)⟩,
    ⟨some 94, some (91, false), .call 24 [(.s 92), (.s 93)]⟩,
    ⟨some 95, some (91, false), .un .not (.s 94)⟩,
    ⟨some 96, none, .pick (.s 91) (.c (.t (.bool true))) (.s 95)⟩,
    ⟨some 97, none, .mv (.s 96)⟩,
    ⟨some 98, some (97, false), .mv (.s 7)⟩,
    ⟨some 99, some (97, false), .mv (.s 12)⟩,
    ⟨some 100, some (97, false), .call 18 [(.s 98), (.c (.t (.int .i64 1))), (.s 99)]⟩,
    ⟨some 101, some (97, false), .mv (.s 9)⟩,
    ⟨some 102, some (97, false), .mv (.s 12)⟩,
    ⟨some 103, some (97, false), .call 18 [(.s 101), (.c (.t (.int .i64 1))), (.s 102)]⟩,
    ⟨some 104, some (97, false), .bin .neq (.s 100) (.s 103)⟩,
    ⟨some 105, none, .pick (.s 97) (.c (.t (.bool true))) (.s 104)⟩] [] [1, 7, 9, 105]) c6_14) c6_12)
def c6_16 : ACode :=
  (.seq (.region false [⟨some 84, none, .mv (.s 9)⟩,
    ⟨some 85, none, .call 17 [(.s 84), (.c (.t (.int .i64 1)))]⟩,
    ⟨some 83, none, .mv (.s 85)⟩,
    ⟨some 86, none, .ext (.s 83) 0⟩,
    ⟨some 87, none, .ext (.s 83) 1⟩,
    ⟨some 14, none, .mv (.s 86)⟩,
    ⟨some 15, none, .mv (.s 87)⟩] [] [1, 7, 9, 12, 13, 14, 15]) c6_15)
def c6_17 : ACode :=
  (.seq (.region false [⟨some 79, none, .mv (.s 7)⟩,
    ⟨some 80, none, .call 17 [(.s 79), (.c (.t (.int .i64 1)))]⟩,
    ⟨some 78, none, .mv (.s 80)⟩,
    ⟨some 81, none, .ext (.s 78) 0⟩,
    ⟨some 82, none, .ext (.s 78) 1⟩,
    ⟨some 12, none, .mv (.s 81)⟩,
    ⟨some 13, none, .mv (.s 82)⟩] [] [1, 7, 9, 12, 13]) c6_16)
def c6_18 : ACode :=
  (.seq (.region false [⟨some 76, none, .mv (.s 9)⟩,
    ⟨some 77, none, .call 17 [(.s 76), (.c (.t (.int .i64 2)))]⟩] [] [1, 7, 9]) c6_17)
def c6_19 : ACode :=
  (.region false [⟨some 52, none, .mv (.s 11)⟩,
    ⟨some 53, none, .bin .add (.s 52) (.c (.t (.int .i64 1)))⟩,
    ⟨some 11, none, .mv (.s 53)⟩] [] [1, 2, 7, 9, 11])
def c6_20 : ACode :=
  (.region false [⟨some 70, none, .mv (.s 9)⟩,
    ⟨some 71, none, .mv (.s 2)⟩,
    ⟨some 72, none, .mv (.s 11)⟩,
    ⟨some 73, none, .ia 5 (.s 71) (.s 72)⟩,
    ⟨some 74, none, .ld true 5 (.s 73)⟩,
    ⟨some 75, none, .call 16 [(.s 70), (.c (.t (.int .i64 2))), (.s 74)]⟩] [] [1, 2, 7, 9, 11])
def c6_21 : ACode :=
  (.cond (.s 69) c6_20 .skip)
def c6_22 : ACode :=
  (.seq (.region false [⟨some 66, none, .mv (.s 11)⟩,
    ⟨some 67, none, .mv (.s 2)⟩,
    ⟨some 68, none, .len (.s 67)⟩,
    ⟨some 69, none, .bin .lss (.s 66) (.s 68)⟩] [] [1, 2, 7, 9, 11, 69]) c6_21)
def c6_23 : ACode :=
  (.seq (.region false [⟨some 60, none, .mv (.s 9)⟩,
    ⟨some 61, none, .mv (.s 1)⟩,
    ⟨some 62, none, .mv (.s 11)⟩,
    ⟨some 63, none, .ia 5 (.s 61) (.s 62)⟩,
    ⟨some 64, none, .ld true 5 (.s 63)⟩,
    ⟨some 65, none, .call 16 [(.s 60), (.c (.t (.int .i64 1))), (.s 64)]⟩] [] [1, 2, 7, 9, 11]) c6_22)
def c6_24 : ACode :=
  (.seq (.region false [⟨some 54, none, .mv (.s 7)⟩,
    ⟨some 55, none, .mv (.s 1)⟩,
    ⟨some 56, none, .mv (.s 11)⟩,
    ⟨some 57, none, .ia 5 (.s 55) (.s 56)⟩,
    ⟨some 58, none, .ld true 5 (.s 57)⟩,
    ⟨some 59, none, .call 16 [(.s 54), (.c (.t (.int .i64 1))), (.s 58)]⟩] [] [1, 2, 7, 9, 11]) c6_23)
def c6_25 : ACode :=
  (.seq (.block 1 c6_24) c6_19)
def c6_26 : ACode :=
  (.cond (.s 51) .skip (.exit 0))
def c6_27 : ACode :=
  (.seq (.seq (.region false [⟨some 48, none, .mv (.s 11)⟩,
    ⟨some 49, none, .mv (.s 1)⟩,
    ⟨some 50, none, .len (.s 49)⟩,
    ⟨some 51, none, .bin .lss (.s 48) (.s 50)⟩] [] [1, 2, 7, 9, 11, 51]) c6_26) c6_25)
def c6_28 : ACode :=
  (.loop c6_27)
def c6_29 : ACode :=
  (.block 0 c6_28)
def c6_30 : ACode :=
  (.seq (.seq (.region false [⟨some 11, none, .cst (.t (.int .i64 0))⟩] [] [1, 2, 7, 9, 11]) c6_29) c6_18)
def c6_31 : ACode :=
  (.seq (.region false [⟨some 44, none, .mv (.s 0)⟩,
    ⟨some 45, none, .call 7 [(.s 44)]⟩,
    ⟨some 43, none, .mv (.s 45)⟩,
    ⟨some 46, none, .ext (.s 43) 0⟩,
    ⟨some 47, none, .ext (.s 43) 1⟩,
    ⟨some 9, none, .mv (.s 46)⟩,
    ⟨some 10, none, .mv (.s 47)⟩] [] [1, 2, 7, 9]) c6_30)
def c6_32 : ACode :=
  (.seq (.region false [⟨some 39, none, .mv (.s 0)⟩,
    ⟨some 40, none, .call 7 [(.s 39)]⟩,
    ⟨some 38, none, .mv (.s 40)⟩,
    ⟨some 41, none, .ext (.s 38) 0⟩,
    ⟨some 42, none, .ext (.s 38) 1⟩,
    ⟨some 7, none, .mv (.s 41)⟩,
    ⟨some 8, none, .mv (.s 42)⟩] [] [0, 1, 2, 7]) c6_31)
def c6_33 : ACode :=
  (.seq (.region false [⟨some 37, none, .call 10 []⟩,
    ⟨some 6, none, .mv (.s 37)⟩] [] [6]) .ret)
def c6_34 : ACode :=
  (.cond (.s 36) c6_33 .skip)
def c6_35 : ACode :=
  (.seq (.seq (.region false [⟨some 21, none, .mv (.s 1)⟩,
    ⟨some 22, none, .call 21 [(.s 21)]⟩,
    ⟨some 23, none, .un .not (.s 22)⟩,
    ⟨some 24, none, .mv (.s 23)⟩,
    ⟨some 25, some (24, false), .mv (.s 2)⟩,
    ⟨some 26, some (24, false), .call 21 [(.s 25)]⟩,
    ⟨some 27, some (24, false), .un .not (.s 26)⟩,
    ⟨some 28, none, .pick (.s 24) (.c (.t (.bool true))) (.s 27)⟩,
    ⟨some 29, none, .mv (.s 28)⟩,
    ⟨some 30, some (29, false), .mv (.s 0)⟩,
    ⟨some 31, some (29, false), .bin .lss (.s 30) (.c (.t (.int .i64 1)))⟩,
    ⟨some 32, none, .pick (.s 29) (.c (.t (.bool true))) (.s 31)⟩,
    ⟨some 33, none, .mv (.s 32)⟩,
    ⟨some 34, some (33, false), .mv (.s 0)⟩,
    ⟨some 35, some (33, false), .bin .gtr (.s 34) (.c (.t (.int .i64 1024)))⟩,
    ⟨some 36, none, .pick (.s 33) (.c (.t (.bool true))) (.s 35)⟩] [] [0, 1, 2, 36]) c6_34) c6_32)
def c6 : ACode :=
  (.seq (.region false [⟨some 6, none, .cst (.t (.bool false))⟩] [] [0, 1, 2]) c6_35)
def r6 : List ARes := [.tmp 6]
def n6 : Nat := 134
/- 7 supergraph loader.New -/
def c7_0 : ACode :=
  (.seq (.region false [⟨some 10, none, .mv (.s 0)⟩,
    ⟨some 11, none, .mkmap false false⟩,
    ⟨some 12, none, .build [.t (.int .i64 0), .t (.nilm), .t (.int .i64 0), .t (.int .i64 0)] [(0, 1, (.s 10)), (1, 1, (.s 11))]⟩,
    ⟨some 13, none, .box 4 (.s 12)⟩,
    ⟨some 2, none, .mv (.s 13)⟩,
    ⟨some 3, none, .cst (.t (.int .i64 0))⟩] [] [2, 3]) .ret)
def c7_1 : ACode :=
  (.seq (.region false [⟨some 2, none, .cst (.t (.nilp))⟩,
    ⟨some 3, none, .cst (.t (.int .i64 2))⟩] [] [2, 3]) .ret)
def c7_2 : ACode :=
  (.cond (.s 9) c7_1 .skip)
def c7_3 : ACode :=
  (.seq (.seq (.region false [⟨some 4, none, .mv (.s 0)⟩,
    ⟨some 5, none, .bin .lss (.s 4) (.c (.t (.int .i64 1)))⟩,
    ⟨some 6, none, .mv (.s 5)⟩,
    ⟨some 7, some (6, false), .mv (.s 0)⟩,
    ⟨some 8, some (6, false), .bin .gtr (.s 7) (.c (.t (.int .i64 1024)))⟩,
    ⟨some 9, none, .pick (.s 6) (.c (.t (.bool true))) (.s 8)⟩] [] [0, 9]) c7_2) c7_0)
def c7 : ACode :=
  (.seq (.region false [⟨some 2, none, .cst (.t (.nilp))⟩,
    ⟨some 3, none, .cst (.t (.int .i64 0))⟩] [] [0]) c7_3)
def r7 : List ARes := [.tmp 2, .tmp 3]
def n7 : Nat := 14
/- 8 supergraph supergraphref35.New -/
/- 9 supergraph supergraphref02.Size -/
def c9_0 : ACode :=
  (.seq (.region false [⟨some 20, none, .mv (.s 3)⟩,
    ⟨some 2, none, .mv (.s 20)⟩] [] [2]) .ret)
def c9_1 : ACode :=
  (.region false [⟨some 10, none, .mv (.s 4)⟩,
    ⟨some 11, none, .bin .add (.s 10) (.c (.t (.int .i64 1)))⟩,
    ⟨some 4, none, .mv (.s 11)⟩] [] [1, 3, 4])
def c9_2 : ACode :=
  (.region false [⟨some 12, none, .mv (.s 3)⟩,
    ⟨some 13, none, .fa 3 (.s 1)⟩,
    ⟨some 14, none, .ld false 1 (.s 13)⟩,
    ⟨some 15, none, .mv (.s 4)⟩,
    ⟨some 16, none, .ia 5 (.s 14) (.s 15)⟩,
    ⟨some 17, none, .ld true 5 (.s 16)⟩,
    ⟨some 18, none, .call 9 [(.s 17)]⟩,
    ⟨some 19, none, .bin .add (.s 12) (.s 18)⟩,
    ⟨some 3, none, .mv (.s 19)⟩] [] [1, 3, 4])
def c9_3 : ACode :=
  (.seq (.block 1 c9_2) c9_1)
def c9_4 : ACode :=
  (.cond (.s 9) .skip (.exit 0))
def c9_5 : ACode :=
  (.seq (.seq (.region false [⟨some 5, none, .mv (.s 4)⟩,
    ⟨some 6, none, .fa 3 (.s 1)⟩,
    ⟨some 7, none, .ld false 1 (.s 6)⟩,
    ⟨some 8, none, .len (.s 7)⟩,
    ⟨some 9, none, .bin .lss (.s 5) (.s 8)⟩] [] [1, 3, 4, 9]) c9_4) c9_3)
def c9_6 : ACode :=
  (.loop c9_5)
def c9_7 : ACode :=
  (.block 0 c9_6)
def c9_8 : ACode :=
  (.seq (.seq (.region false [⟨some 4, none, .cst (.t (.int .i64 0))⟩] [] [1, 3, 4]) c9_7) c9_0)
def c9_9 : ACode :=
  (.seq (.region false [⟨some 3, none, .cst (.t (.int .i64 1))⟩] [] [1, 3]) c9_8)
def c9 : ACode :=
  (.seq (.region false [⟨some 1, none, .box 5 (.s 0)⟩,
    ⟨some 2, none, .cst (.t (.int .i64 0))⟩] [] [1]) c9_9)
def r9 : List ARes := [.tmp 2]
def n9 : Nat := 21
/- 10 supergraph supergraphlaw35.knows -/
def c10_0 : ACode :=
  (.seq (.region false [⟨some 57, none, .mv (.s 5)⟩,
    ⟨some 58, none, .bin .eql (.s 57) (.c (.t (.int .i64 0)))⟩,
    ⟨some 59, none, .mv (.s 58)⟩,
    ⟨some 60, some (59, true), .mv (.s 7)⟩,
    ⟨some 61, some (59, true), .bin .eql (.s 60) (.c (.t (.int .i64 1)))⟩,
    ⟨some 62, none, .pick (.s 59) (.s 61) (.c (.t (.bool false)))⟩,
    ⟨some 63, none, .mv (.s 62)⟩,
    ⟨some 64, some (63, true), .mv (.s 9)⟩,
    ⟨some 65, some (63, true), .bin .eql (.s 64) (.c (.t (.int .i64 2)))⟩,
    ⟨some 66, none, .pick (.s 63) (.s 65) (.c (.t (.bool false)))⟩,
    ⟨some 67, none, .mv (.s 66)⟩,
    ⟨some 68, some (67, true), .mv (.s 12)⟩,
    ⟨some 69, none, .pick (.s 67) (.s 68) (.c (.t (.bool false)))⟩,
    ⟨some 70, none, .mv (.s 69)⟩,
    ⟨some 71, some (70, true), .mv (.s 11)⟩,
    ⟨some 72, some (70, true), .ld true 5 (.s 3)⟩,
    ⟨some 73, some (70, true), .ld true 5 (.s 4)⟩,
    ⟨some 74, some (70, true), .bsl true 5 [[.int .i64 0, .int .i64 0, .str [], .lst [], .lst []], [.int .i64 0, .int .i64 0, .str [], .lst [], .lst []]] [(0, (.s 72)), (1, (.s 73))]⟩,
    ⟨some 75, some (70, true), .call 24 [(.s 71), (.s 74)]⟩,
    ⟨some 76, none, .pick (.s 70) (.s 75) (.c (.t (.bool false)))⟩,
    ⟨some 77, none, .mv (.s 76)⟩,
    ⟨some 78, some (77, true), .mv (.s 13)⟩,
    ⟨some 79, some (77, true), .bin .eql (.s 78) (.c (.t (.int .i64 0)))⟩,
    ⟨some 80, none, .pick (.s 77) (.s 79) (.c (.t (.bool false)))⟩,
    ⟨some 81, none, .mv (.s 80)⟩,
    ⟨some 82, some (81, true), .mv (.s 15)⟩,
    ⟨some 83, none, .pick (.s 81) (.s 82) (.c (.t (.bool false)))⟩,
    ⟨some 84, none, .mv (.s 83)⟩,
    ⟨some 85, some (84, true), .fa 1 (.s 14)⟩,
    ⟨some 86, some (84, true), .ld false 1 (.s 85)⟩,
    ⟨some 87, some (84, true), .bin .eql (.s 86) (.c (.t (.int .i64 1)))⟩,
    ⟨some 88, none, .pick (.s 84) (.s 87) (.c (.t (.bool false)))⟩,
    ⟨some 89, none, .mv (.s 88)⟩,
    ⟨some 90, some (89, true), .mv (.s 1)⟩,
    ⟨some 91, some (89, true), .call 12 [(.s 90)]⟩,
    ⟨some 92, some (89, true), .bin .eql (.s 91) (.c (.t (.int .i64 1)))⟩,
    ⟨some 93, none, .pick (.s 89) (.s 92) (.c (.t (.bool false)))⟩,
    ⟨some 94, none, .mv (.s 93)⟩,
    ⟨some 95, some (94, true), .mv (.s 1)⟩,
    ⟨some 96, some (94, true), .call 14 [(.s 95)]⟩,
    ⟨some 97, some (94, true), .bin .eql (.s 96) (.c (.t (.int .i64 1)))⟩,
    ⟨some 98, none, .pick (.s 94) (.s 97) (.c (.t (.bool false)))⟩,
    ⟨some 0, none, .mv (.s 98)⟩] [] [0]) .ret)
def c10_1 : ACode :=
  (.seq (.region false [⟨some 53, none, .mv (.s 1)⟩,
    ⟨some 54, none, .call 19 [(.s 53), (.c (.t (.int .i64 0))), (.c (.t (.int .i64 2)))]⟩,
    ⟨some 52, none, .mv (.s 54)⟩,
    ⟨some 55, none, .ext (.s 52) 0⟩,
    ⟨some 56, none, .ext (.s 52) 1⟩,
    ⟨some 14, none, .alloc [.t (.int .i64 0), .t (.int .i64 0), .t (.str []), .nils, .nils]⟩,
    ⟨none, none, .st 5 (.s 14) (.s 55)⟩,
    ⟨some 15, none, .mv (.s 56)⟩] [] [1, 3, 4, 5, 7, 9, 11, 12, 13, 14, 15]) c10_0)
def c10_2 : ACode :=
  (.seq (.region false [⟨some 47, none, .mv (.s 1)⟩,
    ⟨some 48, none, .call 25 [(.c (.t (.int .i64 1)))]⟩,
    ⟨some 49, none, .call 25 [(.c (.t (.int .i64 2)))]⟩,
    ⟨some 50, none, .bsl true 5 [[.int .i64 0, .int .i64 0, .str [], .lst [], .lst []], [.int .i64 0, .int .i64 0, .str [], .lst [], .lst []]] [(0, (.s 48)), (1, (.s 49))]⟩,
    ⟨some 51, none, .call 18 [(.s 47), (.c (.t (.int .i64 0))), (.s 50)]⟩,
    ⟨some 13, none, .mv (.s 51)⟩] [] [1, 3, 4, 5, 7, 9, 11, 12, 13]) c10_1)
def c10_3 : ACode :=
  (.seq (.region false [⟨some 43, none, .mv (.s 1)⟩,
    ⟨some 44, none, .call 17 [(.s 43), (.c (.t (.int .i64 0)))]⟩,
    ⟨some 42, none, .mv (.s 44)⟩,
    ⟨some 45, none, .ext (.s 42) 0⟩,
    ⟨some 46, none, .ext (.s 42) 1⟩,
    ⟨some 11, none, .mv (.s 45)⟩,
    ⟨some 12, none, .mv (.s 46)⟩] [] [1, 3, 4, 5, 7, 9, 11, 12]) c10_2)
def c10_4 : ACode :=
  (.seq (.region false [⟨some 37, none, .mv (.s 1)⟩,
    ⟨some 38, none, .ld true 5 (.s 3)⟩,
    ⟨some 39, none, .call 16 [(.s 37), (.c (.t (.int .i64 0))), (.s 38)]⟩,
    ⟨some 36, none, .mv (.s 39)⟩,
    ⟨some 40, none, .ext (.s 36) 0⟩,
    ⟨some 41, none, .ext (.s 36) 1⟩,
    ⟨some 9, none, .mv (.s 40)⟩,
    ⟨some 10, none, .mv (.s 41)⟩] [] [1, 3, 4, 5, 7, 9]) c10_3)
def c10_5 : ACode :=
  (.seq (.region false [⟨some 31, none, .mv (.s 1)⟩,
    ⟨some 32, none, .ld true 5 (.s 4)⟩,
    ⟨some 33, none, .call 16 [(.s 31), (.c (.t (.int .i64 0))), (.s 32)]⟩,
    ⟨some 30, none, .mv (.s 33)⟩,
    ⟨some 34, none, .ext (.s 30) 0⟩,
    ⟨some 35, none, .ext (.s 30) 1⟩,
    ⟨some 7, none, .mv (.s 34)⟩,
    ⟨some 8, none, .mv (.s 35)⟩] [] [1, 3, 4, 5, 7]) c10_4)
def c10_6 : ACode :=
  (.seq (.region false [⟨some 25, none, .mv (.s 1)⟩,
    ⟨some 26, none, .ld true 5 (.s 3)⟩,
    ⟨some 27, none, .call 16 [(.s 25), (.c (.t (.int .i64 0))), (.s 26)]⟩,
    ⟨some 24, none, .mv (.s 27)⟩,
    ⟨some 28, none, .ext (.s 24) 0⟩,
    ⟨some 29, none, .ext (.s 24) 1⟩,
    ⟨some 5, none, .mv (.s 28)⟩,
    ⟨some 6, none, .mv (.s 29)⟩] [] [1, 3, 4, 5]) c10_5)
def c10_7 : ACode :=
  (.seq (.region false [⟨some 0, none, .cst (.t (.bool false))⟩] [] [0]) .ret)
def c10_8 : ACode :=
  (.cond (.s 23) c10_7 .skip)
def c10_9 : ACode :=
  (.seq (.seq (.region false [⟨some 22, none, .mv (.s 2)⟩,
    ⟨some 23, none, .bin .neq (.s 22) (.c (.t (.int .i64 0)))⟩] [] [1, 3, 4, 23]) c10_8) c10_6)
def c10_10 : ACode :=
  (.seq (.region false [⟨some 20, none, .call 25 [(.c (.t (.int .i64 7)))]⟩,
    ⟨some 21, none, .call 26 [(.c (.t (.str [98])))]⟩,
    ⟨some 3, none, .alloc [.t (.int .i64 0), .t (.int .i64 0), .t (.str []), .nils, .nils]⟩,
    ⟨some 4, none, .alloc [.t (.int .i64 0), .t (.int .i64 0), .t (.str []), .nils, .nils]⟩,
    ⟨none, none, .st 5 (.s 3) (.s 20)⟩,
    ⟨none, none, .st 5 (.s 4) (.s 21)⟩] [] [1, 2, 3, 4]) c10_9)
def c10_11 : ACode :=
  (.seq (.region false [⟨some 17, none, .call 7 [(.c (.t (.int .i64 2)))]⟩,
    ⟨some 16, none, .mv (.s 17)⟩,
    ⟨some 18, none, .ext (.s 16) 0⟩,
    ⟨some 19, none, .ext (.s 16) 1⟩,
    ⟨some 1, none, .mv (.s 18)⟩,
    ⟨some 2, none, .mv (.s 19)⟩] [] [1, 2]) c10_10)
def c10 : ACode :=
  (.seq (.region false [⟨some 0, none, .cst (.t (.bool false))⟩] [] []) c10_11)
def r10 : List ARes := [.tmp 0]
def n10 : Nat := 99
/- 11 supergraph supergraphlaw35.step -/
/- 12 (*supergraph loader.Loader).Calls -/
def c12_0 : ACode :=
  (.seq (.region false [⟨some 5, none, .mv (.s 0)⟩,
    ⟨some 6, none, .nilck (.s 5)⟩,
    ⟨some 7, none, .fa 2 (.s 6)⟩,
    ⟨some 8, none, .ld false 1 (.s 7)⟩,
    ⟨some 2, none, .mv (.s 8)⟩] [] [2]) .ret)
def c12_1 : ACode :=
  (.seq (.region false [⟨some 2, none, .cst (.t (.int .i64 0))⟩] [] [2]) .ret)
def c12_2 : ACode :=
  (.cond (.s 4) c12_1 .skip)
def c12_3 : ACode :=
  (.seq (.seq (.region false [⟨some 3, none, .mv (.s 0)⟩,
    ⟨some 4, none, .call 31 [(.s 3)]⟩] [] [0, 4]) c12_2) c12_0)
def c12 : ACode :=
  (.seq (.region false [⟨some 2, none, .cst (.t (.int .i64 0))⟩] [] [0]) c12_3)
def r12 : List ARes := [.tmp 2]
def n12 : Nat := 9
/- 13 (*supergraph supergraphref35.Loader).Calls -/
/- 14 (*supergraph loader.Loader).Saved -/
def c14_0 : ACode :=
  (.seq (.region false [⟨some 5, none, .mv (.s 0)⟩,
    ⟨some 6, none, .nilck (.s 5)⟩,
    ⟨some 7, none, .fa 3 (.s 6)⟩,
    ⟨some 8, none, .ld false 1 (.s 7)⟩,
    ⟨some 2, none, .mv (.s 8)⟩] [] [2]) .ret)
def c14_1 : ACode :=
  (.seq (.region false [⟨some 2, none, .cst (.t (.int .i64 0))⟩] [] [2]) .ret)
def c14_2 : ACode :=
  (.cond (.s 4) c14_1 .skip)
def c14_3 : ACode :=
  (.seq (.seq (.region false [⟨some 3, none, .mv (.s 0)⟩,
    ⟨some 4, none, .call 31 [(.s 3)]⟩] [] [0, 4]) c14_2) c14_0)
def c14 : ACode :=
  (.seq (.region false [⟨some 2, none, .cst (.t (.int .i64 0))⟩] [] [0]) c14_3)
def r14 : List ARes := [.tmp 2]
def n14 : Nat := 9
/- 15 (*supergraph supergraphref35.Loader).Saved -/
/- 16 (*supergraph loader.Loader).Add -/
def c16_0 : ACode :=
  (.seq (.region false [⟨some 90, none, .mv (.s 8)⟩,
    ⟨some 91, none, .nilck (.s 90)⟩,
    ⟨some 92, none, .fa 0 (.s 91)⟩,
    ⟨some 93, none, .ld false 1 (.s 92)⟩,
    ⟨some 94, none, .len (.s 93)⟩,
    ⟨some 95, none, .bin .sub (.s 94) (.c (.t (.int .i64 1)))⟩,
    ⟨some 6, none, .mv (.s 95)⟩,
    ⟨some 7, none, .cst (.t (.int .i64 0))⟩] [] [6, 7]) .ret)
def c16_1 : ACode :=
  (.seq (.region false [⟨some 80, none, .mv (.s 8)⟩,
    ⟨some 81, none, .mv (.s 8)⟩,
    ⟨some 82, none, .nilck (.s 81)⟩,
    ⟨some 83, none, .fa 0 (.s 82)⟩,
    ⟨some 84, none, .ld false 1 (.s 83)⟩,
    ⟨some 85, none, .mv (.s 9)⟩,
    ⟨some 86, none, .bsl false 1 [[.int .i64 0]] [(0, (.s 85))]⟩,
    ⟨some 87, none, .app 1 8 (.s 84) (.s 86)⟩,
    ⟨some 88, none, .nilck (.s 80)⟩,
    ⟨some 89, none, .fa 0 (.s 88)⟩,
    ⟨none, none, .st 1 (.s 89) (.s 87)⟩] [] [8]) c16_0)
def c16_2 : ACode :=
  (.region true [⟨some 60, none, .mv (.s 8)⟩,
    ⟨some 61, none, .mv (.s 8)⟩,
    ⟨some 62, none, .nilck (.s 61)⟩,
    ⟨some 63, none, .fa 1 (.s 62)⟩,
    ⟨some 64, none, .ld false 1 (.s 63)⟩,
    ⟨some 65, none, .ld true 5 (.s 5)⟩,
    ⟨some 66, none, .call 33 [(.s 65)]⟩,
    ⟨some 67, none, .build [.t (.int .i64 0), .t (.int .i64 0), .t (.str []), .nils, .nils, .t (.int .i64 0), .t (.int .i64 0), .t (.str []), .nils, .nils, .t (.bool false)] [(0, 5, (.s 66))]⟩,
    ⟨some 68, none, .box 11 (.s 67)⟩,
    ⟨some 69, none, .bsl false 1 [[.nilp]] [(0, (.s 68))]⟩,
    ⟨some 70, none, .app 1 8 (.s 64) (.s 69)⟩,
    ⟨some 71, none, .nilck (.s 60)⟩,
    ⟨some 72, none, .fa 1 (.s 71)⟩,
    ⟨none, none, .st 1 (.s 72) (.s 70)⟩] [[], [], [1], [2], [3], [], [5], [6], [7], [8], [4, 9, 6], [0, 0, 1, 2, 3, 4, 5, 6, 7, 8, 9, 10], [11, 0, 1, 2, 3, 4, 5, 6, 7, 8, 9, 10], [12, 10, 10, 0, 1, 2, 3, 4, 5, 6, 7, 8, 9, 10]] [8, 9])
def c16_3 : ACode :=
  (.seq (.region false [⟨some 55, none, .mv (.s 8)⟩,
    ⟨some 56, none, .nilck (.s 55)⟩,
    ⟨some 57, none, .fa 1 (.s 56)⟩,
    ⟨some 58, none, .ld false 1 (.s 57)⟩,
    ⟨some 59, none, .len (.s 58)⟩,
    ⟨some 9, none, .mv (.s 59)⟩] [] [5, 8, 9]) c16_2)
def c16_4 : ACode :=
  (.region false [⟨some 73, none, .mv (.s 0)⟩,
    ⟨some 74, none, .nilck (.s 73)⟩,
    ⟨some 75, none, .fa 3 (.s 74)⟩,
    ⟨some 76, none, .ld false 1 (.s 75)⟩,
    ⟨some 77, none, .bin .add (.s 76) (.c (.t (.int .i64 1)))⟩,
    ⟨some 78, none, .nilck (.s 73)⟩,
    ⟨some 79, none, .fa 3 (.s 78)⟩,
    ⟨none, none, .st 1 (.s 79) (.s 77)⟩] [] [8, 9])
def c16_5 : ACode :=
  (.cond (.s 54) c16_3 c16_4)
def c16_6 : ACode :=
  (.seq (.seq (.region false [⟨some 53, none, .mv (.s 9)⟩,
    ⟨some 54, none, .bin .lss (.s 53) (.c (.t (.int .i64 0)))⟩] [] [0, 5, 8, 9, 54]) c16_5) c16_1)
def c16_7 : ACode :=
  (.region false [⟨some 52, none, .bin .add (.s 40) (.c (.t (.int .i64 1)))⟩,
    ⟨some 40, none, .mv (.s 52)⟩] [] [0, 5, 8, 9, 38, 39, 40])
def c16_8 : ACode :=
  (.seq (.region false [⟨some 51, none, .mv (.s 10)⟩,
    ⟨some 9, none, .mv (.s 51)⟩] [] [0, 5, 8, 9]) (.exit 1))
def c16_9 : ACode :=
  (.cond (.s 50) c16_8 .skip)
def c16_10 : ACode :=
  (.seq (.region true [⟨some 45, none, .mv (.s 11)⟩,
    ⟨some 46, none, .nilck (.s 45)⟩,
    ⟨some 47, none, .fa 0 (.s 46)⟩,
    ⟨some 48, none, .ld true 5 (.s 47)⟩,
    ⟨some 49, none, .ld true 5 (.s 5)⟩,
    ⟨some 50, none, .call 32 [(.s 48), (.s 49)]⟩] [[], [0], [1], [2], [], [3, 4]] [0, 5, 8, 9, 10, 38, 39, 40, 50]) c16_9)
def c16_11 : ACode :=
  (.seq (.region false [⟨some 42, none, .mv (.s 40)⟩,
    ⟨some 43, none, .ia 1 (.s 38) (.s 40)⟩,
    ⟨some 44, none, .ld false 1 (.s 43)⟩,
    ⟨some 10, none, .mv (.s 42)⟩,
    ⟨some 11, none, .mv (.s 44)⟩] [] [0, 5, 8, 9, 10, 11, 38, 39, 40]) c16_10)
def c16_12 : ACode :=
  (.seq (.block 2 c16_11) c16_7)
def c16_13 : ACode :=
  (.seq (.cond (.s 41) .skip (.exit 1)) c16_12)
def c16_14 : ACode :=
  (.seq (.region false [⟨some 41, none, .bin .lss (.s 40) (.s 39)⟩] [] [0, 5, 8, 9, 38, 39, 40, 41]) c16_13)
def c16_15 : ACode :=
  (.loop c16_14)
def c16_16 : ACode :=
  (.block 1 c16_15)
def c16_17 : ACode :=
  (.seq (.seq (.region false [⟨some 35, none, .mv (.s 8)⟩,
    ⟨some 36, none, .nilck (.s 35)⟩,
    ⟨some 37, none, .fa 1 (.s 36)⟩,
    ⟨some 38, none, .ld false 1 (.s 37)⟩,
    ⟨some 39, none, .len (.s 38)⟩,
    ⟨some 40, none, .cst (.t (.int .i64 0))⟩] [] [0, 5, 8, 9, 38, 39, 40]) c16_16) c16_6)
def c16_18 : ACode :=
  (.seq (.region false [⟨some 9, none, .cst (.t (.int .i64 (-1)))⟩] [] [0, 5, 8, 9]) c16_17)
def c16_19 : ACode :=
  (.region false [⟨some 29, none, .mv (.s 0)⟩,
    ⟨some 30, none, .nilck (.s 29)⟩,
    ⟨some 31, none, .fa 1 (.s 30)⟩,
    ⟨some 32, none, .ld false 1 (.s 31)⟩,
    ⟨some 33, none, .mv (.s 1)⟩,
    ⟨some 34, none, .mv (.s 8)⟩,
    ⟨none, none, .nw (.mupd [.int .i64] false (.s 32) (.s 33) (.s 34))⟩] [] [0, 5, 8])
def c16_20 : ACode :=
  (.seq (.region false [⟨some 26, none, .mkmap false false⟩,
    ⟨some 27, none, .build [.nils, .nils, .t (.int .i64 0), .t (.nilm)] [(3, 1, (.s 26))]⟩,
    ⟨some 28, none, .box 4 (.s 27)⟩,
    ⟨some 8, none, .mv (.s 28)⟩] [] [0, 1, 5, 8]) c16_19)
def c16_21 : ACode :=
  (.cond (.s 25) c16_20 .skip)
def c16_22 : ACode :=
  (.seq (.seq (.region false [⟨some 24, none, .mv (.s 8)⟩,
    ⟨some 25, none, .eqp false (.s 24)⟩] [] [0, 1, 5, 8, 25]) c16_21) c16_18)
def c16_23 : ACode :=
  (.seq (.region false [⟨some 18, none, .mv (.s 0)⟩,
    ⟨some 19, none, .nilck (.s 18)⟩,
    ⟨some 20, none, .fa 1 (.s 19)⟩,
    ⟨some 21, none, .ld false 1 (.s 20)⟩,
    ⟨some 22, none, .mv (.s 1)⟩,
    ⟨some 23, none, .nw (.lookup [.int .i64] false (.t (.nilp)) false (.s 21) (.s 22))⟩,
    ⟨some 8, none, .mv (.s 23)⟩] [] [0, 1, 5, 8]) c16_22)
def c16_24 : ACode :=
  (.seq (.region false [⟨some 6, none, .cst (.t (.int .i64 0))⟩,
    ⟨some 7, none, .cst (.t (.int .i64 1))⟩] [] [6, 7]) .ret)
def c16_25 : ACode :=
  (.seq (.region false [⟨some 6, none, .cst (.t (.int .i64 0))⟩,
    ⟨some 7, none, .cst (.t (.int .i64 2))⟩] [] [6, 7]) .ret)
def c16_26 : ACode :=
  (.cond (.s 15) c16_25 .skip)
def c16_27 : ACode :=
  (.seq (.region false [⟨some 16, none, .mv (.s 1)⟩,
    ⟨some 17, none, .bin .lss (.s 16) (.c (.t (.int .i64 0)))⟩,
    ⟨some 15, none, .mv (.s 17)⟩] [] [0, 1, 5, 15]) c16_26)
def c16_28 : ACode :=
  (.cond (.s 12) c16_24 c16_27)
def c16_29 : ACode :=
  (.seq (.region false [⟨some 13, none, .mv (.s 0)⟩,
    ⟨some 14, none, .call 31 [(.s 13)]⟩,
    ⟨some 12, none, .mv (.s 14)⟩] [] [0, 1, 5, 12]) c16_28)
def c16_30 : ACode :=
  (.seq (.block 0 c16_29) c16_23)
def c16 : ACode :=
  (.seq (.region false [⟨some 5, none, .box 5 (.s 2)⟩,
    ⟨some 6, none, .cst (.t (.int .i64 0))⟩,
    ⟨some 7, none, .cst (.t (.int .i64 0))⟩] [] [0, 1, 5]) c16_30)
def r16 : List ARes := [.tmp 6, .tmp 7]
def n16 : Nat := 96
/- 17 (*supergraph loader.Loader).Next -/
def c17_0 : ACode :=
  (.seq (.region false [⟨some 115, none, .mv (.s 7)⟩,
    ⟨some 4, none, .mv (.s 115)⟩,
    ⟨some 5, none, .cst (.t (.bool true))⟩] [] [4, 5]) .ret)
def c17_1 : ACode :=
  (.region false [⟨some 114, none, .bin .add (.s 98) (.c (.t (.int .i64 1)))⟩,
    ⟨some 98, none, .mv (.s 114)⟩] [] [6, 7, 97, 98])
def c17_2 : ACode :=
  (.region false [⟨some 101, none, .mv (.s 7)⟩,
    ⟨some 102, none, .mv (.s 6)⟩,
    ⟨some 103, none, .nilck (.s 102)⟩,
    ⟨some 104, none, .fa 3 (.s 103)⟩,
    ⟨some 105, none, .ld false 1 (.s 104)⟩,
    ⟨some 106, none, .mv (.s 8)⟩,
    ⟨some 107, none, .nw (.lookup [.int .i64] false (.t (.nilp)) false (.s 105) (.s 106))⟩,
    ⟨some 108, none, .nilck (.s 107)⟩,
    ⟨some 109, none, .fa 0 (.s 108)⟩,
    ⟨some 110, none, .ld true 5 (.s 109)⟩,
    ⟨some 111, none, .call 33 [(.s 110)]⟩,
    ⟨some 112, none, .bsl false 5 [[.int .i64 0, .int .i64 0, .str [], .lst [], .lst []]] [(0, (.s 111))]⟩,
    ⟨some 113, none, .app 5 80 (.s 101) (.s 112)⟩,
    ⟨some 7, none, .mv (.s 113)⟩] [] [6, 7, 97, 98])
def c17_3 : ACode :=
  (.seq (.region false [⟨some 100, none, .mv (.s 98)⟩,
    ⟨some 8, none, .mv (.s 100)⟩] [] [6, 7, 8, 97, 98]) c17_2)
def c17_4 : ACode :=
  (.seq (.block 3 c17_3) c17_1)
def c17_5 : ACode :=
  (.seq (.cond (.s 99) .skip (.exit 2)) c17_4)
def c17_6 : ACode :=
  (.seq (.region false [⟨some 99, none, .bin .lss (.s 98) (.s 97)⟩] [] [6, 7, 97, 98, 99]) c17_5)
def c17_7 : ACode :=
  (.loop c17_6)
def c17_8 : ACode :=
  (.block 2 c17_7)
def c17_9 : ACode :=
  (.seq (.seq (.region false [⟨some 93, none, .mv (.s 6)⟩,
    ⟨some 94, none, .nilck (.s 93)⟩,
    ⟨some 95, none, .fa 3 (.s 94)⟩,
    ⟨some 96, none, .ld false 1 (.s 95)⟩,
    ⟨some 97, none, .lenm (.s 96)⟩,
    ⟨some 98, none, .cst (.t (.int .i64 0))⟩] [] [6, 7, 97, 98]) c17_8) c17_0)
def c17_10 : ACode :=
  (.seq (.region false [⟨some 7, none, .cst (.nils)⟩] [] [6, 7]) c17_9)
def c17_11 : ACode :=
  (.region false [⟨some 86, none, .mv (.s 0)⟩,
    ⟨some 87, none, .nilck (.s 86)⟩,
    ⟨some 88, none, .fa 2 (.s 87)⟩,
    ⟨some 89, none, .ld false 1 (.s 88)⟩,
    ⟨some 90, none, .bin .add (.s 89) (.c (.t (.int .i64 1)))⟩,
    ⟨some 91, none, .nilck (.s 86)⟩,
    ⟨some 92, none, .fa 2 (.s 91)⟩,
    ⟨none, none, .st 1 (.s 92) (.s 90)⟩] [] [6])
def c17_12 : ACode :=
  (.seq (.region false [⟨some 4, none, .cst (.nils)⟩,
    ⟨some 5, none, .cst (.t (.bool false))⟩] [] [4, 5]) .ret)
def c17_13 : ACode :=
  (.cond (.s 85) c17_12 .skip)
def c17_14 : ACode :=
  (.seq (.seq (.region false [⟨some 80, none, .mv (.s 6)⟩,
    ⟨some 81, none, .nilck (.s 80)⟩,
    ⟨some 82, none, .fa 3 (.s 81)⟩,
    ⟨some 83, none, .ld false 1 (.s 82)⟩,
    ⟨some 84, none, .lenm (.s 83)⟩,
    ⟨some 85, none, .bin .eql (.s 84) (.c (.t (.int .i64 0)))⟩] [] [0, 6, 85]) c17_13) c17_11)
def c17_15 : ACode :=
  (.region false [⟨some 73, none, .mv (.s 6)⟩,
    ⟨some 74, none, .nilck (.s 73)⟩,
    ⟨some 75, none, .fa 2 (.s 74)⟩,
    ⟨some 76, none, .ld false 1 (.s 75)⟩,
    ⟨some 77, none, .bin .add (.s 76) (.c (.t (.int .i64 1)))⟩,
    ⟨some 78, none, .nilck (.s 73)⟩,
    ⟨some 79, none, .fa 2 (.s 78)⟩,
    ⟨none, none, .st 1 (.s 79) (.s 77)⟩] [] [0, 6])
def c17_16 : ACode :=
  (.seq (.region true [⟨some 54, none, .mv (.s 6)⟩,
    ⟨some 55, none, .nilck (.s 54)⟩,
    ⟨some 56, none, .fa 3 (.s 55)⟩,
    ⟨some 57, none, .ld false 1 (.s 56)⟩,
    ⟨some 58, none, .mv (.s 6)⟩,
    ⟨some 59, none, .nilck (.s 58)⟩,
    ⟨some 60, none, .fa 3 (.s 59)⟩,
    ⟨some 61, none, .ld false 1 (.s 60)⟩,
    ⟨some 62, none, .lenm (.s 61)⟩,
    ⟨some 63, none, .mv (.s 6)⟩,
    ⟨some 64, none, .nilck (.s 63)⟩,
    ⟨some 65, none, .fa 1 (.s 64)⟩,
    ⟨some 66, none, .ld false 1 (.s 65)⟩,
    ⟨some 67, none, .mv (.s 6)⟩,
    ⟨some 68, none, .nilck (.s 67)⟩,
    ⟨some 69, none, .fa 2 (.s 68)⟩,
    ⟨some 70, none, .ld false 1 (.s 69)⟩,
    ⟨some 71, none, .ia 1 (.s 66) (.s 70)⟩,
    ⟨some 72, none, .ld false 1 (.s 71)⟩,
    ⟨none, none, .nw (.mupd [.int .i64] false (.s 57) (.s 62) (.s 72))⟩] [[], [0], [1], [2], [], [4], [5], [6], [7], [], [9], [10], [11], [], [13], [14], [15], [12, 16], [17], [3, 8, 18, 8, 0, 1, 2, 3, 4, 5, 6, 7, 8, 9, 10, 11, 12, 13, 14, 15, 16, 17, 18]] [0, 6]) c17_15)
def c17_17 : ACode :=
  (.block 1 c17_16)
def c17_18 : ACode :=
  (.cond (.s 53) .skip (.exit 0))
def c17_19 : ACode :=
  (.seq (.seq (.region true [⟨some 32, none, .mv (.s 6)⟩,
    ⟨some 33, none, .nilck (.s 32)⟩,
    ⟨some 34, none, .fa 3 (.s 33)⟩,
    ⟨some 35, none, .ld false 1 (.s 34)⟩,
    ⟨some 36, none, .lenm (.s 35)⟩,
    ⟨some 37, none, .mv (.s 0)⟩,
    ⟨some 38, none, .nilck (.s 37)⟩,
    ⟨some 39, none, .fa 0 (.s 38)⟩,
    ⟨some 40, none, .ld false 1 (.s 39)⟩,
    ⟨some 41, none, .bin .lss (.s 36) (.s 40)⟩,
    ⟨some 42, none, .mv (.s 41)⟩,
    ⟨some 43, some (42, true), .mv (.s 6)⟩,
    ⟨some 44, some (42, true), .nilck (.s 43)⟩,
    ⟨some 45, some (42, true), .fa 2 (.s 44)⟩,
    ⟨some 46, some (42, true), .ld false 1 (.s 45)⟩,
    ⟨some 47, some (42, true), .mv (.s 6)⟩,
    ⟨some 48, some (42, true), .nilck (.s 47)⟩,
    ⟨some 49, some (42, true), .fa 1 (.s 48)⟩,
    ⟨some 50, some (42, true), .ld false 1 (.s 49)⟩,
    ⟨some 51, some (42, true), .len (.s 50)⟩,
    ⟨some 52, some (42, true), .bin .lss (.s 46) (.s 51)⟩,
    ⟨some 53, none, .pick (.s 42) (.s 52) (.c (.t (.bool false)))⟩] [[], [0], [1], [2], [3], [], [5], [6], [7], [4, 8], [9, 4], [10], [11, 10], [12, 10], [13, 10], [10], [15, 10], [16, 10], [17, 10], [18, 10], [14, 19, 10], [10, 20]] [0, 6, 53]) c17_18) c17_17)
def c17_20 : ACode :=
  (.loop c17_19)
def c17_21 : ACode :=
  (.seq (.block 0 c17_20) c17_14)
def c17_22 : ACode :=
  (.cond (.s 31) c17_21 .skip)
def c17_23 : ACode :=
  (.seq (.seq (.region false [⟨some 26, none, .mv (.s 6)⟩,
    ⟨some 27, none, .nilck (.s 26)⟩,
    ⟨some 28, none, .fa 3 (.s 27)⟩,
    ⟨some 29, none, .ld false 1 (.s 28)⟩,
    ⟨some 30, none, .lenm (.s 29)⟩,
    ⟨some 31, none, .bin .eql (.s 30) (.c (.t (.int .i64 0)))⟩] [] [0, 6, 31]) c17_22) c17_10)
def c17_24 : ACode :=
  (.seq (.region false [⟨some 20, none, .mv (.s 0)⟩,
    ⟨some 21, none, .nilck (.s 20)⟩,
    ⟨some 22, none, .fa 1 (.s 21)⟩,
    ⟨some 23, none, .ld false 1 (.s 22)⟩,
    ⟨some 24, none, .mv (.s 1)⟩,
    ⟨some 25, none, .nw (.lookup [.int .i64] false (.t (.nilp)) false (.s 23) (.s 24))⟩,
    ⟨some 6, none, .mv (.s 25)⟩] [] [0, 6]) c17_23)
def c17_25 : ACode :=
  (.seq (.region false [⟨some 4, none, .cst (.nils)⟩,
    ⟨some 5, none, .cst (.t (.bool false))⟩] [] [4, 5]) .ret)
def c17_26 : ACode :=
  (.cond (.s 19) c17_25 .skip)
def c17_27 : ACode :=
  (.seq (.seq (.region false [⟨some 9, none, .mv (.s 0)⟩,
    ⟨some 10, none, .call 31 [(.s 9)]⟩,
    ⟨some 11, none, .mv (.s 10)⟩,
    ⟨some 12, some (11, false), .mv (.s 0)⟩,
    ⟨some 13, some (11, false), .nilck (.s 12)⟩,
    ⟨some 14, some (11, false), .fa 1 (.s 13)⟩,
    ⟨some 15, some (11, false), .ld false 1 (.s 14)⟩,
    ⟨some 16, some (11, false), .mv (.s 1)⟩,
    ⟨some 17, some (11, false), .nw (.lookup [.int .i64] false (.t (.nilp)) false (.s 15) (.s 16))⟩,
    ⟨some 18, some (11, false), .eqp false (.s 17)⟩,
    ⟨some 19, none, .pick (.s 11) (.c (.t (.bool true))) (.s 18)⟩] [] [0, 1, 19]) c17_26) c17_24)
def c17 : ACode :=
  (.seq (.region false [⟨some 4, none, .cst (.nils)⟩,
    ⟨some 5, none, .cst (.t (.bool false))⟩] [] [0, 1]) c17_27)
def r17 : List ARes := [.tmp 4, .tmp 5]
def n17 : Nat := 116
/- 18 (*supergraph loader.Loader).Done -/
def c18_0 : ACode :=
  (.seq (.region false [⟨some 6, none, .cst (.t (.int .i64 0))⟩] [] [6]) .ret)
def c18_1 : ACode :=
  (.seq (.region false [⟨some 74, none, .mv (.s 7)⟩,
    ⟨some 75, none, .nilck (.s 74)⟩,
    ⟨some 76, none, .fa 3 (.s 75)⟩,
    ⟨some 77, none, .ld false 1 (.s 76)⟩,
    ⟨none, none, .nw (.mclr (.s 77))⟩] [] []) c18_0)
def c18_2 : ACode :=
  (.region false [⟨some 73, none, .bin .add (.s 50) (.c (.t (.int .i64 1)))⟩,
    ⟨some 50, none, .mv (.s 73)⟩] [] [7, 48, 49, 50])
def c18_3 : ACode :=
  (.region true [⟨some 55, none, .mv (.s 7)⟩,
    ⟨some 56, none, .nilck (.s 55)⟩,
    ⟨some 57, none, .fa 3 (.s 56)⟩,
    ⟨some 58, none, .ld false 1 (.s 57)⟩,
    ⟨some 59, none, .mv (.s 8)⟩,
    ⟨some 60, none, .nw (.lookup [.int .i64] false (.t (.nilp)) false (.s 58) (.s 59))⟩,
    ⟨some 61, none, .mv (.s 7)⟩,
    ⟨some 62, none, .nilck (.s 61)⟩,
    ⟨some 63, none, .fa 3 (.s 62)⟩,
    ⟨some 64, none, .ld false 1 (.s 63)⟩,
    ⟨some 65, none, .mv (.s 8)⟩,
    ⟨some 66, none, .nw (.lookup [.int .i64] false (.t (.nilp)) false (.s 64) (.s 65))⟩,
    ⟨some 67, none, .ld true 5 (.s 9)⟩,
    ⟨some 68, none, .call 33 [(.s 67)]⟩,
    ⟨some 69, none, .nilck (.s 60)⟩,
    ⟨some 70, none, .fa 5 (.s 69)⟩,
    ⟨none, none, .st 5 (.s 70) (.s 68)⟩,
    ⟨some 71, none, .nilck (.s 66)⟩,
    ⟨some 72, none, .fa 10 (.s 71)⟩,
    ⟨none, none, .st 1 (.s 72) (.c (.t (.bool true)))⟩] [[], [0], [1], [2], [], [3, 4], [], [6], [7], [8], [], [9, 10], [], [12], [5, 0, 1, 2, 3, 4, 5, 9, 11, 12, 13], [14, 0, 1, 2, 3, 4, 5, 9, 11, 12, 13], [15, 13, 13, 0, 1, 2, 3, 4, 5, 9, 11, 12, 13], [11, 0, 1, 2, 3, 4, 5, 6, 7, 8, 9, 10, 11, 12, 13, 14, 15, 16], [17, 0, 1, 2, 3, 4, 5, 6, 7, 8, 9, 10, 11, 12, 13, 14, 15, 16], [18, 16, 0, 1, 2, 3, 4, 5, 6, 7, 8, 9, 10, 11, 12, 13, 14, 15, 16]] [7, 48, 49, 50])
def c18_4 : ACode :=
  (.seq (.region false [⟨some 52, none, .mv (.s 50)⟩,
    ⟨some 53, none, .ia 5 (.s 48) (.s 50)⟩,
    ⟨some 54, none, .ld true 5 (.s 53)⟩,
    ⟨some 9, none, .alloc [.t (.int .i64 0), .t (.int .i64 0), .t (.str []), .nils, .nils]⟩,
    ⟨some 8, none, .mv (.s 52)⟩,
    ⟨none, none, .st 5 (.s 9) (.s 54)⟩] [] [7, 8, 9, 48, 49, 50]) c18_3)
def c18_5 : ACode :=
  (.seq (.block 2 c18_4) c18_2)
def c18_6 : ACode :=
  (.seq (.cond (.s 51) .skip (.exit 1)) c18_5)
def c18_7 : ACode :=
  (.seq (.region false [⟨some 51, none, .bin .lss (.s 50) (.s 49)⟩] [] [7, 48, 49, 50, 51]) c18_6)
def c18_8 : ACode :=
  (.loop c18_7)
def c18_9 : ACode :=
  (.block 1 c18_8)
def c18_10 : ACode :=
  (.seq (.seq (.region false [⟨some 48, none, .mv (.s 2)⟩,
    ⟨some 49, none, .len (.s 48)⟩,
    ⟨some 50, none, .cst (.t (.int .i64 0))⟩] [] [7, 48, 49, 50]) c18_9) c18_1)
def c18_11 : ACode :=
  (.seq (.region false [⟨some 6, none, .cst (.t (.int .i64 2))⟩] [] [6]) .ret)
def c18_12 : ACode :=
  (.cond (.s 47) c18_11 .skip)
def c18_13 : ACode :=
  (.seq (.seq (.region false [⟨some 40, none, .mv (.s 2)⟩,
    ⟨some 41, none, .len (.s 40)⟩,
    ⟨some 42, none, .mv (.s 7)⟩,
    ⟨some 43, none, .nilck (.s 42)⟩,
    ⟨some 44, none, .fa 3 (.s 43)⟩,
    ⟨some 45, none, .ld false 1 (.s 44)⟩,
    ⟨some 46, none, .lenm (.s 45)⟩,
    ⟨some 47, none, .bin .neq (.s 41) (.s 46)⟩] [] [2, 7, 47]) c18_12) c18_10)
def c18_14 : ACode :=
  (.seq (.region false [⟨some 34, none, .mv (.s 0)⟩,
    ⟨some 35, none, .nilck (.s 34)⟩,
    ⟨some 36, none, .fa 1 (.s 35)⟩,
    ⟨some 37, none, .ld false 1 (.s 36)⟩,
    ⟨some 38, none, .mv (.s 1)⟩,
    ⟨some 39, none, .nw (.lookup [.int .i64] false (.t (.nilp)) false (.s 37) (.s 38))⟩,
    ⟨some 7, none, .mv (.s 39)⟩] [] [2, 7]) c18_13)
def c18_15 : ACode :=
  (.seq (.region false [⟨some 6, none, .cst (.t (.int .i64 1))⟩] [] [6]) .ret)
def c18_16 : ACode :=
  (.seq (.region false [⟨some 6, none, .cst (.t (.int .i64 12))⟩] [] [6]) .ret)
def c18_17 : ACode :=
  (.cond (.s 13) c18_16 .skip)
def c18_18 : ACode :=
  (.seq (.region false [⟨some 14, none, .mv (.s 0)⟩,
    ⟨some 15, none, .nilck (.s 14)⟩,
    ⟨some 16, none, .fa 1 (.s 15)⟩,
    ⟨some 17, none, .ld false 1 (.s 16)⟩,
    ⟨some 18, none, .mv (.s 1)⟩,
    ⟨some 19, none, .nw (.lookup [.int .i64] false (.t (.nilp)) false (.s 17) (.s 18))⟩,
    ⟨some 20, none, .eqp false (.s 19)⟩,
    ⟨some 21, none, .mv (.s 20)⟩,
    ⟨some 22, some (21, false), .mv (.s 0)⟩,
    ⟨some 23, some (21, false), .nilck (.s 22)⟩,
    ⟨some 24, some (21, false), .fa 1 (.s 23)⟩,
    ⟨some 25, some (21, false), .ld false 1 (.s 24)⟩,
    ⟨some 26, some (21, false), .mv (.s 1)⟩,
    ⟨some 27, some (21, false), .nw (.lookup [.int .i64] false (.t (.nilp)) false (.s 25) (.s 26))⟩,
    ⟨some 28, some (21, false), .nilck (.s 27)⟩,
    ⟨some 29, some (21, false), .fa 3 (.s 28)⟩,
    ⟨some 30, some (21, false), .ld false 1 (.s 29)⟩,
    ⟨some 31, some (21, false), .lenm (.s 30)⟩,
    ⟨some 32, some (21, false), .bin .eql (.s 31) (.c (.t (.int .i64 0)))⟩,
    ⟨some 33, none, .pick (.s 21) (.c (.t (.bool true))) (.s 32)⟩,
    ⟨some 13, none, .mv (.s 33)⟩] [] [0, 1, 2, 13]) c18_17)
def c18_19 : ACode :=
  (.cond (.s 10) c18_15 c18_18)
def c18_20 : ACode :=
  (.seq (.region false [⟨some 11, none, .mv (.s 0)⟩,
    ⟨some 12, none, .call 31 [(.s 11)]⟩,
    ⟨some 10, none, .mv (.s 12)⟩] [] [0, 1, 2, 10]) c18_19)
def c18_21 : ACode :=
  (.seq (.block 0 c18_20) c18_14)
def c18 : ACode :=
  (.seq (.region false [⟨some 6, none, .cst (.t (.int .i64 0))⟩] [] [0, 1, 2]) c18_21)
def r18 : List ARes := [.tmp 6]
def n18 : Nat := 78
/- 19 (*supergraph loader.Loader).Take -/
def c19_0 : ACode :=
  (.seq (.region false [⟨some 65, none, .mv (.s 9)⟩,
    ⟨some 66, none, .nilck (.s 65)⟩,
    ⟨some 67, none, .fa 5 (.s 66)⟩,
    ⟨some 68, none, .ld true 5 (.s 67)⟩,
    ⟨some 69, none, .call 33 [(.s 68)]⟩,
    ⟨none, none, .st 5 (.s 6) (.s 69)⟩,
    ⟨some 7, none, .cst (.t (.bool true))⟩] [] [6, 7]) .ret)
def c19_1 : ACode :=
  (.seq (.region false [⟨some 64, none, .build [.t (.int .i64 0), .t (.int .i64 0), .t (.str []), .nils, .nils] []⟩,
    ⟨none, none, .st 5 (.s 6) (.s 64)⟩,
    ⟨some 7, none, .cst (.t (.bool false))⟩] [] [6, 7]) .ret)
def c19_2 : ACode :=
  (.cond (.s 63) c19_1 .skip)
def c19_3 : ACode :=
  (.seq (.seq (.region false [⟨some 59, none, .mv (.s 9)⟩,
    ⟨some 60, none, .nilck (.s 59)⟩,
    ⟨some 61, none, .fa 10 (.s 60)⟩,
    ⟨some 62, none, .ld false 1 (.s 61)⟩,
    ⟨some 63, none, .un .not (.s 62)⟩] [] [6, 9, 63]) c19_2) c19_0)
def c19_4 : ACode :=
  (.seq (.region true [⟨some 46, none, .mv (.s 8)⟩,
    ⟨some 47, none, .nilck (.s 46)⟩,
    ⟨some 48, none, .fa 1 (.s 47)⟩,
    ⟨some 49, none, .ld false 1 (.s 48)⟩,
    ⟨some 50, none, .mv (.s 8)⟩,
    ⟨some 51, none, .nilck (.s 50)⟩,
    ⟨some 52, none, .fa 0 (.s 51)⟩,
    ⟨some 53, none, .ld false 1 (.s 52)⟩,
    ⟨some 54, none, .mv (.s 2)⟩,
    ⟨some 55, none, .ia 1 (.s 53) (.s 54)⟩,
    ⟨some 56, none, .ld false 1 (.s 55)⟩,
    ⟨some 57, none, .ia 1 (.s 49) (.s 56)⟩,
    ⟨some 58, none, .ld false 1 (.s 57)⟩,
    ⟨some 9, none, .mv (.s 58)⟩] [[], [0], [1], [2], [], [4], [5], [6], [], [7, 8], [9], [3, 10], [11], [12, 0, 1, 2, 3, 4, 5, 6, 7, 8, 9, 10, 11, 12]] [6, 9]) c19_3)
def c19_5 : ACode :=
  (.seq (.region false [⟨some 40, none, .mv (.s 0)⟩,
    ⟨some 41, none, .nilck (.s 40)⟩,
    ⟨some 42, none, .fa 1 (.s 41)⟩,
    ⟨some 43, none, .ld false 1 (.s 42)⟩,
    ⟨some 44, none, .mv (.s 1)⟩,
    ⟨some 45, none, .nw (.lookup [.int .i64] false (.t (.nilp)) false (.s 43) (.s 44))⟩,
    ⟨some 8, none, .mv (.s 45)⟩] [] [2, 6, 8]) c19_4)
def c19_6 : ACode :=
  (.seq (.region false [⟨some 39, none, .build [.t (.int .i64 0), .t (.int .i64 0), .t (.str []), .nils, .nils] []⟩,
    ⟨none, none, .st 5 (.s 6) (.s 39)⟩,
    ⟨some 7, none, .cst (.t (.bool false))⟩] [] [6, 7]) .ret)
def c19_7 : ACode :=
  (.cond (.s 38) c19_6 .skip)
def c19_8 : ACode :=
  (.seq (.seq (.region false [⟨some 10, none, .mv (.s 0)⟩,
    ⟨some 11, none, .call 31 [(.s 10)]⟩,
    ⟨some 12, none, .mv (.s 11)⟩,
    ⟨some 13, some (12, false), .mv (.s 0)⟩,
    ⟨some 14, some (12, false), .nilck (.s 13)⟩,
    ⟨some 15, some (12, false), .fa 1 (.s 14)⟩,
    ⟨some 16, some (12, false), .ld false 1 (.s 15)⟩,
    ⟨some 17, some (12, false), .mv (.s 1)⟩,
    ⟨some 18, some (12, false), .nw (.lookup [.int .i64] false (.t (.nilp)) false (.s 16) (.s 17))⟩,
    ⟨some 19, some (12, false), .eqp false (.s 18)⟩,
    ⟨some 20, none, .pick (.s 12) (.c (.t (.bool true))) (.s 19)⟩,
    ⟨some 21, none, .mv (.s 20)⟩,
    ⟨some 22, some (21, false), .mv (.s 2)⟩,
    ⟨some 23, some (21, false), .bin .lss (.s 22) (.c (.t (.int .i64 0)))⟩,
    ⟨some 24, none, .pick (.s 21) (.c (.t (.bool true))) (.s 23)⟩,
    ⟨some 25, none, .mv (.s 24)⟩,
    ⟨some 26, some (25, false), .mv (.s 2)⟩,
    ⟨some 27, some (25, false), .mv (.s 0)⟩,
    ⟨some 28, some (25, false), .nilck (.s 27)⟩,
    ⟨some 29, some (25, false), .fa 1 (.s 28)⟩,
    ⟨some 30, some (25, false), .ld false 1 (.s 29)⟩,
    ⟨some 31, some (25, false), .mv (.s 1)⟩,
    ⟨some 32, some (25, false), .nw (.lookup [.int .i64] false (.t (.nilp)) false (.s 30) (.s 31))⟩,
    ⟨some 33, some (25, false), .nilck (.s 32)⟩,
    ⟨some 34, some (25, false), .fa 0 (.s 33)⟩,
    ⟨some 35, some (25, false), .ld false 1 (.s 34)⟩,
    ⟨some 36, some (25, false), .len (.s 35)⟩,
    ⟨some 37, some (25, false), .bin .geq (.s 26) (.s 36)⟩,
    ⟨some 38, none, .pick (.s 25) (.c (.t (.bool true))) (.s 37)⟩] [] [0, 1, 2, 6, 38]) c19_7) c19_5)
def c19 : ACode :=
  (.seq (.region false [⟨some 6, none, .alloc [.t (.int .i64 0), .t (.int .i64 0), .t (.str []), .nils, .nils]⟩,
    ⟨some 7, none, .cst (.t (.bool false))⟩] [] [0, 1, 2, 6]) c19_8)
def r19 : List ARes := [.cell 6 true 5, .tmp 7]
def n19 : Nat := 70
/- 20 supergraph supergraphref02.Same -/
def c20_0 : ACode :=
  (.seq (.region false [⟨some 5, none, .ld true 5 (.s 2)⟩,
    ⟨some 6, none, .ld true 5 (.s 3)⟩,
    ⟨some 7, none, .call 34 [(.s 5), (.s 6)]⟩,
    ⟨some 8, none, .bin .eql (.s 7) (.c (.t (.int .i64 0)))⟩,
    ⟨some 4, none, .mv (.s 8)⟩] [] [4]) .ret)
def c20 : ACode :=
  (.seq (.region false [⟨some 2, none, .box 5 (.s 0)⟩,
    ⟨some 3, none, .box 5 (.s 1)⟩,
    ⟨some 4, none, .cst (.t (.bool false))⟩] [] [2, 3]) c20_0)
def r20 : List ARes := [.tmp 4]
def n20 : Nat := 9
/- 21 supergraph supergraphlaw35.few -/
def c21_0 : ACode :=
  (.seq (.region false [⟨some 20, none, .mv (.s 0)⟩,
    ⟨some 21, none, .len (.s 20)⟩,
    ⟨some 22, none, .bin .leq (.s 21) (.c (.t (.int .i64 100)))⟩,
    ⟨some 2, none, .mv (.s 22)⟩] [] [2]) .ret)
def c21_1 : ACode :=
  (.region false [⟨some 12, none, .mv (.s 3)⟩,
    ⟨some 13, none, .bin .add (.s 12) (.c (.t (.int .i64 1)))⟩,
    ⟨some 3, none, .mv (.s 13)⟩] [] [0, 3])
def c21_2 : ACode :=
  (.seq (.region false [⟨some 2, none, .cst (.t (.bool false))⟩] [] [2]) .ret)
def c21_3 : ACode :=
  (.cond (.s 19) c21_2 .skip)
def c21_4 : ACode :=
  (.seq (.region false [⟨some 14, none, .mv (.s 0)⟩,
    ⟨some 15, none, .mv (.s 3)⟩,
    ⟨some 16, none, .ia 5 (.s 14) (.s 15)⟩,
    ⟨some 17, none, .ld true 5 (.s 16)⟩,
    ⟨some 18, none, .call 9 [(.s 17)]⟩,
    ⟨some 19, none, .bin .gtr (.s 18) (.c (.t (.int .i64 50)))⟩] [] [0, 3, 19]) c21_3)
def c21_5 : ACode :=
  (.seq (.block 1 c21_4) c21_1)
def c21_6 : ACode :=
  (.cond (.s 11) .skip (.exit 0))
def c21_7 : ACode :=
  (.seq (.seq (.region false [⟨some 4, none, .mv (.s 3)⟩,
    ⟨some 5, none, .mv (.s 0)⟩,
    ⟨some 6, none, .len (.s 5)⟩,
    ⟨some 7, none, .bin .lss (.s 4) (.s 6)⟩,
    ⟨some 8, none, .mv (.s 7)⟩,
    ⟨some 9, some (8, true), .mv (.s 3)⟩,
    ⟨some 10, some (8, true), .bin .lss (.s 9) (.c (.t (.int .i64 100)))⟩,
    ⟨some 11, none, .pick (.s 8) (.s 10) (.c (.t (.bool false)))⟩] [] [0, 3, 11]) c21_6) c21_5)
def c21_8 : ACode :=
  (.loop c21_7)
def c21_9 : ACode :=
  (.block 0 c21_8)
def c21_10 : ACode :=
  (.seq (.seq (.region false [⟨some 3, none, .cst (.t (.int .i64 0))⟩] [] [0, 3]) c21_9) c21_0)
def c21 : ACode :=
  (.seq (.region false [⟨some 2, none, .cst (.t (.bool false))⟩] [] [0]) c21_10)
def r21 : List ARes := [.tmp 2]
def n21 : Nat := 23
/- 22 supergraph supergraphlaw35.index -/
/- 23 supergraph supergraphref02.List -/
/- 24 supergraph supergraphlaw35.same -/
def c24_0 : ACode :=
  (.seq (.region false [⟨some 4, none, .cst (.t (.bool true))⟩] [] [4]) .ret)
def c24_1 : ACode :=
  (.region false [⟨some 15, none, .mv (.s 5)⟩,
    ⟨some 16, none, .bin .add (.s 15) (.c (.t (.int .i64 1)))⟩,
    ⟨some 5, none, .mv (.s 16)⟩] [] [0, 1, 5])
def c24_2 : ACode :=
  (.seq (.region false [⟨some 4, none, .cst (.t (.bool false))⟩] [] [4]) .ret)
def c24_3 : ACode :=
  (.cond (.s 26) c24_2 .skip)
def c24_4 : ACode :=
  (.seq (.region true [⟨some 17, none, .mv (.s 0)⟩,
    ⟨some 18, none, .mv (.s 5)⟩,
    ⟨some 19, none, .ia 5 (.s 17) (.s 18)⟩,
    ⟨some 20, none, .ld true 5 (.s 19)⟩,
    ⟨some 21, none, .mv (.s 1)⟩,
    ⟨some 22, none, .mv (.s 5)⟩,
    ⟨some 23, none, .ia 5 (.s 21) (.s 22)⟩,
    ⟨some 24, none, .ld true 5 (.s 23)⟩,
    ⟨some 25, none, .call 20 [(.s 20), (.s 24)]⟩,
    ⟨some 26, none, .un .not (.s 25)⟩] [[], [], [0, 1], [2], [], [], [4, 5], [6], [3, 7], [8]] [0, 1, 5, 26]) c24_3)
def c24_5 : ACode :=
  (.seq (.block 1 c24_4) c24_1)
def c24_6 : ACode :=
  (.cond (.s 14) .skip (.exit 0))
def c24_7 : ACode :=
  (.seq (.seq (.region false [⟨some 11, none, .mv (.s 5)⟩,
    ⟨some 12, none, .mv (.s 0)⟩,
    ⟨some 13, none, .len (.s 12)⟩,
    ⟨some 14, none, .bin .lss (.s 11) (.s 13)⟩] [] [0, 1, 5, 14]) c24_6) c24_5)
def c24_8 : ACode :=
  (.loop c24_7)
def c24_9 : ACode :=
  (.block 0 c24_8)
def c24_10 : ACode :=
  (.seq (.seq (.region false [⟨some 5, none, .cst (.t (.int .i64 0))⟩] [] [0, 1, 5]) c24_9) c24_0)
def c24_11 : ACode :=
  (.seq (.region false [⟨some 4, none, .cst (.t (.bool false))⟩] [] [4]) .ret)
def c24_12 : ACode :=
  (.cond (.s 10) c24_11 .skip)
def c24_13 : ACode :=
  (.seq (.seq (.region false [⟨some 6, none, .mv (.s 0)⟩,
    ⟨some 7, none, .len (.s 6)⟩,
    ⟨some 8, none, .mv (.s 1)⟩,
    ⟨some 9, none, .len (.s 8)⟩,
    ⟨some 10, none, .bin .neq (.s 7) (.s 9)⟩] [] [0, 1, 10]) c24_12) c24_10)
def c24 : ACode :=
  (.seq (.region false [⟨some 4, none, .cst (.t (.bool false))⟩] [] [0, 1]) c24_13)
def r24 : List ARes := [.tmp 4]
def n24 : Nat := 27
/- 25 supergraph supergraphref02.Int -/
def c25_0 : ACode :=
  (.seq (.region false [⟨some 3, none, .mv (.s 0)⟩,
    ⟨some 4, none, .build [.t (.int .i64 0), .t (.int .i64 0), .t (.str []), .nils, .nils] [(0, 1, (.c (.t (.int .i64 2)))), (1, 1, (.s 3))]⟩,
    ⟨none, none, .st 5 (.s 2) (.s 4)⟩] [] [2]) .ret)
def c25 : ACode :=
  (.seq (.region false [⟨some 2, none, .alloc [.t (.int .i64 0), .t (.int .i64 0), .t (.str []), .nils, .nils]⟩] [] [0, 2]) c25_0)
def r25 : List ARes := [.cell 2 true 5]
def n25 : Nat := 5
/- 26 supergraph supergraphref02.Text -/
def c26_0 : ACode :=
  (.seq (.region false [⟨some 3, none, .mv (.s 0)⟩,
    ⟨some 4, none, .build [.t (.int .i64 0), .t (.int .i64 0), .t (.str []), .nils, .nils] [(0, 1, (.c (.t (.int .i64 3)))), (2, 1, (.s 3))]⟩,
    ⟨none, none, .st 5 (.s 2) (.s 4)⟩] [] [2]) .ret)
def c26 : ACode :=
  (.seq (.region false [⟨some 2, none, .alloc [.t (.int .i64 0), .t (.int .i64 0), .t (.str []), .nils, .nils]⟩] [] [0, 2]) c26_0)
def r26 : List ARes := [.cell 2 true 5]
def n26 : Nat := 5
/- 27 (*supergraph supergraphref35.Loader).Add -/
/- 28 (*supergraph supergraphref35.Loader).Next -/
/- 29 (*supergraph supergraphref35.Loader).Done -/
/- 30 (*supergraph supergraphref35.Loader).Take -/
/- 31 (*supergraph loader.Loader).none -/
def c31_0 : ACode :=
  (.seq (.region false [⟨some 3, none, .mv (.s 0)⟩,
    ⟨some 4, none, .eqp false (.s 3)⟩,
    ⟨some 5, none, .mv (.s 4)⟩,
    ⟨some 6, some (5, false), .mv (.s 0)⟩,
    ⟨some 7, some (5, false), .nilck (.s 6)⟩,
    ⟨some 8, some (5, false), .fa 1 (.s 7)⟩,
    ⟨some 9, some (5, false), .ld false 1 (.s 8)⟩,
    ⟨some 10, some (5, false), .eqm false (.s 9)⟩,
    ⟨some 11, none, .pick (.s 5) (.c (.t (.bool true))) (.s 10)⟩,
    ⟨some 2, none, .mv (.s 11)⟩] [] [2]) .ret)
def c31 : ACode :=
  (.seq (.region false [⟨some 2, none, .cst (.t (.bool false))⟩] [] [0]) c31_0)
def r31 : List ARes := [.tmp 2]
def n31 : Nat := 12
/- 32 supergraph value.Same -/
def c32_0 : ACode :=
  (.seq (.region false [⟨some 5, none, .ld true 5 (.s 2)⟩,
    ⟨some 6, none, .ld true 5 (.s 3)⟩,
    ⟨some 7, none, .call 38 [(.s 5), (.s 6)]⟩,
    ⟨some 8, none, .bin .eql (.s 7) (.c (.t (.int .i64 0)))⟩,
    ⟨some 4, none, .mv (.s 8)⟩] [] [4]) .ret)
def c32 : ACode :=
  (.seq (.region false [⟨some 2, none, .box 5 (.s 0)⟩,
    ⟨some 3, none, .box 5 (.s 1)⟩,
    ⟨some 4, none, .cst (.t (.bool false))⟩] [] [2, 3]) c32_0)
def r32 : List ARes := [.tmp 4]
def n32 : Nat := 9
/- 33 supergraph value.Copy -/
def c33_0 : ACode :=
  (.seq (.region false [⟨some 11, none, .ld true 5 (.s 1)⟩,
    ⟨none, none, .st 5 (.s 2) (.s 11)⟩] [] [2]) .ret)
def c33_1 : ACode :=
  (.seq (.region false [⟨some 7, none, .fa 4 (.s 1)⟩,
    ⟨some 8, none, .ld false 1 (.s 7)⟩,
    ⟨some 9, none, .call 40 [(.s 8)]⟩,
    ⟨some 10, none, .fa 4 (.s 1)⟩,
    ⟨none, none, .st 1 (.s 10) (.s 9)⟩] [] [1, 2]) c33_0)
def c33_2 : ACode :=
  (.seq (.region false [⟨some 3, none, .fa 3 (.s 1)⟩,
    ⟨some 4, none, .ld false 1 (.s 3)⟩,
    ⟨some 5, none, .call 39 [(.s 4)]⟩,
    ⟨some 6, none, .fa 3 (.s 1)⟩,
    ⟨none, none, .st 1 (.s 6) (.s 5)⟩] [] [1, 2]) c33_1)
def c33 : ACode :=
  (.seq (.region false [⟨some 1, none, .box 5 (.s 0)⟩,
    ⟨some 2, none, .alloc [.t (.int .i64 0), .t (.int .i64 0), .t (.str []), .nils, .nils]⟩] [] [1, 2]) c33_2)
def r33 : List ARes := [.cell 2 true 5]
def n33 : Nat := 12
/- 34 supergraph supergraphref02.Compare -/
def c34_0 : ACode :=
  (.seq (.region false [⟨some 69, none, .mv (.s 5)⟩,
    ⟨some 4, none, .mv (.s 69)⟩] [] [4]) .ret)
def c34_1 : ACode :=
  (.region false [⟨some 28, none, .mv (.s 6)⟩,
    ⟨some 29, none, .bin .add (.s 28) (.c (.t (.int .i64 1)))⟩,
    ⟨some 6, none, .mv (.s 29)⟩] [] [2, 3, 5, 6])
def c34_2 : ACode :=
  (.region true [⟨some 58, none, .fa 3 (.s 2)⟩,
    ⟨some 59, none, .ld false 1 (.s 58)⟩,
    ⟨some 60, none, .mv (.s 6)⟩,
    ⟨some 61, none, .ia 5 (.s 59) (.s 60)⟩,
    ⟨some 62, none, .ld true 5 (.s 61)⟩,
    ⟨some 63, none, .fa 3 (.s 3)⟩,
    ⟨some 64, none, .ld false 1 (.s 63)⟩,
    ⟨some 65, none, .mv (.s 6)⟩,
    ⟨some 66, none, .ia 5 (.s 64) (.s 65)⟩,
    ⟨some 67, none, .ld true 5 (.s 66)⟩,
    ⟨some 68, none, .call 34 [(.s 62), (.s 67)]⟩,
    ⟨some 5, none, .mv (.s 68)⟩] [[], [0], [], [1, 2], [3], [], [5], [], [6, 7], [8], [4, 9], [10, 10, 0, 1, 2, 3, 4, 5, 6, 7, 8, 9, 10]] [2, 3, 5, 6])
def c34_3 : ACode :=
  (.cond (.s 57) c34_2 .skip)
def c34_4 : ACode :=
  (.seq (.region false [⟨some 56, none, .mv (.s 5)⟩,
    ⟨some 57, none, .bin .eql (.s 56) (.c (.t (.int .i64 0)))⟩] [] [2, 3, 5, 6, 57]) c34_3)
def c34_5 : ACode :=
  (.seq (.region true [⟨some 49, none, .ld true 5 (.s 2)⟩,
    ⟨some 50, none, .mv (.s 6)⟩,
    ⟨some 51, none, .call 43 [(.s 49), (.s 50)]⟩,
    ⟨some 52, none, .ld true 5 (.s 3)⟩,
    ⟨some 53, none, .mv (.s 6)⟩,
    ⟨some 54, none, .call 43 [(.s 52), (.s 53)]⟩,
    ⟨some 55, none, .call 42 [(.s 51), (.s 54)]⟩,
    ⟨some 5, none, .mv (.s 55)⟩] [[], [], [0, 1], [], [], [3, 4, 2], [2, 5, 5], [6, 6, 0, 1, 2, 3, 4, 5, 6]] [2, 3, 5, 6]) c34_4)
def c34_6 : ACode :=
  (.seq (.region false [⟨some 42, none, .fa 3 (.s 2)⟩,
    ⟨some 43, none, .ld false 1 (.s 42)⟩,
    ⟨some 44, none, .len (.s 43)⟩,
    ⟨some 45, none, .fa 3 (.s 3)⟩,
    ⟨some 46, none, .ld false 1 (.s 45)⟩,
    ⟨some 47, none, .len (.s 46)⟩,
    ⟨some 48, none, .call 41 [(.s 44), (.s 47)]⟩,
    ⟨some 4, none, .mv (.s 48)⟩] [] [4]) .ret)
def c34_7 : ACode :=
  (.cond (.s 41) c34_6 .skip)
def c34_8 : ACode :=
  (.seq (.seq (.region false [⟨some 30, none, .mv (.s 6)⟩,
    ⟨some 31, none, .fa 3 (.s 2)⟩,
    ⟨some 32, none, .ld false 1 (.s 31)⟩,
    ⟨some 33, none, .len (.s 32)⟩,
    ⟨some 34, none, .bin .geq (.s 30) (.s 33)⟩,
    ⟨some 35, none, .mv (.s 34)⟩,
    ⟨some 36, some (35, false), .mv (.s 6)⟩,
    ⟨some 37, some (35, false), .fa 3 (.s 3)⟩,
    ⟨some 38, some (35, false), .ld false 1 (.s 37)⟩,
    ⟨some 39, some (35, false), .len (.s 38)⟩,
    ⟨some 40, some (35, false), .bin .geq (.s 36) (.s 39)⟩,
    ⟨some 41, none, .pick (.s 35) (.c (.t (.bool true))) (.s 40)⟩] [] [2, 3, 6, 41]) c34_7) c34_5)
def c34_9 : ACode :=
  (.seq (.block 1 c34_8) c34_1)
def c34_10 : ACode :=
  (.cond (.s 27) .skip (.exit 0))
def c34_11 : ACode :=
  (.seq (.seq (.region false [⟨some 26, none, .mv (.s 5)⟩,
    ⟨some 27, none, .bin .eql (.s 26) (.c (.t (.int .i64 0)))⟩] [] [2, 3, 5, 6, 27]) c34_10) c34_9)
def c34_12 : ACode :=
  (.loop c34_11)
def c34_13 : ACode :=
  (.block 0 c34_12)
def c34_14 : ACode :=
  (.seq (.seq (.region false [⟨some 6, none, .cst (.t (.int .i64 0))⟩] [] [2, 3, 5, 6]) c34_13) c34_0)
def c34_15 : ACode :=
  (.region false [⟨some 21, none, .fa 2 (.s 2)⟩,
    ⟨some 22, none, .ld false 1 (.s 21)⟩,
    ⟨some 23, none, .fa 2 (.s 3)⟩,
    ⟨some 24, none, .ld false 1 (.s 23)⟩,
    ⟨some 25, none, .call 42 [(.s 22), (.s 24)]⟩,
    ⟨some 5, none, .mv (.s 25)⟩] [] [2, 3, 5])
def c34_16 : ACode :=
  (.cond (.s 20) c34_15 .skip)
def c34_17 : ACode :=
  (.seq (.seq (.region false [⟨some 19, none, .mv (.s 5)⟩,
    ⟨some 20, none, .bin .eql (.s 19) (.c (.t (.int .i64 0)))⟩] [] [2, 3, 5, 20]) c34_16) c34_14)
def c34_18 : ACode :=
  (.region false [⟨some 14, none, .fa 1 (.s 2)⟩,
    ⟨some 15, none, .ld false 1 (.s 14)⟩,
    ⟨some 16, none, .fa 1 (.s 3)⟩,
    ⟨some 17, none, .ld false 1 (.s 16)⟩,
    ⟨some 18, none, .call 41 [(.s 15), (.s 17)]⟩,
    ⟨some 5, none, .mv (.s 18)⟩] [] [2, 3, 5])
def c34_19 : ACode :=
  (.cond (.s 13) c34_18 .skip)
def c34_20 : ACode :=
  (.seq (.seq (.region false [⟨some 12, none, .mv (.s 5)⟩,
    ⟨some 13, none, .bin .eql (.s 12) (.c (.t (.int .i64 0)))⟩] [] [2, 3, 5, 13]) c34_19) c34_17)
def c34_21 : ACode :=
  (.seq (.region false [⟨some 7, none, .fa 0 (.s 2)⟩,
    ⟨some 8, none, .ld false 1 (.s 7)⟩,
    ⟨some 9, none, .fa 0 (.s 3)⟩,
    ⟨some 10, none, .ld false 1 (.s 9)⟩,
    ⟨some 11, none, .call 41 [(.s 8), (.s 10)]⟩,
    ⟨some 5, none, .mv (.s 11)⟩] [] [2, 3, 5]) c34_20)
def c34 : ACode :=
  (.seq (.region false [⟨some 2, none, .box 5 (.s 0)⟩,
    ⟨some 3, none, .box 5 (.s 1)⟩,
    ⟨some 4, none, .cst (.t (.int .i64 0))⟩] [] [2, 3]) c34_21)
def r34 : List ARes := [.tmp 4]
def n34 : Nat := 70
/- 35 supergraph supergraphref02.copies -/
/- 36 supergraph supergraphref02.Copy -/
/- 37 (*supergraph supergraphref35.Loader).batch -/
/- 38 supergraph value.Compare -/
def c38_0 : ACode :=
  (.seq (.region false [⟨some 83, none, .mv (.s 5)⟩,
    ⟨some 4, none, .mv (.s 83)⟩] [] [4]) .ret)
def c38_1 : ACode :=
  (.region false [⟨some 82, none, .bin .add (.s 7) (.c (.t (.int .i64 1)))⟩,
    ⟨some 7, none, .mv (.s 82)⟩] [] [2, 3, 5, 7])
def c38_2 : ACode :=
  (.region false [⟨some 75, none, .fa 3 (.s 2)⟩,
    ⟨some 76, none, .ld false 1 (.s 75)⟩,
    ⟨some 77, none, .len (.s 76)⟩,
    ⟨some 78, none, .fa 3 (.s 3)⟩,
    ⟨some 79, none, .ld false 1 (.s 78)⟩,
    ⟨some 80, none, .len (.s 79)⟩,
    ⟨some 81, none, .call 44 [(.s 77), (.s 80)]⟩,
    ⟨some 5, none, .mv (.s 81)⟩] [] [2, 3, 5, 7])
def c38_3 : ACode :=
  (.region false [⟨some 74, none, .bin .add (.s 49) (.c (.t (.int .i64 1)))⟩,
    ⟨some 49, none, .mv (.s 74)⟩] [] [2, 3, 7, 48, 49])
def c38_4 : ACode :=
  (.cond (.s 73) (.exit 0) .skip)
def c38_5 : ACode :=
  (.seq (.region false [⟨some 72, none, .mv (.s 5)⟩,
    ⟨some 73, none, .bin .neq (.s 72) (.c (.t (.int .i64 0)))⟩] [] [2, 3, 5, 7, 48, 49, 73]) c38_4)
def c38_6 : ACode :=
  (.seq (.region true [⟨some 61, none, .fa 3 (.s 2)⟩,
    ⟨some 62, none, .ld false 1 (.s 61)⟩,
    ⟨some 63, none, .mv (.s 6)⟩,
    ⟨some 64, none, .ia 5 (.s 62) (.s 63)⟩,
    ⟨some 65, none, .ld true 5 (.s 64)⟩,
    ⟨some 66, none, .fa 3 (.s 3)⟩,
    ⟨some 67, none, .ld false 1 (.s 66)⟩,
    ⟨some 68, none, .mv (.s 6)⟩,
    ⟨some 69, none, .ia 5 (.s 67) (.s 68)⟩,
    ⟨some 70, none, .ld true 5 (.s 69)⟩,
    ⟨some 71, none, .call 38 [(.s 65), (.s 70)]⟩,
    ⟨some 5, none, .mv (.s 71)⟩] [[], [0], [], [1, 2], [3], [], [5], [], [6, 7], [8], [4, 9], [10, 10, 0, 1, 2, 3, 4, 5, 6, 7, 8, 9, 10]] [2, 3, 5, 7, 48, 49]) c38_5)
def c38_7 : ACode :=
  (.cond (.s 60) (.exit 0) .skip)
def c38_8 : ACode :=
  (.seq (.region false [⟨some 59, none, .mv (.s 5)⟩,
    ⟨some 60, none, .bin .neq (.s 59) (.c (.t (.int .i64 0)))⟩] [] [2, 3, 5, 6, 7, 48, 49, 60]) c38_7)
def c38_9 : ACode :=
  (.seq (.seq (.region true [⟨some 52, none, .ld true 5 (.s 2)⟩,
    ⟨some 53, none, .mv (.s 6)⟩,
    ⟨some 54, none, .call 46 [(.s 52), (.s 53)]⟩,
    ⟨some 55, none, .ld true 5 (.s 3)⟩,
    ⟨some 56, none, .mv (.s 6)⟩,
    ⟨some 57, none, .call 46 [(.s 55), (.s 56)]⟩,
    ⟨some 58, none, .call 45 [(.s 54), (.s 57)]⟩,
    ⟨some 5, none, .mv (.s 58)⟩] [[], [], [0, 1], [], [], [3, 4, 2], [2, 5, 5], [6, 6, 0, 1, 2, 3, 4, 5, 6]] [2, 3, 5, 6, 7, 48, 49]) c38_8) c38_6)
def c38_10 : ACode :=
  (.seq (.region false [⟨some 51, none, .mv (.s 49)⟩,
    ⟨some 6, none, .mv (.s 51)⟩] [] [2, 3, 6, 7, 48, 49]) c38_9)
def c38_11 : ACode :=
  (.seq (.block 4 c38_10) c38_3)
def c38_12 : ACode :=
  (.seq (.cond (.s 50) .skip (.exit 3)) c38_11)
def c38_13 : ACode :=
  (.seq (.region false [⟨some 50, none, .bin .lss (.s 49) (.s 48)⟩] [] [2, 3, 7, 48, 49, 50]) c38_12)
def c38_14 : ACode :=
  (.loop c38_13)
def c38_15 : ACode :=
  (.block 3 c38_14)
def c38_16 : ACode :=
  (.seq (.seq (.region false [⟨some 42, none, .fa 3 (.s 2)⟩,
    ⟨some 43, none, .ld false 1 (.s 42)⟩,
    ⟨some 44, none, .len (.s 43)⟩,
    ⟨some 45, none, .fa 3 (.s 3)⟩,
    ⟨some 46, none, .ld false 1 (.s 45)⟩,
    ⟨some 47, none, .len (.s 46)⟩,
    ⟨some 48, none, .mini (.s 44) (.s 47)⟩,
    ⟨some 49, none, .cst (.t (.int .i64 0))⟩] [] [2, 3, 7, 48, 49]) c38_15) c38_2)
def c38_17 : ACode :=
  (.seq (.region false [⟨some 15, none, .fa 0 (.s 2)⟩,
    ⟨some 16, none, .ld false 1 (.s 15)⟩,
    ⟨some 17, none, .fa 0 (.s 3)⟩,
    ⟨some 18, none, .ld false 1 (.s 17)⟩,
    ⟨some 19, none, .call 44 [(.s 16), (.s 18)]⟩,
    ⟨some 5, none, .mv (.s 19)⟩] [] [5]) (.exit 0))
def c38_18 : ACode :=
  (.seq (.region false [⟨some 26, none, .fa 1 (.s 2)⟩,
    ⟨some 27, none, .ld false 1 (.s 26)⟩,
    ⟨some 28, none, .fa 1 (.s 3)⟩,
    ⟨some 29, none, .ld false 1 (.s 28)⟩,
    ⟨some 30, none, .call 44 [(.s 27), (.s 29)]⟩,
    ⟨some 5, none, .mv (.s 30)⟩] [] [5]) (.exit 0))
def c38_19 : ACode :=
  (.seq (.region false [⟨some 37, none, .fa 2 (.s 2)⟩,
    ⟨some 38, none, .ld false 1 (.s 37)⟩,
    ⟨some 39, none, .fa 2 (.s 3)⟩,
    ⟨some 40, none, .ld false 1 (.s 39)⟩,
    ⟨some 41, none, .call 45 [(.s 38), (.s 40)]⟩,
    ⟨some 5, none, .mv (.s 41)⟩] [] [5]) (.exit 0))
def c38_20 : ACode :=
  (.cond (.s 31) c38_19 .skip)
def c38_21 : ACode :=
  (.seq (.region false [⟨some 32, none, .fa 2 (.s 2)⟩,
    ⟨some 33, none, .ld false 1 (.s 32)⟩,
    ⟨some 34, none, .fa 2 (.s 3)⟩,
    ⟨some 35, none, .ld false 1 (.s 34)⟩,
    ⟨some 36, none, .bin .neq (.s 33) (.s 35)⟩,
    ⟨some 31, none, .mv (.s 36)⟩] [] [2, 3, 7, 31]) c38_20)
def c38_22 : ACode :=
  (.cond (.s 20) c38_18 c38_21)
def c38_23 : ACode :=
  (.seq (.region false [⟨some 21, none, .fa 1 (.s 2)⟩,
    ⟨some 22, none, .ld false 1 (.s 21)⟩,
    ⟨some 23, none, .fa 1 (.s 3)⟩,
    ⟨some 24, none, .ld false 1 (.s 23)⟩,
    ⟨some 25, none, .bin .neq (.s 22) (.s 24)⟩,
    ⟨some 20, none, .mv (.s 25)⟩] [] [2, 3, 7, 20]) c38_22)
def c38_24 : ACode :=
  (.cond (.s 9) c38_17 c38_23)
def c38_25 : ACode :=
  (.seq (.region false [⟨some 10, none, .fa 0 (.s 2)⟩,
    ⟨some 11, none, .ld false 1 (.s 10)⟩,
    ⟨some 12, none, .fa 0 (.s 3)⟩,
    ⟨some 13, none, .ld false 1 (.s 12)⟩,
    ⟨some 14, none, .bin .neq (.s 11) (.s 13)⟩,
    ⟨some 9, none, .mv (.s 14)⟩] [] [2, 3, 7, 9]) c38_24)
def c38_26 : ACode :=
  (.seq (.block 2 c38_25) c38_16)
def c38_27 : ACode :=
  (.seq (.block 1 c38_26) c38_1)
def c38_28 : ACode :=
  (.seq (.cond (.s 8) .skip (.exit 0)) c38_27)
def c38_29 : ACode :=
  (.seq (.region false [⟨some 8, none, .bin .lss (.s 7) (.c (.t (.int .i64 1)))⟩] [] [2, 3, 5, 7, 8]) c38_28)
def c38_30 : ACode :=
  (.loop c38_29)
def c38_31 : ACode :=
  (.block 0 c38_30)
def c38_32 : ACode :=
  (.seq (.seq (.region false [⟨some 7, none, .cst (.t (.int .i64 0))⟩] [] [2, 3, 5, 7]) c38_31) c38_0)
def c38_33 : ACode :=
  (.seq .lbl c38_32)
def c38_34 : ACode :=
  (.seq (.region false [⟨some 5, none, .cst (.t (.int .i64 0))⟩] [] [2, 3, 5]) c38_33)
def c38_35 : ACode :=
  (.scope c38_34)
def c38 : ACode :=
  (.seq (.region false [⟨some 2, none, .box 5 (.s 0)⟩,
    ⟨some 3, none, .box 5 (.s 1)⟩,
    ⟨some 4, none, .cst (.t (.int .i64 0))⟩] [] [2, 3]) c38_35)
def r38 : List ARes := [.tmp 4]
def n38 : Nat := 84
/- 39 supergraph value.copies -/
def c39_0 : ACode :=
  (.seq (.region false [⟨some 18, none, .mv (.s 3)⟩,
    ⟨some 2, none, .mv (.s 18)⟩] [] [2]) .ret)
def c39_1 : ACode :=
  (.region false [⟨some 17, none, .bin .add (.s 8) (.c (.t (.int .i64 1)))⟩,
    ⟨some 8, none, .mv (.s 17)⟩] [] [3, 6, 7, 8])
def c39_2 : ACode :=
  (.region false [⟨some 12, none, .mv (.s 3)⟩,
    ⟨some 13, none, .ld true 5 (.s 5)⟩,
    ⟨some 14, none, .call 33 [(.s 13)]⟩,
    ⟨some 15, none, .bsl false 5 [[.int .i64 0, .int .i64 0, .str [], .lst [], .lst []]] [(0, (.s 14))]⟩,
    ⟨some 16, none, .app 5 80 (.s 12) (.s 15)⟩,
    ⟨some 3, none, .mv (.s 16)⟩] [] [3, 6, 7, 8])
def c39_3 : ACode :=
  (.seq (.region false [⟨some 10, none, .ia 5 (.s 6) (.s 8)⟩,
    ⟨some 11, none, .ld true 5 (.s 10)⟩,
    ⟨some 5, none, .alloc [.t (.int .i64 0), .t (.int .i64 0), .t (.str []), .nils, .nils]⟩,
    ⟨none, none, .st 5 (.s 5) (.s 11)⟩] [] [3, 5, 6, 7, 8]) c39_2)
def c39_4 : ACode :=
  (.seq (.block 1 c39_3) c39_1)
def c39_5 : ACode :=
  (.seq (.cond (.s 9) .skip (.exit 0)) c39_4)
def c39_6 : ACode :=
  (.seq (.region false [⟨some 9, none, .bin .lss (.s 8) (.s 7)⟩] [] [3, 6, 7, 8, 9]) c39_5)
def c39_7 : ACode :=
  (.loop c39_6)
def c39_8 : ACode :=
  (.block 0 c39_7)
def c39_9 : ACode :=
  (.seq (.seq (.region false [⟨some 6, none, .mv (.s 0)⟩,
    ⟨some 7, none, .len (.s 6)⟩,
    ⟨some 8, none, .cst (.t (.int .i64 0))⟩] [] [3, 6, 7, 8]) c39_8) c39_0)
def c39_10 : ACode :=
  (.seq (.region false [⟨some 3, none, .cst (.nils)⟩] [] [0, 3]) c39_9)
def c39 : ACode :=
  (.seq (.region false [⟨some 2, none, .cst (.nils)⟩] [] [0]) c39_10)
def r39 : List ARes := [.tmp 2]
def n39 : Nat := 19
/- 40 slices.Clone[[]string,string] -/
def c40_0 : ACode :=
  (.seq (.region false [⟨some 5, none, .bsl true 1 [] []⟩,
    ⟨some 6, none, .mv (.s 0)⟩,
    ⟨some 7, none, .app 1 16 (.s 5) (.s 6)⟩,
    ⟨some 2, none, .mv (.s 7)⟩] [] [2]) .ret)
def c40_1 : ACode :=
  (.seq (.region false [⟨some 2, none, .cst (.nils)⟩] [] [2]) .ret)
def c40_2 : ACode :=
  (.cond (.s 4) c40_1 .skip)
def c40_3 : ACode :=
  (.seq (.seq (.region false [⟨some 3, none, .mv (.s 0)⟩,
    ⟨some 4, none, .nw (.eqn false (.s 3))⟩] [] [0, 4]) c40_2) c40_0)
def c40 : ACode :=
  (.seq (.region false [⟨some 2, none, .cst (.nils)⟩] [] [0]) c40_3)
def r40 : List ARes := [.tmp 2]
def n40 : Nat := 8
/- 41 supergraph supergraphref02.ints -/
def c41_0 : ACode :=
  (.seq (.region false [⟨some 4, none, .cst (.t (.int .i64 0))⟩] [] [4]) .ret)
def c41_1 : ACode :=
  (.seq (.region false [⟨some 4, none, .cst (.t (.int .i64 1))⟩] [] [4]) .ret)
def c41_2 : ACode :=
  (.cond (.s 10) c41_1 .skip)
def c41_3 : ACode :=
  (.seq (.seq (.region false [⟨some 8, none, .mv (.s 0)⟩,
    ⟨some 9, none, .mv (.s 1)⟩,
    ⟨some 10, none, .bin .gtr (.s 8) (.s 9)⟩] [] [10]) c41_2) c41_0)
def c41_4 : ACode :=
  (.seq (.region false [⟨some 4, none, .cst (.t (.int .i64 (-1)))⟩] [] [4]) .ret)
def c41_5 : ACode :=
  (.cond (.s 7) c41_4 .skip)
def c41_6 : ACode :=
  (.seq (.seq (.region false [⟨some 5, none, .mv (.s 0)⟩,
    ⟨some 6, none, .mv (.s 1)⟩,
    ⟨some 7, none, .bin .lss (.s 5) (.s 6)⟩] [] [0, 1, 7]) c41_5) c41_3)
def c41 : ACode :=
  (.seq (.region false [⟨some 4, none, .cst (.t (.int .i64 0))⟩] [] [0, 1]) c41_6)
def r41 : List ARes := [.tmp 4]
def n41 : Nat := 11
/- 42 supergraph supergraphref02.strings -/
def c42_0 : ACode :=
  (.seq (.region false [⟨some 4, none, .cst (.t (.int .i64 0))⟩] [] [4]) .ret)
def c42_1 : ACode :=
  (.seq (.region false [⟨some 4, none, .cst (.t (.int .i64 1))⟩] [] [4]) .ret)
def c42_2 : ACode :=
  (.cond (.s 10) c42_1 .skip)
def c42_3 : ACode :=
  (.seq (.seq (.region false [⟨some 8, none, .mv (.s 0)⟩,
    ⟨some 9, none, .mv (.s 1)⟩,
    ⟨some 10, none, .bin .gtr (.s 8) (.s 9)⟩] [] [10]) c42_2) c42_0)
def c42_4 : ACode :=
  (.seq (.region false [⟨some 4, none, .cst (.t (.int .i64 (-1)))⟩] [] [4]) .ret)
def c42_5 : ACode :=
  (.cond (.s 7) c42_4 .skip)
def c42_6 : ACode :=
  (.seq (.seq (.region false [⟨some 5, none, .mv (.s 0)⟩,
    ⟨some 6, none, .mv (.s 1)⟩,
    ⟨some 7, none, .bin .lss (.s 5) (.s 6)⟩] [] [0, 1, 7]) c42_5) c42_3)
def c42 : ACode :=
  (.seq (.region false [⟨some 4, none, .cst (.t (.int .i64 0))⟩] [] [0, 1]) c42_6)
def r42 : List ARes := [.tmp 4]
def n42 : Nat := 11
/- 43 supergraph supergraphref02.key -/
def c43_0 : ACode :=
  (.seq (.region false [⟨some 4, none, .cst (.t (.str []))⟩] [] [4]) .ret)
def c43_1 : ACode :=
  (.seq (.region false [⟨some 10, none, .fa 4 (.s 2)⟩,
    ⟨some 11, none, .ld false 1 (.s 10)⟩,
    ⟨some 12, none, .mv (.s 1)⟩,
    ⟨some 13, none, .ia 1 (.s 11) (.s 12)⟩,
    ⟨some 14, none, .ld false 1 (.s 13)⟩,
    ⟨some 4, none, .mv (.s 14)⟩] [] [4]) .ret)
def c43_2 : ACode :=
  (.cond (.s 9) c43_1 .skip)
def c43_3 : ACode :=
  (.seq (.seq (.region false [⟨some 5, none, .mv (.s 1)⟩,
    ⟨some 6, none, .fa 4 (.s 2)⟩,
    ⟨some 7, none, .ld false 1 (.s 6)⟩,
    ⟨some 8, none, .len (.s 7)⟩,
    ⟨some 9, none, .bin .lss (.s 5) (.s 8)⟩] [] [1, 2, 9]) c43_2) c43_0)
def c43 : ACode :=
  (.seq (.region false [⟨some 2, none, .box 5 (.s 0)⟩,
    ⟨some 4, none, .cst (.t (.str []))⟩] [] [1, 2]) c43_3)
def r43 : List ARes := [.tmp 4]
def n43 : Nat := 15
/- 44 cmp.Compare[int] -/
def c44_0 : ACode :=
  (.seq (.region false [⟨some 4, none, .cst (.t (.int .i64 0))⟩] [] [4]) .ret)
def c44_1 : ACode :=
  (.seq (.region false [⟨some 4, none, .cst (.t (.int .i64 1))⟩] [] [4]) .ret)
def c44_2 : ACode :=
  (.cond (.s 19) c44_1 .skip)
def c44_3 : ACode :=
  (.seq (.seq (.region false [⟨some 17, none, .mv (.s 0)⟩,
    ⟨some 18, none, .mv (.s 1)⟩,
    ⟨some 19, none, .bin .gtr (.s 17) (.s 18)⟩] [] [19]) c44_2) c44_0)
def c44_4 : ACode :=
  (.seq (.region false [⟨some 4, none, .cst (.t (.int .i64 (-1)))⟩] [] [4]) .ret)
def c44_5 : ACode :=
  (.cond (.s 16) c44_4 .skip)
def c44_6 : ACode :=
  (.seq (.seq (.region false [⟨some 14, none, .mv (.s 0)⟩,
    ⟨some 15, none, .mv (.s 1)⟩,
    ⟨some 16, none, .bin .lss (.s 14) (.s 15)⟩] [] [0, 1, 16]) c44_5) c44_3)
def c44_7 : ACode :=
  (.seq (.region false [⟨some 4, none, .cst (.t (.int .i64 1))⟩] [] [4]) .ret)
def c44_8 : ACode :=
  (.cond (.s 13) c44_7 .skip)
def c44_9 : ACode :=
  (.seq (.seq (.region false [⟨some 13, none, .mv (.s 6)⟩] [] [0, 1, 13]) c44_8) c44_6)
def c44_10 : ACode :=
  (.seq (.region false [⟨some 4, none, .cst (.t (.int .i64 (-1)))⟩] [] [4]) .ret)
def c44_11 : ACode :=
  (.seq (.region false [⟨some 4, none, .cst (.t (.int .i64 0))⟩] [] [4]) .ret)
def c44_12 : ACode :=
  (.cond (.s 12) c44_11 .skip)
def c44_13 : ACode :=
  (.seq (.seq (.region false [⟨some 12, none, .mv (.s 6)⟩] [] [12]) c44_12) c44_10)
def c44_14 : ACode :=
  (.cond (.s 11) c44_13 .skip)
def c44_15 : ACode :=
  (.seq (.seq (.region false [⟨some 11, none, .mv (.s 5)⟩] [] [0, 1, 6, 11]) c44_14) c44_9)
def c44_16 : ACode :=
  (.seq (.region false [⟨some 9, none, .mv (.s 1)⟩,
    ⟨some 10, none, .call 47 [(.s 9)]⟩,
    ⟨some 6, none, .mv (.s 10)⟩] [] [0, 1, 5, 6]) c44_15)
def c44_17 : ACode :=
  (.seq (.region false [⟨some 7, none, .mv (.s 0)⟩,
    ⟨some 8, none, .call 47 [(.s 7)]⟩,
    ⟨some 5, none, .mv (.s 8)⟩] [] [0, 1, 5]) c44_16)
def c44 : ACode :=
  (.seq (.region false [⟨some 4, none, .cst (.t (.int .i64 0))⟩] [] [0, 1]) c44_17)
def r44 : List ARes := [.tmp 4]
def n44 : Nat := 20
/- 45 strings.Compare -/
def c45_0 : ACode :=
  (.seq (.region false [⟨some 5, none, .mv (.s 0)⟩,
    ⟨some 6, none, .mv (.s 1)⟩,
    ⟨some 7, none, .call 48 [(.s 5), (.s 6)]⟩,
    ⟨some 4, none, .mv (.s 7)⟩] [] [4]) .ret)
def c45 : ACode :=
  (.seq (.region false [⟨some 4, none, .cst (.t (.int .i64 0))⟩] [] [0, 1]) c45_0)
def r45 : List ARes := [.tmp 4]
def n45 : Nat := 8
/- 46 supergraph value.key -/
def c46_0 : ACode :=
  (.seq (.region false [⟨some 4, none, .cst (.t (.str []))⟩] [] [4]) .ret)
def c46_1 : ACode :=
  (.seq (.region false [⟨some 10, none, .fa 4 (.s 2)⟩,
    ⟨some 11, none, .ld false 1 (.s 10)⟩,
    ⟨some 12, none, .mv (.s 1)⟩,
    ⟨some 13, none, .ia 1 (.s 11) (.s 12)⟩,
    ⟨some 14, none, .ld false 1 (.s 13)⟩,
    ⟨some 4, none, .mv (.s 14)⟩] [] [4]) .ret)
def c46_2 : ACode :=
  (.cond (.s 9) c46_1 .skip)
def c46_3 : ACode :=
  (.seq (.seq (.region false [⟨some 5, none, .mv (.s 1)⟩,
    ⟨some 6, none, .fa 4 (.s 2)⟩,
    ⟨some 7, none, .ld false 1 (.s 6)⟩,
    ⟨some 8, none, .len (.s 7)⟩,
    ⟨some 9, none, .bin .lss (.s 5) (.s 8)⟩] [] [1, 2, 9]) c46_2) c46_0)
def c46 : ACode :=
  (.seq (.region false [⟨some 2, none, .box 5 (.s 0)⟩,
    ⟨some 4, none, .cst (.t (.str []))⟩] [] [1, 2]) c46_3)
def r46 : List ARes := [.tmp 4]
def n46 : Nat := 15
/- 47 cmp.isNaN[int] -/
def c47_0 : ACode :=
  (.seq (.region false [⟨some 3, none, .mv (.s 0)⟩,
    ⟨some 4, none, .mv (.s 0)⟩,
    ⟨some 5, none, .bin .neq (.s 3) (.s 4)⟩,
    ⟨some 2, none, .mv (.s 5)⟩] [] [2]) .ret)
def c47 : ACode :=
  (.seq (.region false [⟨some 2, none, .cst (.t (.bool false))⟩] [] [0]) c47_0)
def r47 : List ARes := [.tmp 2]
def n47 : Nat := 6
/- 48 internal bytealg.CompareString -/
def c48_0 : ACode :=
  (.seq (.region false [⟨some 5, none, .mv (.s 0)⟩,
    ⟨some 6, none, .mv (.s 1)⟩,
    ⟨some 7, none, .nw (.xcm (.s 5) (.s 6))⟩,
    ⟨some 4, none, .mv (.s 7)⟩] [] [4]) .ret)
def c48 : ACode :=
  (.seq (.region false [⟨some 4, none, .cst (.t (.int .i64 0))⟩] [] [0, 1]) c48_0)
def r48 : List ARes := [.tmp 4]
def n48 : Nat := 8

end Go.GB.C35


/-
  L35A: chapter 35: values are copied, measured and compared.
-/
namespace Go.GB.C35
open Go.GB
set_option linter.unusedSimpArgs false
set_option linter.unusedVariables false
set_option maxRecDepth 100000
set_option maxHeartbeats 4000000
structure Pr (P : Program) : Prop where
  mixed : P.follows .mixedOrders = true
  i3 : fnInfo P 3 = some (n3, c3.bare, r3)
  i4 : fnInfo P 4 = some (n4, c4.bare, r4)
  i6 : fnInfo P 6 = some (n6, c6.bare, r6)
  i7 : fnInfo P 7 = some (n7, c7.bare, r7)
  i9 : fnInfo P 9 = some (n9, c9.bare, r9)
  i10 : fnInfo P 10 = some (n10, c10.bare, r10)
  i12 : fnInfo P 12 = some (n12, c12.bare, r12)
  i14 : fnInfo P 14 = some (n14, c14.bare, r14)
  i16 : fnInfo P 16 = some (n16, c16.bare, r16)
  i17 : fnInfo P 17 = some (n17, c17.bare, r17)
  i18 : fnInfo P 18 = some (n18, c18.bare, r18)
  i19 : fnInfo P 19 = some (n19, c19.bare, r19)
  i20 : fnInfo P 20 = some (n20, c20.bare, r20)
  i21 : fnInfo P 21 = some (n21, c21.bare, r21)
  i24 : fnInfo P 24 = some (n24, c24.bare, r24)
  i25 : fnInfo P 25 = some (n25, c25.bare, r25)
  i26 : fnInfo P 26 = some (n26, c26.bare, r26)
  i31 : fnInfo P 31 = some (n31, c31.bare, r31)
  i32 : fnInfo P 32 = some (n32, c32.bare, r32)
  i33 : fnInfo P 33 = some (n33, c33.bare, r33)
  i34 : fnInfo P 34 = some (n34, c34.bare, r34)
  i38 : fnInfo P 38 = some (n38, c38.bare, r38)
  i39 : fnInfo P 39 = some (n39, c39.bare, r39)
  i40 : fnInfo P 40 = some (n40, c40.bare, r40)
  i41 : fnInfo P 41 = some (n41, c41.bare, r41)
  i42 : fnInfo P 42 = some (n42, c42.bare, r42)
  i43 : fnInfo P 43 = some (n43, c43.bare, r43)
  i44 : fnInfo P 44 = some (n44, c44.bare, r44)
  i45 : fnInfo P 45 = some (n45, c45.bare, r45)
  i46 : fnInfo P 46 = some (n46, c46.bare, r46)
  i47 : fnInfo P 47 = some (n47, c47.bare, r47)
  i48 : fnInfo P 48 = some (n48, c48.bare, r48)
variable {P : Program}
theorem clone_ok (H : Pr P) (l : List Str) (hl : l.length * 16 ≤ 140737488355328) : FnOk P 40 [.t (.lst (l.map sE))] ⟨[], 0⟩ { v := .t (.lst (l.map sE)) } := by
  refine FnOk.run H.i40 H.mixed rfl rfl ?_
  refine fR rfl ?_
  refine p0 rfl ?_
  refine fM rfl ?_
  refine Run.condU rfl rfl (fun h => ?_) (fun _ => ?_)
  · have hn : l = [] := by
      cases l with
      | nil => rfl
      | cons x r =>
        have := h (sE x) (by simp)
        simp [sE] at this
    subst hn
    refine fR rfl ?_
    refine Run.fin rfl (EndOk.go ?_); exact .nil rfl
  · refine fR rfl ?_
    refine apN sE l rfl rfl rfl ?_ (h1 := hl) (h2 := by omega)
    refine fM rfl ?_
    refine Run.fin rfl (EndOk.go ?_); exact .own rfl

def CopyC (P : Program) (v : Val) : Prop := FnOk P 33 [v.v] ⟨[], 0⟩ { v := v.v }
theorem copies_step (H : Pr P) (l : List Val) (hl : l.length * 80 ≤ 140737488355328) (hrec : ∀ x, x ∈ l → CopyC P x) : FnOk P 39 [.t (.lst (l.map Val.enc))] ⟨[], 0⟩ { v := .t (.lst (l.map Val.enc)) } := by
  refine FnOk.run H.i39 H.mixed rfl rfl ?_
  refine fR rfl ?_
  refine lM rfl rfl rfl ?_
  refine fM rfl ?_
  refine rList l (fun i (B : List Val) => { env := [(3, .own 0 5 (B.map Val.enc)), (6, .t (.lst (l.map Val.enc))), (7, .t (.int .i64 l.length)), (8, .t (.int .i64 i))], s := ⟨[(0, .arr B.length)], 1⟩ }) (fun r i B => B.length = i ∧ B ++ r = l) 0 [] rfl ⟨rfl, rfl⟩ rfl rfl rfl ?_ ?_
  · rintro B ⟨hBl, hB⟩
    have e : B = l := by rw [← hB]; simp
    refine fR rfl ?_
    refine Run.condF rfl rfl (by simp) ?_
    refine fR rfl ?_
    refine Run.fin rfl (EndOk.go ?_); exact .own (by rw [e])
  · rintro i x r B h1 hi hd ⟨hBl, hB⟩ ih
    have hBl' : B.length = i := hBl
    have hc := hrec x (List.mem_of_getElem? h1)
    unfold CopyC at hc
    refine fR rfl ?_
    refine Run.condT rfl rfl (by simp; omega) ?_
    refine fR rfl ?_
    refine Mid.elemMapC (Val.enc_eq x) rfl rfl rfl h1 rfl rfl ?_
    refine fM rfl ?_
    refine Mid.call (hc) rfl rfl rfl rfl ?_
    refine fM rfl ?_
    refine apM Val.enc B [x] rfl (congrArg (fun c => some (T.lst [c])) (Val.enc_eq x).symm) rfl rfl rfl ?_ (hl := fun x => (congrArg List.length (Val.enc_eq x)).trans rfl)
    refine fM rfl ?_
    refine aL rfl rfl rfl rfl rfl ?_
    refine fM rfl ?_
    exact rWeak 1 rfl (ih (B ++ [x]) ⟨by simp; omega, by rw [← hB]; simp⟩) rfl rfl rfl
theorem copy_step (H : Pr P) (v : Val) (hv : v.Ok) (hrec : ∀ x, x ∈ v.items → CopyC P x) : CopyC P v := by
  have hil := hv.il
  have hkl := hv.kl
  unfold CopyC
  refine FnOk.run H.i33 H.mixed rfl rfl ?_
  refine fR rfl ?_
  refine Mid.call (copies_step H v.items hil hrec) rfl rfl rfl rfl ?_
  refine fM rfl ?_
  refine Mid.call (clone_ok H v.keys hkl) rfl rfl rfl rfl ?_
  refine fM rfl ?_
  refine Run.fin rfl (EndOk.go ?_); exact .le (.same rfl)
theorem copy_ok' (H : Pr P) : ∀ (k : Nat) (v : Val), SizeOf.sizeOf v ≤ k → v.Ok → CopyC P v
  | 0, v, h, _ => by cases v; simp at h
  | k + 1, v, h, hv => copy_step H v hv fun x hx => copy_ok' H k x (by have := Val.size_items v hx; omega) (hv.it x hx)
theorem copy_ok (H : Pr P) (v : Val) (hv : v.Ok) : FnOk P 33 [v.v] ⟨[], 0⟩ { v := v.v } := copy_ok' H _ v (Nat.le_refl _) hv

theorem zeroR {m : Nat} {s : S} : LeR m s (.agg [.t (.int .i64 0), .t (.int .i64 0), .t (.str []), .nils, .nils]) Val.zero.v := .agg (.cons (.t rfl) (.cons (.t rfl) (.cons (.t rfl) (.cons (.nil rfl) (.cons (.nil rfl) .nil)))))
mutual
def szV : Val → Int
  | .mk _ _ _ its _ => szL 1 its
def szL : Int → List Val → Int
  | n, [] => n
  | n, x :: r => szL (IntKind.i64.wrap (n + szV x)) r
end
theorem szV_eq (v : Val) : szV v = szL 1 v.items := by cases v; rfl
def SizeC (P : Program) (v : Val) : Prop := FnOk P 9 [v.v] ⟨[], 0⟩ { v := .t (.int .i64 (szV v)) }
theorem size_step (H : Pr P) (v : Val) (hv : v.Ok) (hrec : ∀ x, x ∈ v.items → SizeC P x) : SizeC P v := by
  have hil := hv.il
  unfold SizeC
  rw [szV_eq]
  refine FnOk.run H.i9 H.mixed rfl rfl ?_
  refine fR rfl ?_
  refine rList v.items (fun i (n : Int) => { env := [(1, .ptr 0 0), (3, .t (.int .i64 n)), (4, .t (.int .i64 i))], s := ⟨[(0, (.cells [.t (.int .i64 v.kind), .t (.int .i64 v.int), .t (.str v.text), .t (.lst (v.items.map Val.enc)), .t (.lst (v.keys.map sE))]))], 1⟩ }) (fun r i n => szL 1 v.items = szL n r) 1 (1 : Int) rfl rfl rfl rfl rfl ?_ ?_
  · rintro n hinv
    rw [hinv]
    refine fR rfl ?_
    refine lM rfl rfl rfl ?_
    refine fM rfl ?_
    refine Run.condF rfl rfl (by simp) ?_
    refine fR rfl ?_
    refine Run.fin rfl (EndOk.go ?_); exact .t rfl
  · rintro i x r n h1 hi hd hinv ih
    have hc := hrec x (List.mem_of_getElem? h1)
    unfold SizeC at hc
    refine fR rfl ?_
    refine lM rfl rfl rfl ?_
    refine fM rfl ?_
    refine Run.condT rfl rfl (by simp; omega) ?_
    refine fR rfl ?_
    refine Mid.elemMapC (Val.enc_eq x) rfl rfl rfl h1 rfl rfl ?_
    refine fM rfl ?_
    refine Mid.call (hc) rfl rfl rfl rfl ?_
    refine p0 rfl ?_
    refine fM rfl ?_
    refine aL rfl rfl rfl rfl rfl ?_
    refine fM rfl ?_
    exact rWeak 1 rfl (ih (IntKind.i64.wrap (n + szV x)) (by rw [hinv]; simp only [szL])) rfl rfl rfl
theorem size_ok' (H : Pr P) : ∀ (k : Nat) (v : Val), SizeOf.sizeOf v ≤ k → v.Ok → SizeC P v
  | 0, v, h, _ => by cases v; simp at h
  | k + 1, v, h, hv => size_step H v hv fun x hx => size_ok' H k x (by have := Val.size_items v hx; omega) (hv.it x hx)
theorem size_ok (H : Pr P) (v : Val) (hv : v.Ok) : FnOk P 9 [v.v] ⟨[], 0⟩ { v := .t (.int .i64 (szV v)) } := size_ok' H _ v (Nat.le_refl _) hv
end Go.GB.C35


/-
  L35B: chapter 35: the order of values, as the reference and as the program compare them.
-/
namespace Go.GB.C35
open Go.GB
set_option linter.unusedSimpArgs false
set_option linter.unusedVariables false
set_option maxRecDepth 100000
set_option maxHeartbeats 4000000
variable {P : Program}
def cmpI (a b : Int) : Int := if a < b then -1 else if a > b then 1 else 0
def cmpS (a b : Str) : Int := if Op.bytesLess a b = true then -1 else if a = b then 0 else 1
theorem cmpI_zero {a b : Int} : cmpI a b = 0 ↔ a = b := by
  unfold cmpI
  split
  · constructor
    · intro h; omega
    · intro h; omega
  · split
    · constructor
      · intro h; omega
      · intro h; omega
    · constructor
      · intro _; omega
      · intro _; rfl
theorem less_irrefl : ∀ s : List UInt8, Op.bytesLess s s = false
  | [] => rfl
  | a :: r => by simp [Op.bytesLess, less_irrefl r]
theorem cmpS_zero {a b : Str} : cmpS a b = 0 ↔ a = b := by
  unfold cmpS
  constructor
  · intro h
    split at h
    · omega
    · split at h
      · assumption
      · omega
  · rintro rfl
    simp [less_irrefl]
theorem nz {p q : Int} : (if p ≠ 0 then p else q) = 0 ↔ p = 0 ∧ q = 0 := by
  by_cases h : p = 0
  · simp [h]
  · simp [h]
theorem cmpB_zero : ∀ {a b : Str}, Go.Lib.compareBytes a b = 0 ↔ a = b
  | [], [] => by simp [Go.Lib.compareBytes]
  | [], y :: s => by simp [Go.Lib.compareBytes]
  | x :: r, [] => by simp [Go.Lib.compareBytes]
  | x :: r, y :: s => by
    unfold Go.Lib.compareBytes
    by_cases h3 : x < y
    · simp only [h3, if_true]
      constructor
      · intro h; omega
      · intro h; cases h; exact absurd h3 (UInt8.lt_irrefl _)
    · by_cases h4 : y < x
      · simp only [h3, h4, if_true, if_false]
        constructor
        · intro h; omega
        · intro h; cases h; exact absurd h4 (UInt8.lt_irrefl _)
      · have e : x = y := UInt8.le_antisymm (UInt8.not_lt.1 h4) (UInt8.not_lt.1 h3)
        subst e
        simp only [h3, if_false, cmpB_zero (a := r) (b := s), List.cons.injEq, true_and]
def keyA (l : List Str) (i : Nat) : Str := (l[i]?).getD []
mutual
def cmpV (c : Str → Str → Int) : Val → Val → Int
  | .mk k i t its ks, b => if cmpI k b.kind ≠ 0 then cmpI k b.kind else if cmpI i b.int ≠ 0 then cmpI i b.int else if c t b.text ≠ 0 then c t b.text else cmpVs c its b.items ks b.keys 0 (cmpI its.length b.items.length)
def cmpVs (c : Str → Str → Int) : List Val → List Val → List Str → List Str → Nat → Int → Int
  | [], _, _, _, _, z => z
  | x :: r, l, ka, kb, j, z =>
    match l with
    | [] => z
    | y :: s => if c (keyA ka j) (keyA kb j) ≠ 0 then c (keyA ka j) (keyA kb j) else if cmpV c x y ≠ 0 then cmpV c x y else cmpVs c r s ka kb (j + 1) z
end
theorem cmpV_eq (c : Str → Str → Int) (a b : Val) : cmpV c a b = if cmpI a.kind b.kind ≠ 0 then cmpI a.kind b.kind else if cmpI a.int b.int ≠ 0 then cmpI a.int b.int else if c a.text b.text ≠ 0 then c a.text b.text else cmpVs c a.items b.items a.keys b.keys 0 (cmpI a.items.length b.items.length) := by
  cases a; rfl
/-- the same value, as far as comparing goes -/
def sameS (a b : Str) : Int := if a = b then 0 else 1
theorem sameS_zero {a b : Str} : sameS a b = 0 ↔ a = b := by unfold sameS; split <;> simp_all
def sameV (a b : Val) : Bool := decide (cmpV sameS a b = 0)
theorem cmp_any {c d : Str → Str → Int} (hc : ∀ {a b}, c a b = 0 ↔ a = b) (hd : ∀ {a b}, d a b = 0 ↔ a = b) : ∀ k : Nat, (∀ a b : Val, SizeOf.sizeOf a ≤ k → (cmpV c a b = 0 ↔ cmpV d a b = 0)) ∧
    ∀ (l m : List Val) (ka kb : List Str) (j : Nat) (z : Int), SizeOf.sizeOf l ≤ k → (cmpVs c l m ka kb j z = 0 ↔ cmpVs d l m ka kb j z = 0)
  | 0 => ⟨fun a b h => by cases a; simp at h, fun l m ka kb j z h => by cases l <;> simp at h⟩
  | k + 1 => by
    have ih := cmp_any (c := c) (d := d) hc hd k
    have hcd : ∀ a b, c a b = 0 ↔ d a b = 0 := fun a b => hc.trans hd.symm
    refine ⟨fun a b h => ?_, fun l m ka kb j z h => ?_⟩
    · have h2 := ih.2 a.items b.items a.keys b.keys 0 (cmpI a.items.length b.items.length) (by cases a; simp only [Val.items]; simp only [Val.mk.sizeOf_spec] at h; omega)
      rw [cmpV_eq, cmpV_eq]
      simp only [nz, h2, hcd]
    · cases l with
      | nil => simp [cmpVs]
      | cons x r =>
        cases m with
        | nil => simp [cmpVs]
        | cons y s =>
          have h1 := ih.1 x y (by simp only [List.cons.sizeOf_spec] at h; omega)
          have h2 := ih.2 r s ka kb (j + 1) z (by simp only [List.cons.sizeOf_spec] at h; omega)
          simp only [cmpVs, nz, h1, h2, hcd]
theorem sameV_of {c : Str → Str → Int} (hc : ∀ {a b}, c a b = 0 ↔ a = b) (a b : Val) : (cmpV c a b == 0) = sameV a b := by
  have := (cmp_any (c := c) (d := sameS) hc sameS_zero _).1 a b (Nat.le_refl _)
  rw [Bool.eq_iff_iff]
  simp [sameV, this]
/- the walks -/
theorem ints_ok (H : Pr P) (a b : Int) : FnOk P 41 [.t (.int .i64 a), .t (.int .i64 b)] ⟨[], 0⟩ { v := .t (.int .i64 (cmpI a b)) } := by
  refine FnOk.run H.i41 H.mixed rfl rfl ?_
  refine fR rfl ?_
  by_cases h1 : a < b
  · refine Run.condT rfl rfl (by simp [h1]) ?_
    refine fR rfl ?_
    refine Run.fin rfl (EndOk.go ?_); exact .t (by simp [cmpI, h1])
  · refine Run.condF rfl rfl (by simp; omega) ?_
    refine fR rfl ?_
    by_cases h2 : b < a
    · refine Run.condT rfl rfl (by simp [h2]) ?_
      refine fR rfl ?_
      refine Run.fin rfl (EndOk.go ?_); exact .t (by simp [cmpI, h1, h2])
    · refine Run.condF rfl rfl (by simp; omega) ?_
      refine fR rfl ?_
      refine Run.fin rfl (EndOk.go ?_); exact .t (by simp [cmpI, h1, h2])
theorem strings_ok (H : Pr P) (a b : Str) : FnOk P 42 [.t (.str a), .t (.str b)] ⟨[], 0⟩ { v := .t (.int .i64 (cmpS a b)) } := by
  refine FnOk.run H.i42 H.mixed rfl rfl ?_
  refine fR rfl ?_
  by_cases h1 : Op.bytesLess a b = true
  · refine Run.condT rfl rfl h1 ?_
    refine fR rfl ?_
    refine Run.fin rfl (EndOk.go ?_); exact .t (by simp [cmpS, h1])
  · refine Run.condF rfl rfl (by simpa using h1) ?_
    refine fR rfl ?_
    by_cases h2 : a = b
    · refine Run.condF rfl rfl (by simp [h1, h2]) ?_
      refine fR rfl ?_
      refine Run.fin rfl (EndOk.go ?_); exact .t (by simp [cmpS, h2, less_irrefl])
    · refine Run.condT rfl rfl (by simp [h1, h2]) ?_
      refine fR rfl ?_
      refine Run.fin rfl (EndOk.go ?_); exact .t (by simp [cmpS, h1, h2])
theorem key_ok (H : Pr P) (v : Val) (hv : v.Ok) (i : Nat) (hi : i ≤ 140737488355328) : FnOk P 43 [v.v, .t (.int .i64 i)] ⟨[], 0⟩ { v := .t (.str (keyA v.keys i)) } := by
  have hkl := hv.kl
  refine FnOk.run H.i43 H.mixed rfl rfl ?_
  refine fR rfl ?_
  refine lM rfl rfl rfl ?_
  refine fM rfl ?_
  refine Run.cond rfl rfl (fun h => ?_) (fun h => ?_)
  · have h' : i < v.keys.length := by simpa using h
    have h1 : v.keys[i]? = some (v.keys[i]'h') := by simp
    have hk : keyA v.keys i = v.keys[i]'h' := by simp [keyA, h1]
    generalize v.keys[i]'h' = x at h1 hk
    refine fR rfl ?_
    refine Mid.elemMap rfl rfl rfl h1 rfl rfl ?_
    refine fM rfl ?_
    refine Run.fin rfl (EndOk.go ?_); exact .t (by simp [hk])
  · have h' : ¬ i < v.keys.length := by simpa using h
    have hk : keyA v.keys i = [] := by simp [keyA, List.getElem?_eq_none (Nat.le_of_not_lt h')]
    refine fR rfl ?_
    refine Run.fin rfl (EndOk.go ?_); exact .t (by simp [hk])
theorem pkey_ok (H : Pr P) (v : Val) (hv : v.Ok) (i : Nat) (hi : i ≤ 140737488355328) : FnOk P 46 [v.v, .t (.int .i64 i)] ⟨[], 0⟩ { v := .t (.str (keyA v.keys i)) } := by
  have hkl := hv.kl
  refine FnOk.run H.i46 H.mixed rfl rfl ?_
  refine fR rfl ?_
  refine lM rfl rfl rfl ?_
  refine fM rfl ?_
  refine Run.cond rfl rfl (fun h => ?_) (fun h => ?_)
  · have h' : i < v.keys.length := by simpa using h
    have h1 : v.keys[i]? = some (v.keys[i]'h') := by simp
    have hk : keyA v.keys i = v.keys[i]'h' := by simp [keyA, h1]
    generalize v.keys[i]'h' = x at h1 hk
    refine fR rfl ?_
    refine Mid.elemMap rfl rfl rfl h1 rfl rfl ?_
    refine fM rfl ?_
    refine Run.fin rfl (EndOk.go ?_); exact .t (by simp [hk])
  · have h' : ¬ i < v.keys.length := by simpa using h
    have hk : keyA v.keys i = [] := by simp [keyA, List.getElem?_eq_none (Nat.le_of_not_lt h')]
    refine fR rfl ?_
    refine Run.fin rfl (EndOk.go ?_); exact .t (by simp [hk])
theorem nan_ok (H : Pr P) (a : Int) : FnOk P 47 [.t (.int .i64 a)] ⟨[], 0⟩ { v := .t (.bool false) } := by
  refine FnOk.run H.i47 H.mixed rfl rfl ?_
  refine fR rfl ?_
  refine Run.fin rfl (EndOk.go ?_); exact .t (by simp)
theorem compare_ok (H : Pr P) (a b : Int) : FnOk P 44 [.t (.int .i64 a), .t (.int .i64 b)] ⟨[], 0⟩ { v := .t (.int .i64 (cmpI a b)) } := by
  refine FnOk.run H.i44 H.mixed rfl rfl ?_
  refine fR rfl ?_
  refine Mid.call (nan_ok H a) rfl rfl rfl rfl ?_
  refine fM rfl ?_
  refine Mid.call (nan_ok H b) rfl rfl rfl rfl ?_
  refine fM rfl ?_
  refine Run.condF rfl rfl rfl ?_
  refine fR rfl ?_
  refine Run.condF rfl rfl rfl ?_
  refine fR rfl ?_
  by_cases h1 : a < b
  · refine Run.condT rfl rfl (by simp [h1]) ?_
    refine fR rfl ?_
    refine Run.fin rfl (EndOk.go ?_); exact .t (by simp [cmpI, h1])
  · refine Run.condF rfl rfl (by simp; omega) ?_
    refine fR rfl ?_
    by_cases h2 : b < a
    · refine Run.condT rfl rfl (by simp [h2]) ?_
      refine fR rfl ?_
      refine Run.fin rfl (EndOk.go ?_); exact .t (by simp [cmpI, h1, h2])
    · refine Run.condF rfl rfl (by simp; omega) ?_
      refine fR rfl ?_
      refine Run.fin rfl (EndOk.go ?_); exact .t (by simp [cmpI, h1, h2])
theorem bcompare_ok (H : Pr P) (a b : Str) : FnOk P 48 [.t (.str a), .t (.str b)] ⟨[], 0⟩ { v := .t (.int .i64 (Go.Lib.compareBytes a b)) } := by
  refine FnOk.run H.i48 H.mixed rfl rfl ?_
  refine fR rfl ?_
  refine p0 rfl ?_
  refine fM rfl ?_
  refine Run.fin rfl (EndOk.go ?_); exact .t rfl
theorem scompare_ok (H : Pr P) (a b : Str) : FnOk P 45 [.t (.str a), .t (.str b)] ⟨[], 0⟩ { v := .t (.int .i64 (Go.Lib.compareBytes a b)) } := by
  refine FnOk.run H.i45 H.mixed rfl rfl ?_
  refine fR rfl ?_
  refine Mid.call (bcompare_ok H a b) rfl rfl rfl rfl ?_
  refine fM rfl ?_
  refine Run.fin rfl (EndOk.go ?_); exact .t rfl
end Go.GB.C35


/-
  L35C: chapter 35: comparing values.
-/
namespace Go.GB.C35
open Go.GB
set_option linter.unusedSimpArgs false
set_option linter.unusedVariables false
set_option maxRecDepth 100000
set_option maxHeartbeats 8000000
variable {P : Program}
theorem drop_at {α : Type} {l : List α} {i : Nat} {x : α} (h : l[i]? = some x) : l.drop i = x :: l.drop (i + 1) := by
  obtain ⟨h1, rfl⟩ := List.getElem?_eq_some_iff.1 h
  exact List.drop_eq_getElem_cons h1
theorem cmpVs_end {c : Str → Str → Int} {l m : List Val} {ka kb : List Str} {j : Nat} {z : Int} (h : l = [] ∨ m = []) : cmpVs c l m ka kb j z = z := by
  rcases h with rfl | rfl
  · simp [cmpVs]
  · cases l <;> simp [cmpVs]
theorem zip_end {l m : List Val} {i : Nat} (h : i = (l.zip m).length) : l.drop i = [] ∨ m.drop i = [] := by
  simp only [List.length_zip] at h
  by_cases h2 : l.length ≤ m.length
  · exact .inl (List.drop_eq_nil_of_le (by omega))
  · exact .inr (List.drop_eq_nil_of_le (by omega))
theorem cmpVs_at {c : Str → Str → Int} {l m : List Val} {ka kb : List Str} {i : Nat} {z : Int} {x y : Val} (h1 : l[i]? = some x) (h2 : m[i]? = some y) : cmpVs c (l.drop i) (m.drop i) ka kb i z = if c (keyA ka i) (keyA kb i) ≠ 0 then c (keyA ka i) (keyA kb i) else if cmpV c x y ≠ 0 then cmpV c x y else cmpVs c (l.drop (i + 1)) (m.drop (i + 1)) ka kb (i + 1) z := by
  rw [drop_at h1, drop_at h2]; simp only [cmpVs]
def RCmpC (P : Program) (a : Val) : Prop := ∀ b : Val, b.Ok → FnOk P 34 [a.v, b.v] ⟨[], 0⟩ { v := .t (.int .i64 (cmpV cmpS a b)) }
theorem rcmp_step (H : Pr P) (a : Val) (ha : a.Ok) (hrec : ∀ x, x ∈ a.items → RCmpC P x) : RCmpC P a := by
  intro b hb
  have hil := ha.il
  have hil2 := hb.il
  have hk := ints_ok H a.kind b.kind
  have hi := ints_ok H a.int b.int
  have ht := strings_ok H a.text b.text
  have hz := ints_ok H (a.items.length : Nat) (b.items.length : Nat)
  have hR := cmpV_eq cmpS a b
  generalize cmpV cmpS a b = R at hR ⊢
  refine FnOk.run H.i34 H.mixed rfl rfl ?_
  refine fR rfl ?_
  by_cases h1 : cmpI a.kind b.kind = 0
  · rw [h1] at hk hR
    rw [if_neg (by simp)] at hR
    refine Mid.call (hk) rfl rfl rfl rfl ?_
    refine fM rfl ?_
    refine Run.condT rfl rfl rfl ?_
    refine fR rfl ?_
    by_cases h2 : cmpI a.int b.int = 0
    · rw [h2] at hi hR
      rw [if_neg (by simp)] at hR
      refine Mid.call (hi) rfl rfl rfl rfl ?_
      refine fM rfl ?_
      refine Run.condT rfl rfl rfl ?_
      refine fR rfl ?_
      by_cases h3 : cmpS a.text b.text = 0
      · rw [h3] at ht hR
        rw [if_neg (by simp)] at hR
        generalize cmpI (a.items.length : Nat) (b.items.length : Nat) = z at hz hR
        refine Mid.call (ht) rfl rfl rfl rfl ?_
        refine fM rfl ?_
        refine rList (a.items.zip b.items) (fun i (_ : Unit) => { env := [(2, .ptr 0 0), (3, .ptr 1 0), (5, .t (.int .i64 0)), (6, .t (.int .i64 i))], s := ⟨[(0, .cells [.t (.int .i64 a.kind), .t (.int .i64 a.int), .t (.str a.text), .t (.lst (a.items.map Val.enc)), .t (.lst (a.keys.map sE))]), (1, .cells [.t (.int .i64 b.kind), .t (.int .i64 b.int), .t (.str b.text), .t (.lst (b.items.map Val.enc)), .t (.lst (b.keys.map sE))])], 2⟩ }) (fun r i _ => R = cmpVs cmpS (a.items.drop i) (b.items.drop i) a.keys b.keys i z) 2 () rfl hR rfl rfl rfl ?_ ?_
        · intro _ hinv
          rw [cmpVs_end (zip_end rfl)] at hinv
          subst hinv
          refine fR rfl ?_
          refine Run.condT rfl rfl (by simp) ?_
          refine fR rfl ?_
          refine lM rfl rfl rfl ?_
          refine fM rfl ?_
          refine lMG rfl rfl rfl rfl ?_
          refine fM rfl ?_
          refine Run.condT rfl rfl (by simp [List.length_zip]; omega) ?_
          refine fR rfl ?_
          refine lM rfl rfl rfl ?_
          refine fM rfl ?_
          refine lM rfl rfl rfl ?_
          refine Mid.call (hz) rfl rfl rfl rfl ?_
          refine fM rfl ?_
          refine Run.fin rfl (EndOk.go ?_); exact .t rfl
        · intro i p r _ g1 gi gd hinv ih
          obtain ⟨e1, e2⟩ := List.getElem?_zip_eq_some.1 g1
          obtain ⟨x, y⟩ := p
          simp only at e1 e2
          have b1 := (List.getElem?_eq_some_iff.1 e1).1
          have b2 := (List.getElem?_eq_some_iff.1 e2).1
          rw [cmpVs_at e1 e2] at hinv
          have hc := hrec x (List.mem_of_getElem? e1) y (hb.it y (List.mem_of_getElem? e2))
          have hs := strings_ok H (keyA a.keys i) (keyA b.keys i)
          refine fR rfl ?_
          refine Run.condT rfl rfl (by simp) ?_
          refine fR rfl ?_
          refine lM rfl rfl rfl ?_
          refine fM rfl ?_
          refine lMG rfl rfl rfl rfl ?_
          refine fM rfl ?_
          refine Run.condF rfl rfl (by simp; omega) ?_
          refine fR rfl ?_
          refine Mid.call (key_ok H a ha i (by omega)) rfl rfl rfl rfl ?_
          refine fM rfl ?_
          refine Mid.call (key_ok H b hb i (by omega)) rfl rfl rfl rfl ?_
          skip
          by_cases h4 : cmpS (keyA a.keys i) (keyA b.keys i) = 0
          · rw [h4] at hs hinv
            rw [if_neg (by simp)] at hinv
            refine Mid.call (hs) rfl rfl rfl rfl ?_
            refine fM rfl ?_
            refine Run.condT rfl rfl rfl ?_
            refine fR rfl ?_
            refine Mid.elemMapC (Val.enc_eq x) rfl rfl rfl e1 rfl rfl ?_
            refine fM rfl ?_
            refine Mid.elemMapC (Val.enc_eq y) rfl rfl rfl e2 rfl rfl ?_
            refine fM rfl ?_
            by_cases h5 : cmpV cmpS x y = 0
            · rw [h5] at hc hinv
              rw [if_neg (by simp)] at hinv
              refine Mid.call (hc) rfl rfl rfl rfl ?_
              refine fM rfl ?_
              refine aL rfl rfl rfl rfl rfl ?_
              refine fM rfl ?_
              exact rWeak 2 rfl (ih () hinv) rfl rfl rfl
            · rw [if_pos h5] at hinv
              refine Mid.call (hc) rfl rfl rfl rfl ?_
              refine fM rfl ?_
              refine aL rfl rfl rfl rfl rfl ?_
              refine fM rfl ?_
              skip
              refine Run.adv 200 rfl (Run.unroll ?_)
              refine fR rfl ?_
              refine Run.condF rfl rfl (by simpa using h5) ?_
              refine fR rfl ?_
              refine Run.fin rfl (EndOk.go ?_); exact .t (by rw [hinv])
          · rw [if_pos h4] at hinv
            refine Mid.call (hs) rfl rfl rfl rfl ?_
            refine fM rfl ?_
            refine Run.condF rfl rfl (by simpa using h4) ?_
            refine fR rfl ?_
            refine aL rfl rfl rfl rfl rfl ?_
            refine fM rfl ?_
            refine Run.adv 200 rfl (Run.unroll ?_)
            refine fR rfl ?_
            refine Run.condF rfl rfl (by simpa using h4) ?_
            refine fR rfl ?_
            refine Run.fin rfl (EndOk.go ?_); exact .t (by rw [hinv])
      · rw [if_pos h3] at hR
        refine Mid.call (ht) rfl rfl rfl rfl ?_
        refine fM rfl ?_
        skip
        refine Run.loop rfl ?_
        refine Run.unroll ?_
        refine fR rfl ?_
        refine Run.condF rfl rfl (by simpa using h3) ?_
        refine fR rfl ?_
        refine Run.fin rfl (EndOk.go ?_); exact .t (by rw [hR])
    · rw [if_pos h2] at hR
      refine Mid.call (hi) rfl rfl rfl rfl ?_
      refine fM rfl ?_
      refine Run.condF rfl rfl (by simpa using h2) ?_
      refine fR rfl ?_
      refine Run.loop rfl ?_
      refine Run.unroll ?_
      refine fR rfl ?_
      refine Run.condF rfl rfl (by simpa using h2) ?_
      refine fR rfl ?_
      refine Run.fin rfl (EndOk.go ?_); exact .t (by rw [hR])
  · rw [if_pos h1] at hR
    refine Mid.call (hk) rfl rfl rfl rfl ?_
    refine fM rfl ?_
    refine Run.condF rfl rfl (by simpa using h1) ?_
    refine fR rfl ?_
    refine Run.condF rfl rfl (by simpa using h1) ?_
    refine fR rfl ?_
    refine Run.loop rfl ?_
    refine Run.unroll ?_
    refine fR rfl ?_
    refine Run.condF rfl rfl (by simpa using h1) ?_
    refine fR rfl ?_
    refine Run.fin rfl (EndOk.go ?_); exact .t (by rw [hR])
theorem rcmp_ok' (H : Pr P) : ∀ (k : Nat) (v : Val), SizeOf.sizeOf v ≤ k → v.Ok → RCmpC P v
  | 0, v, h, _ => by cases v; simp at h
  | k + 1, v, h, hv => rcmp_step H v hv fun x hx => rcmp_ok' H k x (by have := Val.size_items v hx; omega) (hv.it x hx)
theorem rsame_ok (H : Pr P) (a b : Val) (ha : a.Ok) (hb : b.Ok) : FnOk P 20 [a.v, b.v] ⟨[], 0⟩ { v := .t (.bool (sameV a b)) } := by
  have h := rcmp_ok' H _ a (Nat.le_refl _) ha b hb
  have e := sameV_of (fun {a b} => cmpS_zero (a := a) (b := b)) a b
  refine FnOk.run H.i20 H.mixed rfl rfl ?_
  refine fR rfl ?_
  refine Mid.call (h) rfl rfl rfl rfl ?_
  refine fM rfl ?_
  refine Run.fin rfl (EndOk.go ?_); exact .t (by rw [← e])
def PCmpC (P : Program) (a : Val) : Prop := ∀ b : Val, b.Ok → FnOk P 38 [a.v, b.v] ⟨[], 0⟩ { v := .t (.int .i64 (cmpV Go.Lib.compareBytes a b)) }
theorem pcmp_step (H : Pr P) (a : Val) (ha : a.Ok) (hrec : ∀ x, x ∈ a.items → PCmpC P x) : PCmpC P a := by
  intro b hb
  have hil := ha.il
  have hil2 := hb.il
  have hk := compare_ok H a.kind b.kind
  have hi := compare_ok H a.int b.int
  have ht := scompare_ok H a.text b.text
  have hz := compare_ok H (a.items.length : Nat) (b.items.length : Nat)
  have hR := cmpV_eq Go.Lib.compareBytes a b
  generalize cmpV Go.Lib.compareBytes a b = R at hR ⊢
  refine FnOk.run H.i38 H.mixed rfl rfl ?_
  refine fR rfl ?_
  refine Run.loop rfl ?_
  refine Run.unroll ?_
  refine fR rfl ?_
  refine Run.condT rfl rfl (by simp) ?_
  refine fR rfl ?_
  by_cases h1 : a.kind = b.kind
  · rw [if_neg (by simpa using cmpI_zero.2 h1)] at hR
    refine Run.condF rfl rfl (by simpa using h1) ?_
    refine fR rfl ?_
    by_cases h2 : a.int = b.int
    · rw [if_neg (by simpa using cmpI_zero.2 h2)] at hR
      refine Run.condF rfl rfl (by simpa using h2) ?_
      refine fR rfl ?_
      by_cases h3 : a.text = b.text
      · rw [if_neg (by simpa using cmpB_zero.2 h3)] at hR
        refine Run.condF rfl rfl (by simpa using h3) ?_
        generalize cmpI (a.items.length : Nat) (b.items.length : Nat) = z at hz hR
        refine fR rfl ?_
        refine lM rfl rfl rfl ?_
        refine fM rfl ?_
        refine lM rfl rfl rfl ?_
        refine fM rfl ?_
        have hm : (if (b.items.length : Int) < (a.items.length : Int) then (b.items.length : Int) else (a.items.length : Int)) = ((a.items.zip b.items).length : Nat) := by
          rw [List.length_zip]
          split <;> omega
        rw [hm]
        refine rList (a.items.zip b.items) (fun i (_ : Unit) => { env := [(2, .ptr 0 0), (3, .ptr 1 0), (7, .t (.int .i64 0)), (48, .t (.int .i64 (a.items.zip b.items).length)), (49, .t (.int .i64 i))], s := ⟨[(0, .cells [.t (.int .i64 a.kind), .t (.int .i64 a.int), .t (.str a.text), .t (.lst (a.items.map Val.enc)), .t (.lst (a.keys.map sE))]), (1, .cells [.t (.int .i64 b.kind), .t (.int .i64 b.int), .t (.str b.text), .t (.lst (b.items.map Val.enc)), .t (.lst (b.keys.map sE))])], 2⟩ }) (fun r i _ => R = cmpVs Go.Lib.compareBytes (a.items.drop i) (b.items.drop i) a.keys b.keys i z) 2 () rfl hR rfl rfl rfl ?_ ?_
        · intro _ hinv
          rw [cmpVs_end (zip_end rfl)] at hinv
          subst hinv
          refine fR rfl ?_
          refine Run.condF rfl rfl (by simp) ?_
          refine fR rfl ?_
          refine lM rfl rfl rfl ?_
          refine fM rfl ?_
          refine lM rfl rfl rfl ?_
          refine Mid.call (hz) rfl rfl rfl rfl ?_
          refine fM rfl ?_
          refine a64 rfl rfl rfl ?_
          refine fM rfl ?_
          refine Run.adv 200 rfl (Run.unroll ?_)
          refine fR rfl ?_
          refine Run.condF rfl rfl (by simp) ?_
          refine fR rfl ?_
          refine Run.fin rfl (EndOk.go ?_); exact .t rfl
        · intro i p r _ g1 gi gd hinv ih
          obtain ⟨e1, e2⟩ := List.getElem?_zip_eq_some.1 g1
          obtain ⟨x, y⟩ := p
          simp only at e1 e2
          have b1 := (List.getElem?_eq_some_iff.1 e1).1
          have b2 := (List.getElem?_eq_some_iff.1 e2).1
          rw [cmpVs_at e1 e2] at hinv
          have hc := hrec x (List.mem_of_getElem? e1) y (hb.it y (List.mem_of_getElem? e2))
          have hs := scompare_ok H (keyA a.keys i) (keyA b.keys i)
          refine fR rfl ?_
          refine Run.condT rfl rfl (by simp [List.length_zip]; omega) ?_
          refine fR rfl ?_
          refine Mid.call (pkey_ok H a ha i (by omega)) rfl rfl rfl rfl ?_
          refine fM rfl ?_
          refine Mid.call (pkey_ok H b hb i (by omega)) rfl rfl rfl rfl ?_
          skip
          by_cases h4 : Go.Lib.compareBytes (keyA a.keys i) (keyA b.keys i) = 0
          · rw [h4] at hs hinv
            rw [if_neg (by simp)] at hinv
            refine Mid.call (hs) rfl rfl rfl rfl ?_
            refine fM rfl ?_
            refine Run.condF rfl rfl rfl ?_
            refine fR rfl ?_
            refine Mid.elemMapC (Val.enc_eq x) rfl rfl rfl e1 rfl rfl ?_
            refine fM rfl ?_
            refine Mid.elemMapC (Val.enc_eq y) rfl rfl rfl e2 rfl rfl ?_
            refine fM rfl ?_
            by_cases h5 : cmpV Go.Lib.compareBytes x y = 0
            · rw [h5] at hc hinv
              rw [if_neg (by simp)] at hinv
              refine Mid.call (hc) rfl rfl rfl rfl ?_
              refine fM rfl ?_
              refine Run.condF rfl rfl rfl ?_
              refine fR rfl ?_
              refine aL rfl rfl rfl rfl rfl ?_
              refine fM rfl ?_
              exact rWeak 2 rfl (ih () hinv) rfl rfl rfl
            · rw [if_pos h5] at hinv
              refine Mid.call (hc) rfl rfl rfl rfl ?_
              refine fM rfl ?_
              refine Run.condT rfl rfl (by simpa using h5) ?_
              refine fR rfl ?_
              refine Run.fin rfl (EndOk.go ?_); exact .t (by rw [hinv])
          · rw [if_pos h4] at hinv
            refine Mid.call (hs) rfl rfl rfl rfl ?_
            refine fM rfl ?_
            refine Run.condT rfl rfl (by simpa using h4) ?_
            refine fR rfl ?_
            refine Run.fin rfl (EndOk.go ?_); exact .t (by rw [hinv])
      · rw [if_pos (by simpa using fun e => h3 (cmpB_zero.1 e))] at hR
        refine Run.condT rfl rfl (by simpa using h3) ?_
        refine fR rfl ?_
        refine Mid.call (ht) rfl rfl rfl rfl ?_
        refine fM rfl ?_
        refine Run.fin rfl (EndOk.go ?_); exact .t (by rw [hR])
    · rw [if_pos (by simpa using fun e => h2 (cmpI_zero.1 e))] at hR
      refine Run.condT rfl rfl (by simpa using h2) ?_
      refine fR rfl ?_
      refine Mid.call (hi) rfl rfl rfl rfl ?_
      refine fM rfl ?_
      refine Run.fin rfl (EndOk.go ?_); exact .t (by rw [hR])
  · rw [if_pos (by simpa using fun e => h1 (cmpI_zero.1 e))] at hR
    refine Run.condT rfl rfl (by simpa using h1) ?_
    refine fR rfl ?_
    refine Mid.call (hk) rfl rfl rfl rfl ?_
    refine fM rfl ?_
    refine Run.fin rfl (EndOk.go ?_); exact .t (by rw [hR])
theorem pcmp_ok' (H : Pr P) : ∀ (k : Nat) (v : Val), SizeOf.sizeOf v ≤ k → v.Ok → PCmpC P v
  | 0, v, h, _ => by cases v; simp at h
  | k + 1, v, h, hv => pcmp_step H v hv fun x hx => pcmp_ok' H k x (by have := Val.size_items v hx; omega) (hv.it x hx)
theorem psame_ok (H : Pr P) (a b : Val) (ha : a.Ok) (hb : b.Ok) : FnOk P 32 [a.v, b.v] ⟨[], 0⟩ { v := .t (.bool (sameV a b)) } := by
  have h := pcmp_ok' H _ a (Nat.le_refl _) ha b hb
  have e := sameV_of (fun {a b} => cmpB_zero (a := a) (b := b)) a b
  refine FnOk.run H.i32 H.mixed rfl rfl ?_
  refine fR rfl ?_
  refine Mid.call (h) rfl rfl rfl rfl ?_
  refine fM rfl ?_
  refine Run.fin rfl (EndOk.go ?_); exact .t (by rw [← e])
end Go.GB.C35


/-
  L35D: chapter 35: lists of values; the law's small functions.
-/
namespace Go.GB.C35
open Go.GB
set_option linter.unusedSimpArgs false
set_option linter.unusedVariables false
set_option maxRecDepth 100000
set_option maxHeartbeats 4000000
variable {P : Program}
def sameL : List Val → List Val → Bool
  | [], [] => true
  | x :: r, y :: s => sameV x y && sameL r s
  | _, _ => false
theorem sameL_len : ∀ {l m : List Val}, l.length ≠ m.length → sameL l m = false
  | [], [], h => by simp at h
  | [], y :: s, h => rfl
  | x :: r, [], h => rfl
  | x :: r, y :: s, h => by
    simp only [sameL]
    rw [sameL_len (l := r) (m := s) (by simpa using h), Bool.and_false]
theorem same_ok (H : Pr P) (l m : List Val) (hl : l.length ≤ 140737488355328) (hm : m.length ≤ 140737488355328) (ho : ∀ x, x ∈ l → x.Ok) (hp : ∀ x, x ∈ m → x.Ok) : FnOk P 24 [.t (.lst (l.map Val.enc)), .t (.lst (m.map Val.enc))] ⟨[], 0⟩ { v := .t (.bool (sameL l m)) } := by
  refine FnOk.run H.i24 H.mixed rfl rfl ?_
  refine fR rfl ?_
  refine lM rfl rfl rfl ?_
  refine fM rfl ?_
  refine lM rfl rfl rfl ?_
  refine fM rfl ?_
  by_cases h : l.length = m.length
  · refine Run.condF rfl rfl (by simp [h]) ?_
    refine fR rfl ?_
    refine rList l (fun i (_ : Unit) => { env := [(0, .t (.lst (l.map Val.enc))), (1, .t (.lst (m.map Val.enc))), (5, .t (.int .i64 i))], s := ⟨[], 0⟩ }) (fun r i _ => sameL l m = sameL r (m.drop i)) 0 () rfl (by simp) rfl rfl rfl ?_ ?_
    · intro _ hinv
      rw [h, List.drop_length] at hinv
      rw [hinv]
      refine fR rfl ?_
      refine lM rfl rfl rfl ?_
      refine fM rfl ?_
      refine Run.condF rfl rfl (by simp) ?_
      refine fR rfl ?_
      refine Run.fin rfl (EndOk.go ?_); exact .t rfl
    · intro i x r _ h1 hi hd hinv ih
      have hi2 : i < m.length := by omega
      obtain ⟨y, h2⟩ : ∃ y, m[i]? = some y := ⟨m[i], by simp [hi2]⟩
      rw [drop_at h2] at hinv
      simp only [sameL] at hinv
      have hc := rsame_ok H x y (ho x (List.mem_of_getElem? h1)) (hp y (List.mem_of_getElem? h2))
      refine fR rfl ?_
      refine lM rfl rfl rfl ?_
      refine fM rfl ?_
      refine Run.condT rfl rfl (by simp; omega) ?_
      refine fR rfl ?_
      refine Mid.elemMapC (Val.enc_eq x) rfl rfl rfl h1 rfl rfl ?_
      refine fM rfl ?_
      refine Mid.elemMapC (Val.enc_eq y) rfl rfl rfl h2 rfl rfl ?_
      refine fM rfl ?_
      cases hs : sameV x y with
      | true =>
        rw [hs] at hc
        rw [hs, Bool.true_and] at hinv
        refine Mid.call (hc) rfl rfl rfl rfl ?_
        refine fM rfl ?_
        refine Run.condF rfl rfl rfl ?_
        refine fR rfl ?_
        refine aL rfl rfl rfl rfl rfl ?_
        refine fM rfl ?_
        exact rWeak 0 rfl (ih () hinv) rfl rfl rfl
      | false =>
        rw [hs] at hc
        rw [hs, Bool.false_and] at hinv
        refine Mid.call (hc) rfl rfl rfl rfl ?_
        refine fM rfl ?_
        refine Run.condT rfl rfl rfl ?_
        refine fR rfl ?_
        refine Run.fin rfl (EndOk.go ?_); exact .t (by rw [hinv])
  · rw [sameL_len h]
    refine Run.condT rfl rfl (by simpa using fun e => h (by omega)) ?_
    refine fR rfl ?_
    refine Run.fin rfl (EndOk.go ?_); exact .t rfl
def mkI (n : Int) : Val := .mk 2 n [] [] []
def mkT (s : Str) : Val := .mk 3 0 s [] []
def mkL (l : List Val) : Val := .mk 5 0 [] l []
theorem mkI_ok (H : Pr P) (n : Int) : FnOk P 25 [.t (.int .i64 n)] ⟨[], 0⟩ { v := (mkI n).v } := by
  refine FnOk.run H.i25 H.mixed rfl rfl ?_
  refine fR rfl ?_
  refine Run.fin rfl (EndOk.go ?_); exact .agg (.cons (.t rfl) (.cons (.t rfl) (.cons (.t rfl) (.cons (.nil rfl) (.cons (.nil rfl) .nil)))))
theorem mkT_ok (H : Pr P) (s : Str) : FnOk P 26 [.t (.str s)] ⟨[], 0⟩ { v := (mkT s).v } := by
  refine FnOk.run H.i26 H.mixed rfl rfl ?_
  refine fR rfl ?_
  refine Run.fin rfl (EndOk.go ?_); exact .agg (.cons (.t rfl) (.cons (.t rfl) (.cons (.t rfl) (.cons (.nil rfl) (.cons (.nil rfl) .nil)))))
end Go.GB.C35


/-
  L35E: chapter 35: a new loader.
-/
namespace Go.GB.C35
open Go.GB
set_option linter.unusedSimpArgs false
set_option linter.unusedVariables false
set_option maxRecDepth 100000
set_option maxHeartbeats 4000000
variable {P : Program}
theorem new_ok (H : Pr P) (n : Int) (h1 : 1 ≤ n) (h2 : n ≤ 1024) : FnOk P 7 [.t (.int .i64 n)] ⟨[], 0⟩ { v := .tup [.ptr 1 0, .t (.int .i64 0)], ob := [(0, .map false [] (some (0, []))), (1, .cells [.t (.int .i64 n), .mp 0, .t (.int .i64 0), .t (.int .i64 0)])], n := 2 } := by
  refine FnOk.run H.i7 H.mixed rfl rfl ?_
  refine fR rfl ?_
  refine Run.condF rfl rfl (by simp; omega) ?_
  refine fR rfl ?_
  refine Mid.mkmapV rfl ?_
  refine fM rfl ?_
  refine Run.fin rfl (EndOk.chg rfl rfl ?_ ?_)
  · exact .le (.same rfl)
  · exact (by repeat' (first | exact trivial | exact LeX.t | exact LeX.top | exact LeX.nilOwn (Nat.le_of_ble_eq_true rfl) (Nat.le_of_ble_eq_true rfl) | exact LeX.ownT | exact LeX.nilT | exact LeX.same rfl | exact LeX.tEq (by simp) | exact LeX.ownEq (by simp) (Nat.le_of_ble_eq_true rfl) | exact LeX.tEq (by congr 1 <;> omega) | exact Or.inr ⟨Nat.le_of_ble_eq_true rfl, Nat.le_of_ble_eq_true rfl, rfl⟩ | refine Or.inl ⟨Nat.le_of_ble_eq_true rfl, _, rfl, ?_⟩ | refine LeO.cells ?_ | exact LeO.arr rfl | exact LeO.arr (by simp) | exact LeO.mE (by first | rfl | simp) (by first | exact Or.inl rfl | exact Or.inr rfl) | exact LeO.cE (by first | rfl | simp) | exact LeXs.cE (by first | rfl | simp) | refine LeO.map (by first | rfl | simp) ?_ (by first | exact Or.inl rfl | exact Or.inr rfl) | exact LeO.iter (by first | rfl | simp) (Nat.le_of_ble_eq_true rfl) | refine LeXs.cons ?_ ?_ | exact LeXs.nil | refine And.intro ?_ ?_))
end Go.GB.C35


/-
  L35F: chapter 35: the methods of a loader that is none.
-/
namespace Go.GB.C35
open Go.GB
set_option linter.unusedSimpArgs false
set_option linter.unusedVariables false
set_option maxRecDepth 100000
set_option maxHeartbeats 4000000
variable {P : Program}
theorem none_zero (H : Pr P) : FnOk P 31 [.ptr 0 0] ⟨[(0, .cells [.t (.int .i64 0), .t .nilm, .t (.int .i64 0), .t (.int .i64 0)])], 1⟩ { v := .t (.bool true), rd := true } := by
  refine FnOk.run H.i31 H.mixed rfl rfl ?_
  refine fR rfl ?_
  refine Run.fin rfl (EndOk.sameX rfl rfl rfl (by first | exact rfl | exact nSto_bd | exact tSto_bd) (.t (rfl)))
theorem add_zero (H : Pr P) (f : Int) (v : Val) : FnOk P 16 [.ptr 0 0, .t (.int .i64 f), v.v] ⟨[(0, .cells [.t (.int .i64 0), .t .nilm, .t (.int .i64 0), .t (.int .i64 0)])], 1⟩ { v := .tup [.t (.int .i64 0), .t (.int .i64 1)], rd := true } := by
  refine FnOk.run H.i16 H.mixed rfl rfl ?_
  refine fR rfl ?_
  refine Mid.callRd [0] (none_zero H) rfl rfl rfl rfl rfl (by repeat' (first | exact trivial | exact rfl | refine And.intro ?_ ?_ | exact (congrArg some (AObj.ren_mE _ _ _ _ _ _)).symm | exact (congrArg some (AObj.ren_cE _ _ _)).symm | (refine (congrArg some (AObj.ren_gE ?_ _ _)).symm; intro _; rfl))) rfl ?_
  refine fM rfl ?_
  refine Run.condT rfl rfl rfl ?_
  refine fR rfl ?_
  refine Run.fin rfl (EndOk.sameX rfl rfl rfl rfl ?_)
  exact .tup (.cons (.t rfl) (.cons (.t rfl) .nil))
theorem take_zero (H : Pr P) (f n : Int) : FnOk P 19 [.ptr 0 0, .t (.int .i64 f), .t (.int .i64 n)] ⟨[(0, .cells [.t (.int .i64 0), .t .nilm, .t (.int .i64 0), .t (.int .i64 0)])], 1⟩ { v := .tup [Val.zero.v, .t (.bool false)], rd := true } := by
  refine FnOk.run H.i19 H.mixed rfl rfl ?_
  refine fR rfl ?_
  refine Mid.callRd [0] (none_zero H) rfl rfl rfl rfl rfl (by repeat' (first | exact trivial | exact rfl | refine And.intro ?_ ?_ | exact (congrArg some (AObj.ren_mE _ _ _ _ _ _)).symm | exact (congrArg some (AObj.ren_cE _ _ _)).symm | (refine (congrArg some (AObj.ren_gE ?_ _ _)).symm; intro _; rfl))) rfl ?_
  refine fM rfl ?_
  refine gr rfl ?_
  refine fM rfl ?_
  refine gr rfl ?_
  refine Mid.grdF rfl rfl rfl rfl rfl ?_
  refine Mid.grdF rfl rfl rfl rfl rfl ?_
  refine Mid.grdF rfl rfl rfl rfl rfl ?_
  refine Mid.grdF rfl rfl rfl rfl rfl ?_
  refine Mid.grdF rfl rfl rfl rfl rfl ?_
  refine fM rfl ?_
  refine Run.condT rfl rfl rfl ?_
  refine fR rfl ?_
  refine Run.fin rfl (EndOk.sameX rfl rfl rfl rfl ?_)
  exact .tup (.cons (.agg (.cons (.t rfl) (.cons (.t rfl) (.cons (.t rfl) (.cons (.nil rfl) (.cons (.nil rfl) .nil)))))) (.cons (.t rfl) .nil))
end Go.GB.C35


/-
  L35G: chapter 35: the law of a loader that is none.
-/
namespace Go.GB.C35
open Go.GB
set_option linter.unusedSimpArgs false
set_option linter.unusedVariables false
set_option maxRecDepth 100000
set_option maxHeartbeats 8000000
variable {P : Program}
theorem cmp_refl : ∀ k : Nat, (∀ a : Val, SizeOf.sizeOf a ≤ k → cmpV sameS a a = 0) ∧ ∀ (l : List Val) (ka : List Str) (j : Nat), SizeOf.sizeOf l ≤ k → cmpVs sameS l l ka ka j 0 = 0
  | 0 => ⟨fun a h => by cases a; simp at h, fun l ka j h => by cases l <;> simp at h⟩
  | k + 1 => by
    have ih := cmp_refl k
    refine ⟨fun a h => ?_, fun l ka j h => ?_⟩
    · have h2 := ih.2 a.items a.keys 0 (by cases a; simp only [Val.items]; simp only [Val.mk.sizeOf_spec] at h; omega)
      rw [cmpV_eq]
      have e : cmpI (a.items.length : Nat) (a.items.length : Nat) = 0 := cmpI_zero.2 rfl
      rw [e]
      simp only [nz]
      exact ⟨cmpI_zero.2 rfl, cmpI_zero.2 rfl, sameS_zero.2 rfl, h2⟩
    · cases l with
      | nil => simp [cmpVs]
      | cons x r =>
        have h1 := ih.1 x (by simp only [List.cons.sizeOf_spec] at h; omega)
        have h2 := ih.2 r ka (j + 1) (by simp only [List.cons.sizeOf_spec] at h; omega)
        simp only [cmpVs, nz]
        exact ⟨sameS_zero.2 rfl, h1, h2⟩
theorem sameV_refl (a : Val) : sameV a a = true := by
  unfold sameV
  simpa using (cmp_refl _).1 a (Nat.le_refl _)
end Go.GB.C35


/-
  L35H: chapter 35: the state of a loader with one queue; adding a representation.
-/
namespace Go.GB
theorem AObj.leSame {m m' : Nat} {o : AObj} (h : o.bd m = true) : LeO m m' o o := by
  cases o with
  | cells cs => exact .cells (.same h)
  | map kag es st => exact .map rfl (.same h) (.inr rfl)
  | arr n => exact .arr rfl
  | iter q s seen c => exact .iter rfl (of_decide_eq_true h)
  | gro r cs => exact .gro (.same h)
  | fobs os =>
    refine .fobs rfl fun i cs ds h1 h2 => ?_
    rw [h1] at h2; simp only [Option.some.injEq] at h2; subst h2
    exact .same (List.all_eq_true.1 h cs (List.mem_of_getElem? h1))
  | farr ns => exact .farr rfl
  | memo kag I => exact .memo fun _ _ h => h
theorem LeO.fobsPush {m m' : Nat} {os ps qs : List (List V)} {x y : List V} (e : qs = ps ++ [y]) (e2 : os = ps) (h : os.all (V.bds m) = true) (hx : LeXs m m' x y) : LeO m m' (.fobs (os ++ [x])) (.fobs qs) := by
  subst e; subst e2
  refine .fobs (by simp) fun i cs ds h1 h2 => ?_
  by_cases hi : i < os.length
  · rw [List.getElem?_append_left hi] at h1 h2
    rw [h1] at h2; simp only [Option.some.injEq] at h2; subst h2
    exact .same (List.all_eq_true.1 h cs (List.mem_of_getElem? h1))
  · rw [List.getElem?_append_right (by omega)] at h1 h2
    cases hj : i - os.length with
    | zero => rw [hj] at h1 h2; simp at h1 h2; subst h1; subst h2; exact hx
    | succ j => rw [hj] at h1; simp at h1
end Go.GB
namespace Go.GB.C35
open Go.GB
set_option linter.unusedSimpArgs false
set_option linter.unusedVariables false
set_option maxRecDepth 100000
set_option maxHeartbeats 8000000
variable {P : Program}
/-- a place: its representation, its result, whether it is loaded -/
structure Pl where
  rep : Val
  res : Val
  ld : Bool
def Pl.cs (p : Pl) : List V := [.t (.int .i64 p.rep.kind), .t (.int .i64 p.rep.int), .t (.str p.rep.text), .t (.lst (p.rep.items.map Val.enc)), .t (.lst (p.rep.keys.map sE)), .t (.int .i64 p.res.kind), .t (.int .i64 p.res.int), .t (.str p.res.text), .t (.lst (p.res.items.map Val.enc)), .t (.lst (p.res.keys.map sE)), .t (.bool p.ld)]
structure Pl.Ok (p : Pl) : Prop where
  r : p.rep.Ok
  s : p.res.Ok
theorem pls_bd (m : Nat) (ps : List Pl) : (ps.map Pl.cs).all (V.bds m) = true := by
  simp only [List.all_map, List.all_eq_true, Function.comp_apply]
  intro p _
  simp [Pl.cs, V.bds, V.bd]
/-- the numbers of the places -/
def pl (ps : List Pl) : List Nat := List.range ps.length
theorem pl_length (ps : List Pl) : (pl ps).length = ps.length := by simp [pl]
theorem pl_push (ps : List Pl) (p : Pl) : pl (ps ++ [p]) = pl ps ++ [ps.length] := by simp [pl, List.range_succ]
theorem pl_at {ps : List Pl} {i x : Nat} (h : (pl ps)[i]? = some x) : x = i ∧ i < ps.length := by
  obtain ⟨h1, h2⟩ := List.getElem?_eq_some_iff.1 h
  simp only [pl, List.getElem_range] at h2
  exact ⟨h2.symm, by simpa [pl] using h1⟩
theorem pl_some {ps : List Pl} {i : Nat} (h : i < ps.length) : (pl ps)[i]? = some i := by simp [pl, h]
def pE (F i : Nat) : List V := [V.fpt F i 0]
/-- what Add does -/
def fnd (ps : List Pl) (v : Val) : Option Nat := ps.findIdx? fun p => sameV p.rep v
def addAt (ps : List Pl) (v : Val) : Nat := (fnd ps v).getD ps.length
def addPs (ps : List Pl) (v : Val) : List Pl := if (fnd ps v).isSome then ps else ps ++ [⟨v, Val.zero, false⟩]
def addS (ps : List Pl) (v : Val) : Int := if (fnd ps v).isSome then 1 else 0
theorem fnd_cons (p : Pl) (r : List Pl) (v : Val) : fnd (p :: r) v = if sameV p.rep v then some 0 else (fnd r v).map (· + 1) := by
  simp only [fnd, List.findIdx?_cons]
theorem gE_bd {m F : Nat} (h : F < m) (l : List Nat) : V.bds m (gE (pE F) l) = true := V.bds_gE (fun x => by simp [pE, V.bds, V.bd, h]) l
theorem none_ok (H : Pr P) (m c s : Int) (q : AObj) (hq : stoBd 2 [(1, q)] = true) : FnOk P 31 [.ptr 0 0] ⟨[(0, .cells [.t (.int .i64 m), .mp 1, .t (.int .i64 c), .t (.int .i64 s)]), (1, q)], 2⟩ { v := .t (.bool false), rd := true } := by
  have hb : stoBd 2 [(0, .cells [.t (.int .i64 m), .mp 1, .t (.int .i64 c), .t (.int .i64 s)]), (1, q)] = true := by
    simp [stoBd] at hq ⊢
    exact ⟨rfl, hq⟩
  refine FnOk.run H.i31 H.mixed rfl rfl ?_
  refine fR rfl ?_
  refine Run.fin rfl (EndOk.sameX rfl rfl rfl hb (.t rfl))
theorem add_first (H : Pr P) (m c s f : Int) (hf : 0 ≤ f) (v : Val) (hv : v.Ok) (sx : Option (Nat × List Nat)) : FnOk P 16 [.ptr 1 0, .t (.int .i64 f), v.v] ⟨[(0, .map false [] sx), (1, .cells [.t (.int .i64 m), .mp 0, .t (.int .i64 c), .t (.int .i64 s)])], 2⟩ { v := .tup [.t (.int .i64 0), .t (.int .i64 0)], ob := [(0, .map false [([.int .i64 f], .ptr 4 0)] none), (3, .map false [] none), (4, .cells [.own 8 1 ([(0 : Int)].map nE), .gsl 7 (pl [⟨v, Val.zero, false⟩]).length 0 (pl [⟨v, Val.zero, false⟩]).length 1, .t (.int .i64 0), .mp 3]), (5, .fobs ([⟨v, Val.zero, false⟩].map Pl.cs)), (7, .gro (pl [⟨v, Val.zero, false⟩]).length (gE (pE 5) (pl [⟨v, Val.zero, false⟩]))), (8, .arr [(0 : Int)].length)], n := 7 } := by
  refine FnOk.run H.i16 H.mixed rfl rfl ?_
  refine fR rfl ?_
  refine Mid.callRd [1, 0] (none_ok H m c s (.map false [] sx) rfl) rfl rfl rfl rfl rfl (by repeat' (first | exact trivial | exact rfl | refine And.intro ?_ ?_ | exact (congrArg some (AObj.ren_mE _ _ _ _ _ _)).symm | exact (congrArg some (AObj.ren_cE _ _ _)).symm | (refine (congrArg some (AObj.ren_gE ?_ _ _)).symm; intro _; rfl))) rfl ?_
  refine fM rfl ?_
  refine Run.condF rfl rfl rfl ?_
  refine fR rfl ?_
  refine Run.condF rfl rfl (by simp; omega) ?_
  refine fR rfl ?_
  refine pu rfl ?_
  refine fM rfl ?_
  refine Run.condT rfl rfl rfl ?_
  refine fR rfl ?_
  refine Mid.mkmapV rfl ?_
  refine fM rfl ?_
  refine Mid.mapV (es' := [([.int .i64 f], .ptr 4 0)]) rfl rfl rfl rfl rfl rfl ?_
  refine fM rfl ?_
  refine p0 rfl ?_
  refine fM rfl ?_
  refine Run.loop rfl ?_
  refine Run.unroll ?_
  refine fR rfl ?_
  refine Run.condF rfl rfl rfl ?_
  refine fR rfl ?_
  refine Run.condT rfl rfl rfl ?_
  refine rWeakC 5 rfl (st' := { env := [(5, .ptr 2 0), (8, .ptr 4 0), (9, .t (.int .i64 (-1)))], s := ⟨[(0, .map false [([.int .i64 f], .ptr 4 0)] none), (1, .cells [.t (.int .i64 m), .mp 0, .t (.int .i64 c), .t (.int .i64 s)]), (2, .cells [.t (.int .i64 v.kind), .t (.int .i64 v.int), .t (.str v.text), .t (.lst (v.items.map Val.enc)), .t (.lst (v.keys.map sE))]), (3, .map false [] (some (0, []))), (4, .cells [.nils, .nils, .t (.int .i64 0), .mp 3]), (5, .fobs [])], 6⟩ }) ?_ rfl rfl rfl
  refine fR rfl ?_
  refine p0 rfl ?_
  refine fM rfl ?_
  refine Mid.call (copy_ok H v hv) rfl rfl rfl rfl ?_
  refine Mid.fast (f := 1) rfl (by (repeat' (first | exact trivial | exact Bool.not_or_self _ | exact grd1 _ | exact grd2 _ | exact grd3 _ _ | exact grd4 _ _ | refine And.intro ?_ ?_ | exact rfl | (simp; done) | (simp <;> omega))); done) ?_
  refine Mid.boxF (os := []) 5 rfl rfl rfl rfl rfl ?_
  refine Mid.bslO (cs := [.fpt 5 0 0]) rfl rfl ?_
  refine Mid.appGN (pE 5) [0] rfl rfl (fun _ => rfl) (by decide) (by decide) rfl ?_
  refine fM rfl ?_
  refine apN nE [(0 : Int)] rfl rfl rfl ?_ (h1 := by first | omega | (simp; omega) | (simp; done)) (h2 := by first | omega | (simp; omega) | (simp; done))
  refine fM rfl ?_
  refine lM rfl rfl rfl ?_
  refine p0 rfl ?_
  refine fM rfl ?_
  refine Run.fin rfl (EndOk.chg rfl rfl ?_ ?_)
  · exact .tup (.cons (.t rfl) (.cons (.t rfl) .nil))
  · refine ⟨?_, ?_, ?_, ?_, ?_, ?_, ?_, trivial⟩
    · exact .inl ⟨Nat.le_of_ble_eq_true rfl, _, rfl, AObj.leSame rfl⟩
    · exact .inl ⟨Nat.le_of_ble_eq_true rfl, _, rfl, AObj.leSame rfl⟩
    · exact .inl ⟨Nat.le_of_ble_eq_true rfl, _, rfl, .map rfl (.same rfl) (.inl rfl)⟩
    · exact .inl ⟨Nat.le_of_ble_eq_true rfl, _, rfl, AObj.leSame rfl⟩
    · exact .inl ⟨Nat.le_of_ble_eq_true rfl, _, rfl, .fobsPush (ps := []) rfl rfl rfl (.cons .t (.cons .t (.cons .t (.cons .t (.cons .t (.cons .t (.cons .t (.cons .t (.cons .nilT (.cons .nilT (.cons .t .nil)))))))))))⟩
    · exact .inl ⟨Nat.le_of_ble_eq_true rfl, _, rfl, AObj.leSame rfl⟩
    · exact .inl ⟨Nat.le_of_ble_eq_true rfl, _, rfl, .arr rfl⟩
end Go.GB.C35


/-
  L35I: chapter 35: adding a representation to a queue.
-/
namespace Go.GB.C35
open Go.GB
set_option linter.unusedSimpArgs false
set_option linter.unusedVariables false
set_option maxRecDepth 100000
set_option maxHeartbeats 8000000
variable {P : Program}
theorem fnd_at {ps : List Pl} {i : Nat} {p : Pl} {v : Val} (h : ps[i]? = some p) : fnd (ps.drop i) v = if sameV p.rep v then some 0 else (fnd (ps.drop (i + 1)) v).map (· + 1) := by
  rw [drop_at h, fnd_cons]
theorem stoBd_cons {m k : Nat} {o : AObj} {r : List (Nat × AObj)} (h1 : k < m) (h2 : o.bd m = true) (h3 : stoBd m r = true) : stoBd m ((k, o) :: r) = true := by
  simp [stoBd, h1, h2, h3]
theorem none_ga (H : Pr P) (m c s : Int) (o : AObj) (r : List (Nat × AObj)) (hb : stoBd 9 ((0, o) :: (1, .cells [.t (.int .i64 m), .mp 0, .t (.int .i64 c), .t (.int .i64 s)]) :: r) = true) : FnOk P 31 [.ptr 1 0] ⟨(0, o) :: (1, .cells [.t (.int .i64 m), .mp 0, .t (.int .i64 c), .t (.int .i64 s)]) :: r, 9⟩ { v := .t (.bool false), rd := true } := by
  refine FnOk.run H.i31 H.mixed rfl rfl ?_
  refine fR rfl ?_
  refine Run.fin rfl (EndOk.sameX rfl (List.append_nil _).symm rfl hb (.t rfl))
theorem none_gb (H : Pr P) (m c s : Int) (o : AObj) (r : List (Nat × AObj)) (hb : stoBd 10 ((0, o) :: (1, .cells [.t (.int .i64 m), .mp 0, .t (.int .i64 c), .t (.int .i64 s)]) :: r) = true) : FnOk P 31 [.ptr 1 0] ⟨(0, o) :: (1, .cells [.t (.int .i64 m), .mp 0, .t (.int .i64 c), .t (.int .i64 s)]) :: r, 10⟩ { v := .t (.bool false), rd := true } := by
  refine FnOk.run H.i31 H.mixed rfl rfl ?_
  refine fR rfl ?_
  refine Run.fin rfl (EndOk.sameX rfl (List.append_nil _).symm rfl hb (.t rfl))
theorem add_ok (H : Pr P) (m c s f nx : Int) (tk : List Int) (ps : List Pl) (op es : List (List T × V)) (hf : 0 ≤ f) (v : Val) (hv : v.Ok) (hs : 0 ≤ s ∧ s < 1000000) (ht : tk.length < 1000000) (hpl : ps.length < 1000000) (hpo : ∀ p, p ∈ ps → p.Ok) (hk : keysOk [.int .i64] es = true) (hg : mget [.int .i64 f] es = some (.ptr 4 0)) (hb : ∀ k, 9 ≤ k → V.bds k (es.map (·.2)) = true) (hob : ∀ k, 9 ≤ k → V.bds k (op.map (·.2)) = true) : FnOk P 16 [.ptr 1 0, .t (.int .i64 f), v.v] ⟨[(0, .map false es none), (1, .cells [.t (.int .i64 m), .mp 0, .t (.int .i64 c), .t (.int .i64 s)]), (3, .map false op none), (4, .cells [.own 8 1 (tk.map nE), .gsl 7 (pl ps).length 0 (pl ps).length 1, .t (.int .i64 nx), .mp 3]), (5, .fobs (ps.map Pl.cs)), (7, .gro (pl ps).length (gE (pE 5) (pl ps))), (8, .arr tk.length)], 9⟩ { v := .tup [.t (.int .i64 tk.length), .t (.int .i64 0)], ob := [(1, .cells [.t (.int .i64 m), .mp 0, .t (.int .i64 c), .t (.int .i64 (s + addS ps v))]), (4, .cells [.own 8 1 ((tk ++ [(addAt ps v : Int)]).map nE), .gsl 7 (pl (addPs ps v)).length 0 (pl (addPs ps v)).length 1, .t (.int .i64 nx), .mp 3]), (5, .fobs ((addPs ps v).map Pl.cs)), (7, .gro (pl (addPs ps v)).length (gE (pE 5) (pl (addPs ps v)))), (8, .arr (tk ++ [(addAt ps v : Int)]).length)], n := 0, rd := true } := by
  have hsb : stoBd 10 [(0, .map false es none), (1, .cells [.t (.int .i64 m), .mp 0, .t (.int .i64 c), .t (.int .i64 s)]), (3, .map false op none), (4, .cells [.own 8 1 (tk.map nE), .gsl 7 (pl ps).length 0 (pl ps).length 1, .t (.int .i64 nx), .mp 3]), (5, .fobs (ps.map Pl.cs)), (7, .gro (pl ps).length (gE (pE 5) (pl ps))), (8, .arr tk.length), (9, .cells [.t (.int .i64 v.kind), .t (.int .i64 v.int), .t (.str v.text), .t (.lst (v.items.map Val.enc)), .t (.lst (v.keys.map sE))])] = true := (by repeat' (first | exact (rfl : stoBd _ [] = true) | refine stoBd_cons (Nat.le_of_ble_eq_true rfl) ?_ ?_ | exact (by first | rfl | exact hb _ (Nat.le_of_ble_eq_true rfl) | exact hob _ (Nat.le_of_ble_eq_true rfl) | (refine open_bd ?_ _ _; exact Nat.le_of_ble_eq_true rfl) | exact pls_bd _ _ | (refine gE_bd ?_ _; exact Nat.le_of_ble_eq_true rfl))))
  have hR : fnd ps v = fnd (ps.drop 0) v := rfl
  refine FnOk.run H.i16 H.mixed rfl rfl ?_
  refine fR rfl ?_
  refine Mid.callS (none_gb H m c s _ _ hsb) rfl rfl hsb rfl ?_
  refine fM rfl ?_
  refine Run.condF rfl rfl rfl ?_
  refine fR rfl ?_
  refine Run.condF rfl rfl (by simp; omega) ?_
  refine fR rfl ?_
  refine Mid.lookV (.ptr 4 0) rfl rfl rfl rfl hk (by rw [hg]; rfl) rfl ?_
  refine fM rfl ?_
  refine Run.condF rfl rfl rfl ?_
  refine fR rfl ?_
  refine pu rfl ?_
  refine fM rfl ?_
  refine rList (pl ps) (fun i (_ : Unit) => { env := [(0, .ptr 1 0), (5, .ptr 9 0), (8, .ptr 4 0), (9, .t (.int .i64 (-1))), (38, .gsl 7 (pl ps).length 0 (pl ps).length 1), (39, .t (.int .i64 (pl ps).length)), (40, .t (.int .i64 i))], s := ⟨[(0, .map false es none), (1, .cells [.t (.int .i64 m), .mp 0, .t (.int .i64 c), .t (.int .i64 s)]), (3, .map false op none), (4, .cells [.own 8 1 (tk.map nE), .gsl 7 (pl ps).length 0 (pl ps).length 1, .t (.int .i64 nx), .mp 3]), (5, .fobs (ps.map Pl.cs)), (7, .gro (pl ps).length (gE (pE 5) (pl ps))), (8, .arr tk.length), (9, .cells [.t (.int .i64 v.kind), .t (.int .i64 v.int), .t (.str v.text), .t (.lst (v.items.map Val.enc)), .t (.lst (v.keys.map sE))])], 10⟩ }) (fun r i _ => fnd ps v = (fnd (ps.drop i) v).map (· + i)) 10 () rfl (by simp) rfl rfl rfl ?_ ?_ (he := (by repeat' (first | exact trivial | exact LeX.t | exact LeX.top | exact LeX.nilOwn (Nat.le_of_ble_eq_true rfl) (Nat.le_of_ble_eq_true rfl) | exact LeX.ownT | exact LeX.nilT | exact LeX.same rfl | exact LeX.tEq (by simp) | exact LeX.ownEq (by simp) (Nat.le_of_ble_eq_true rfl) | exact LeX.tEq (by congr 1 <;> omega) | exact Or.inr ⟨Nat.le_of_ble_eq_true rfl, Nat.le_of_ble_eq_true rfl, rfl⟩ | refine Or.inl ⟨Nat.le_of_ble_eq_true rfl, _, rfl, ?_⟩ | refine LeO.cells ?_ | exact LeO.arr rfl | exact LeO.arr (by simp) | exact LeO.mE (by first | rfl | simp) (by first | exact Or.inl rfl | exact Or.inr rfl) | exact LeO.cE (by first | rfl | simp) | exact LeXs.cE (by first | rfl | simp) | refine LeO.map (by first | rfl | simp) ?_ (by first | exact Or.inl rfl | exact Or.inr rfl) | exact LeO.iter (by first | rfl | simp) (Nat.le_of_ble_eq_true rfl) | refine LeXs.cons ?_ ?_ | exact LeXs.nil | refine And.intro ?_ ?_))) (hs := (by repeat' (first | exact trivial | refine And.intro ?_ ?_ | exact Or.inr ⟨Nat.le_of_ble_eq_true rfl, Nat.le_of_ble_eq_true rfl, rfl⟩ | exact Or.inl ⟨(Nat.le_of_ble_eq_true rfl), _, rfl, AObj.leSame (by first | rfl | exact hb _ (Nat.le_of_ble_eq_true rfl) | exact hob _ (Nat.le_of_ble_eq_true rfl) | (refine open_bd ?_ _ _; exact Nat.le_of_ble_eq_true rfl) | exact pls_bd _ _ | (refine gE_bd ?_ _; exact Nat.le_of_ble_eq_true rfl))⟩)))
  · intro _ hinv
    rw [pl_length, List.drop_length] at hinv
    simp [fnd] at hinv
    have hn : fnd ps v = none := by simpa [fnd] using hinv
    have e1 : addAt ps v = ps.length := by simp [addAt, hn]
    have e2 : addPs ps v = ps ++ [⟨v, Val.zero, false⟩] := by simp [addPs, hn]
    have e3 : addS ps v = 0 := by simp [addS, hn]
    rw [e1, e2, e3]
    refine fR rfl ?_
    refine Run.condF rfl rfl (by simp) ?_
    refine fR rfl ?_
    refine Run.condT rfl rfl rfl ?_
    refine fR rfl ?_
    refine pu rfl ?_
    refine fM rfl ?_
    refine Mid.call (copy_ok H v hv) rfl rfl rfl rfl ?_
    refine Mid.fast (f := 1) rfl (by (repeat' (first | exact trivial | exact Bool.not_or_self _ | exact grd1 _ | exact grd2 _ | exact grd3 _ _ | exact grd4 _ _ | refine And.intro ?_ ?_ | exact rfl | (simp; done) | (simp <;> omega))); done) ?_
    refine Mid.boxF (os := ps.map Pl.cs) 5 rfl rfl rfl rfl rfl ?_
    refine Mid.bslO (cs := [.fpt 5 (ps.map Pl.cs).length 0]) rfl rfl ?_
    refine Mid.appGG (pE 5) (pl ps) [(ps.map Pl.cs).length] rfl rfl rfl (fun _ => rfl) (fun _ => rfl) (by simp [pl_length]; omega) (by simp [pl_length]; omega) rfl ?_
    refine fM rfl ?_
    refine apM nE tk [((pl ps).length : Int)] rfl rfl rfl rfl rfl ?_ (h1 := by first | omega | (simp; omega) | (simp; done)) (h2 := by first | omega | (simp; omega) | (simp; done))
    refine fM rfl ?_
    refine lM rfl rfl rfl ?_
    refine p0 rfl ?_
    refine fM rfl ?_
    refine Run.fin rfl (EndOk.chg rfl rfl ?_ ?_)
    · exact .tup (.cons (.t (congrArg _ ((wrap64 (by first | omega | (simp; omega) | (simp; done)) (by first | omega | (simp; omega) | (simp; done))).trans (by simp)))) (.cons (.t rfl) .nil))
    · have eq : pl ps ++ [(ps.map Pl.cs).length] = pl (ps ++ [⟨v, Val.zero, false⟩]) := by rw [pl_push, List.length_map]
      have el : (pl ps).length + 1 = (pl (ps ++ [⟨v, Val.zero, false⟩])).length := by simp [pl_length]
      refine ⟨?_, ?_, ?_, ?_, ?_, ?_, ?_, trivial⟩
      · exact .inl ⟨(Nat.le_of_ble_eq_true rfl), _, rfl, AObj.leSame (by first | rfl | exact hb _ (Nat.le_of_ble_eq_true rfl) | exact hob _ (Nat.le_of_ble_eq_true rfl) | (refine open_bd ?_ _ _; exact Nat.le_of_ble_eq_true rfl) | exact pls_bd _ _ | (refine gE_bd ?_ _; exact Nat.le_of_ble_eq_true rfl))⟩
      · exact .inl ⟨Nat.le_of_ble_eq_true rfl, _, rfl, .cells (.cons .t (.cons (.same rfl) (.cons .t (.cons (.tEq (by simp)) .nil))))⟩
      · exact .inl ⟨(Nat.le_of_ble_eq_true rfl), _, rfl, AObj.leSame (by first | rfl | exact hb _ (Nat.le_of_ble_eq_true rfl) | exact hob _ (Nat.le_of_ble_eq_true rfl) | (refine open_bd ?_ _ _; exact Nat.le_of_ble_eq_true rfl) | exact pls_bd _ _ | (refine gE_bd ?_ _; exact Nat.le_of_ble_eq_true rfl))⟩
      · exact .inl ⟨Nat.le_of_ble_eq_true rfl, _, rfl, .cells (.cons (.ownEq (by simp [pl_length]) (Nat.le_of_ble_eq_true rfl)) (.cons (.gslEq el rfl (by rw [eq]) (Nat.le_of_ble_eq_true rfl)) (.cons .t (.cons (.same rfl) .nil))))⟩
      · exact .inl ⟨Nat.le_of_ble_eq_true rfl, _, rfl, .fobsPush (ps := ps.map Pl.cs) (by simp; rfl) rfl (pls_bd _ _) (.cons .t (.cons .t (.cons .t (.cons .t (.cons .t (.cons .t (.cons .t (.cons .t (.cons .nilT (.cons .nilT (.cons .t .nil)))))))))))⟩
      · exact .inl ⟨Nat.le_of_ble_eq_true rfl, _, rfl, .groE el (.gE eq fun x => rfl)⟩
      · exact .inl ⟨Nat.le_of_ble_eq_true rfl, _, rfl, .arr (by simp)⟩
  · intro i x r _ g1 gi gd hinv ih
    obtain ⟨rfl, hlt⟩ := pl_at g1
    have hpos : 0 < (pl ps).length := by rw [pl_length]; omega
    obtain ⟨p, hp⟩ : ∃ p, ps[x]? = some p := ⟨_, List.getElem?_eq_getElem hlt⟩
    have hpk := hpo p (List.mem_of_getElem? hp)
    rw [fnd_at hp] at hinv
    refine fR rfl ?_
    refine Run.condT rfl rfl (by simp; omega) ?_
    refine fR rfl ?_
    refine pu rfl ?_
    refine Mid.ldG (x) 0 (sz := 1) rfl rfl (by omega) (by omega) (fun _ => rfl) (g1) rfl rfl ?_
    refine p0 rfl ?_
    refine p0 rfl ?_
    have hpc : (ps.map Pl.cs)[x]? = some p.cs := by simp [hp]
    refine Mid.fast (f := 1) rfl (by (repeat' (first | exact trivial | exact Bool.not_or_self _ | exact grd1 _ | exact grd2 _ | exact grd3 _ _ | exact grd4 _ _ | refine And.intro ?_ ?_ | exact rfl | (simp; done) | (simp <;> omega))); done) ?_
    refine Run.fast (f := 4) rfl (by (repeat' (first | exact trivial | exact Bool.not_or_self _ | exact grd1 _ | exact grd2 _ | exact grd3 _ _ | exact grd4 _ _ | refine And.intro ?_ ?_ | exact rfl | (simp; done) | (simp <;> omega))); done) ?_
    refine Mid.ldFA (cs := p.cs) rfl rfl hpc (by simp [Pl.cs]) rfl rfl ?_
    refine fM rfl ?_
    refine Mid.call (psame_ok H p.rep v hpk.r hv) rfl rfl rfl rfl ?_
    refine fM rfl ?_
    by_cases hsm : sameV p.rep v = true
    · rw [if_pos hsm] at hinv
      have hn : fnd ps v = some x := by simpa using hinv
      have e1 : addAt ps v = x := by simp [addAt, hn]
      have e2 : addPs ps v = ps := by simp [addPs, hn]
      have e3 : addS ps v = 1 := by simp [addS, hn]
      rw [e1, e2, e3]
      refine Run.condT rfl rfl (by simpa using hsm) ?_
      refine fR rfl ?_
      refine Run.condF rfl rfl (by simp) ?_
      refine fR rfl ?_
      refine a64 rfl rfl rfl ?_
      refine fM rfl ?_
      refine apM nE tk [(x : Int)] rfl rfl rfl rfl rfl ?_ (h1 := by first | omega | (simp; omega) | (simp; done)) (h2 := by first | omega | (simp; omega) | (simp; done))
      refine fM rfl ?_
      refine lM rfl rfl rfl ?_
      refine p0 rfl ?_
      refine fM rfl ?_
      refine Run.fin rfl (EndOk.chg rfl rfl ?_ ?_)
      · exact .tup (.cons (.t (congrArg _ ((wrap64 (by first | omega | (simp; omega) | (simp; done)) (by first | omega | (simp; omega) | (simp; done))).trans (by simp)))) (.cons (.t rfl) .nil))
      · refine ⟨?_, ?_, ?_, ?_, ?_, ?_, ?_, trivial⟩
        · exact .inl ⟨(Nat.le_of_ble_eq_true rfl), _, rfl, AObj.leSame (by first | rfl | exact hb _ (Nat.le_of_ble_eq_true rfl) | exact hob _ (Nat.le_of_ble_eq_true rfl) | (refine open_bd ?_ _ _; exact Nat.le_of_ble_eq_true rfl) | exact pls_bd _ _ | (refine gE_bd ?_ _; exact Nat.le_of_ble_eq_true rfl))⟩
        · exact .inl ⟨Nat.le_of_ble_eq_true rfl, _, rfl, .cells (.cons .t (.cons (.same rfl) (.cons .t (.cons (.tEq (by simp)) .nil))))⟩
        · exact .inl ⟨(Nat.le_of_ble_eq_true rfl), _, rfl, AObj.leSame (by first | rfl | exact hb _ (Nat.le_of_ble_eq_true rfl) | exact hob _ (Nat.le_of_ble_eq_true rfl) | (refine open_bd ?_ _ _; exact Nat.le_of_ble_eq_true rfl) | exact pls_bd _ _ | (refine gE_bd ?_ _; exact Nat.le_of_ble_eq_true rfl))⟩
        · exact .inl ⟨Nat.le_of_ble_eq_true rfl, _, rfl, .cells (.cons (.ownEq (by simp) (Nat.le_of_ble_eq_true rfl)) (.cons (.same rfl) (.cons .t (.cons (.same rfl) .nil))))⟩
        · exact .inl ⟨(Nat.le_of_ble_eq_true rfl), _, rfl, AObj.leSame (by first | rfl | exact hb _ (Nat.le_of_ble_eq_true rfl) | exact hob _ (Nat.le_of_ble_eq_true rfl) | (refine open_bd ?_ _ _; exact Nat.le_of_ble_eq_true rfl) | exact pls_bd _ _ | (refine gE_bd ?_ _; exact Nat.le_of_ble_eq_true rfl))⟩
        · exact .inl ⟨(Nat.le_of_ble_eq_true rfl), _, rfl, AObj.leSame (by first | rfl | exact hb _ (Nat.le_of_ble_eq_true rfl) | exact hob _ (Nat.le_of_ble_eq_true rfl) | (refine open_bd ?_ _ _; exact Nat.le_of_ble_eq_true rfl) | exact pls_bd _ _ | (refine gE_bd ?_ _; exact Nat.le_of_ble_eq_true rfl))⟩
        · exact .inl ⟨Nat.le_of_ble_eq_true rfl, _, rfl, .arr (by simp)⟩
    · rw [if_neg hsm] at hinv
      refine Run.condF rfl rfl (by simpa using hsm) ?_
      refine fR rfl ?_
      refine aL rfl rfl rfl rfl rfl ?_
      refine fM rfl ?_
      have hi2 : fnd ps v = Option.map (fun y => y + (x + 1)) (fnd (ps.drop (x + 1)) v) := by
        rw [hinv, Option.map_map]; congr 1; funext y; simp; omega
      exact rWeak 10 rfl (ih () hi2) rfl rfl rfl (he := (by repeat' (first | exact trivial | exact LeX.t | exact LeX.top | exact LeX.nilOwn (Nat.le_of_ble_eq_true rfl) (Nat.le_of_ble_eq_true rfl) | exact LeX.ownT | exact LeX.nilT | exact LeX.same rfl | exact LeX.tEq (by simp) | exact LeX.ownEq (by simp) (Nat.le_of_ble_eq_true rfl) | exact LeX.tEq (by congr 1 <;> omega) | exact Or.inr ⟨Nat.le_of_ble_eq_true rfl, Nat.le_of_ble_eq_true rfl, rfl⟩ | refine Or.inl ⟨Nat.le_of_ble_eq_true rfl, _, rfl, ?_⟩ | refine LeO.cells ?_ | exact LeO.arr rfl | exact LeO.arr (by simp) | exact LeO.mE (by first | rfl | simp) (by first | exact Or.inl rfl | exact Or.inr rfl) | exact LeO.cE (by first | rfl | simp) | exact LeXs.cE (by first | rfl | simp) | refine LeO.map (by first | rfl | simp) ?_ (by first | exact Or.inl rfl | exact Or.inr rfl) | exact LeO.iter (by first | rfl | simp) (Nat.le_of_ble_eq_true rfl) | refine LeXs.cons ?_ ?_ | exact LeXs.nil | refine And.intro ?_ ?_))) (hs := (by repeat' (first | exact trivial | refine And.intro ?_ ?_ | exact Or.inr ⟨Nat.le_of_ble_eq_true rfl, Nat.le_of_ble_eq_true rfl, rfl⟩ | exact Or.inl ⟨(Nat.le_of_ble_eq_true rfl), _, rfl, AObj.leSame (by first | rfl | exact hb _ (Nat.le_of_ble_eq_true rfl) | exact hob _ (Nat.le_of_ble_eq_true rfl) | (refine open_bd ?_ _ _; exact Nat.le_of_ble_eq_true rfl) | exact pls_bd _ _ | (refine gE_bd ?_ _; exact Nat.le_of_ble_eq_true rfl))⟩)))
end Go.GB.C35


/-
  L35J: chapter 35: the next batch.
-/
namespace Go.GB.C35
open Go.GB
set_option linter.unusedSimpArgs false
set_option linter.unusedVariables false
set_option maxRecDepth 100000
set_option maxHeartbeats 8000000
variable {P : Program}
def opF (F nx j : Nat) : List T × V := ([.int .i64 (j : Int)], .fpt F (nx + j) 0)
def openE (F nx n : Nat) : List (List T × V) := (List.range n).map (opF F nx)
theorem open_len (F nx n : Nat) : (openE F nx n).length = n := by simp [openE]
theorem open_keys (F nx n : Nat) : keysOk [.int .i64] (openE F nx n) = true := by
  simp [openE, keysOk, opF, keyOk, KSh.ok]
theorem keyI (a b : Nat) : keyEq [.int .i64 (a : Int)] [.int .i64 (b : Int)] = decide (a = b) := by
  simp only [keyEq, T.eqb, Bool.and_true]
  by_cases h : a = b
  · subst h; simp
  · simp [h]; omega
theorem mset_opF (F nx n : Nat) : ∀ (l : List Nat), n ∉ l → mset [.int .i64 (n : Int)] (.fpt F (nx + n) 0) (l.map (opF F nx)) = l.map (opF F nx) ++ [opF F nx n]
  | [], _ => rfl
  | x :: r, h => by
    have h1 : n ≠ x := fun e => h (by simp [e])
    have ih := mset_opF F nx n r (fun e => h (by simp [e]))
    simp only [List.map_cons, mset, opF, keyI, h1, decide_false, if_false, Bool.false_eq_true, List.cons_append]
    simp only [opF] at ih
    rw [ih]
theorem mset_open (F nx n : Nat) : mset [.int .i64 (n : Int)] (.fpt F (nx + n) 0) (openE F nx n) = openE F nx (n + 1) := by
  unfold openE
  rw [mset_opF F nx n _ (by simp), List.range_succ, List.map_append]; rfl
theorem mget_opF (F nx n : Nat) : ∀ (l : List Nat), n ∈ l → mget [.int .i64 (n : Int)] (l.map (opF F nx)) = some (.fpt F (nx + n) 0)
  | [], h => by simp at h
  | x :: r, h => by
    simp only [List.map_cons, mget, opF, keyI]
    by_cases h1 : n = x
    · subst h1; simp
    · have ih := mget_opF F nx n r (by simpa [h1] using h)
      simp [h1, ih]
theorem mget_open {F nx n j : Nat} (h : j < n) : mget [.int .i64 (j : Int)] (openE F nx n) = some (.fpt F (nx + j) 0) := mget_opF F nx j _ (by simpa using h)
theorem open_bd {k : Nat} {F : Nat} (h : F < k) (nx n : Nat) : V.bds k ((openE F nx n).map (·.2)) = true := by
  unfold openE
  generalize List.range n = l
  induction l with
  | nil => rfl
  | cons x r ih => simp [opF, V.bds, V.bd, h]; simpa [Function.comp_def, opF] using ih
def batch (m : Int) (nx : Nat) (ps : List Pl) : Nat := min m.toNat (ps.length - nx)
def reps (nx k : Nat) (ps : List Pl) : List Val := ((ps.drop nx).take k).map Pl.rep
theorem reps_at {nx k i : Nat} {ps : List Pl} {v : Val} (h : (reps nx k ps)[i]? = some v) : ∃ p, ps[nx + i]? = some p ∧ p.rep = v ∧ i < k := by
  simp only [reps, List.getElem?_map, Option.map_eq_some_iff] at h
  obtain ⟨p, h1, h2⟩ := h
  rw [List.getElem?_take] at h1
  split at h1
  · rw [List.getElem?_drop] at h1; exact ⟨p, h1, h2, by assumption⟩
  · cases h1
theorem next_ok (H : Pr P) (m c s f : Int) (nx : Nat) (tk : List Int) (ps : List Pl) (es : List (List T × V)) (hc : 0 ≤ c ∧ c < 1000000) (hm : 1 ≤ m ∧ m ≤ 1024) (hpl : ps.length < 1000000) (hnx : nx ≤ ps.length) (hpo : ∀ p, p ∈ ps → p.Ok) (hk : keysOk [.int .i64] es = true) (hg : mget [.int .i64 f] es = some (.ptr 4 0)) (hb : ∀ k, 9 ≤ k → V.bds k (es.map (·.2)) = true) : FnOk P 17 [.ptr 1 0, .t (.int .i64 f)] ⟨[(0, .map false es none), (1, .cells [.t (.int .i64 m), .mp 0, .t (.int .i64 c), .t (.int .i64 s)]), (3, .map false [] none), (4, .cells [.own 8 1 (tk.map nE), .gsl 7 (pl ps).length 0 (pl ps).length 1, .t (.int .i64 nx), .mp 3]), (5, .fobs (ps.map Pl.cs)), (7, .gro (pl ps).length (gE (pE 5) (pl ps))), (8, .arr tk.length)], 9⟩ { v := .tup [.t (.lst ((reps nx (batch m nx ps) ps).map Val.enc)), .t (.bool (decide (nx < ps.length)))], ob := [(1, .cells [.t (.int .i64 m), .mp 0, .t (.int .i64 (c + if nx < ps.length then 1 else 0)), .t (.int .i64 s)]), (3, .map false (openE 5 nx (batch m nx ps)) none), (4, .cells [.own 8 1 (tk.map nE), .gsl 7 (pl ps).length 0 (pl ps).length 1, .t (.int .i64 (nx + batch m nx ps : Nat)), .mp 3])], n := 0, rd := true } := by
  have hsa : stoBd 9 [(0, .map false es none), (1, .cells [.t (.int .i64 m), .mp 0, .t (.int .i64 c), .t (.int .i64 s)]), (3, .map false [] none), (4, .cells [.own 8 1 (tk.map nE), .gsl 7 (pl ps).length 0 (pl ps).length 1, .t (.int .i64 nx), .mp 3]), (5, .fobs (ps.map Pl.cs)), (7, .gro (pl ps).length (gE (pE 5) (pl ps))), (8, .arr tk.length)] = true := (by repeat' (first | exact (rfl : stoBd _ [] = true) | refine stoBd_cons (Nat.le_of_ble_eq_true rfl) ?_ ?_ | exact (by first | rfl | exact hb _ (Nat.le_of_ble_eq_true rfl) | exact hob _ (Nat.le_of_ble_eq_true rfl) | (refine open_bd ?_ _ _; exact Nat.le_of_ble_eq_true rfl) | exact pls_bd _ _ | (refine gE_bd ?_ _; exact Nat.le_of_ble_eq_true rfl))))
  generalize hk0 : batch m nx ps = k
  have hk1 : k ≤ m := by simp only [batch] at hk0; omega
  have hk2 : nx + k ≤ ps.length := by simp only [batch] at hk0; omega
  have hk3 : k = m ∨ nx + k = ps.length := by simp only [batch] at hk0; omega
  refine FnOk.run H.i17 H.mixed rfl rfl ?_
  refine fR rfl ?_
  refine Mid.callS (none_ga H m c s _ _ hsa) rfl rfl hsa rfl ?_
  refine fM rfl ?_
  refine Mid.lookVG (gc := true) (.ptr 4 0) rfl rfl rfl rfl rfl hk (by rw [hg]; rfl) ⟨rfl, trivial⟩ ⟨rfl, trivial⟩ rfl ?_
  refine fM rfl ?_
  refine Run.condF rfl rfl rfl ?_
  refine fR rfl ?_
  refine Mid.lookV (.ptr 4 0) rfl rfl rfl rfl hk (by rw [hg]; rfl) rfl ?_
  refine fM rfl ?_
  refine Mid.lenmV 0 rfl rfl rfl rfl ?_
  refine fM rfl ?_
  refine Run.condT rfl rfl rfl ?_
  skip
  refine rList (List.range k) (fun i (_ : Unit) => { env := [(0, .ptr 1 0), (6, .ptr 4 0)], s := ⟨[(0, .map false es none), (1, .cells [.t (.int .i64 m), .mp 0, .t (.int .i64 c), .t (.int .i64 s)]), (3, .map false (openE 5 nx i) none), (4, .cells [.own 8 1 (tk.map nE), .gsl 7 (pl ps).length 0 (pl ps).length 1, .t (.int .i64 (nx + i : Nat)), .mp 3]), (5, .fobs (ps.map Pl.cs)), (7, .gro (pl ps).length (gE (pE 5) (pl ps))), (8, .arr tk.length)], 9⟩ }) (fun r i _ => True) 9 () rfl trivial rfl rfl rfl ?_ ?_ (he := (by repeat' (first | exact trivial | exact LeX.t | exact LeX.top | exact LeX.nilOwn (Nat.le_of_ble_eq_true rfl) (Nat.le_of_ble_eq_true rfl) | exact LeX.ownT | exact LeX.nilT | exact LeX.same rfl | exact LeX.tEq (by simp) | exact LeX.ownEq (by simp) (Nat.le_of_ble_eq_true rfl) | exact LeX.tEq (by congr 1 <;> omega) | exact Or.inr ⟨Nat.le_of_ble_eq_true rfl, Nat.le_of_ble_eq_true rfl, rfl⟩ | refine Or.inl ⟨Nat.le_of_ble_eq_true rfl, _, rfl, ?_⟩ | refine LeO.cells ?_ | exact LeO.arr rfl | exact LeO.arr (by simp) | exact LeO.mE (by first | rfl | simp) (by first | exact Or.inl rfl | exact Or.inr rfl) | exact LeO.cE (by first | rfl | simp) | exact LeXs.cE (by first | rfl | simp) | refine LeO.map (by first | rfl | simp) ?_ (by first | exact Or.inl rfl | exact Or.inr rfl) | exact LeO.iter (by first | rfl | simp) (Nat.le_of_ble_eq_true rfl) | refine LeXs.cons ?_ ?_ | exact LeXs.nil | refine And.intro ?_ ?_))) (hs := (by repeat' (first | exact trivial | refine And.intro ?_ ?_ | exact Or.inr ⟨Nat.le_of_ble_eq_true rfl, Nat.le_of_ble_eq_true rfl, rfl⟩ | exact Or.inl ⟨(Nat.le_of_ble_eq_true rfl), _, rfl, AObj.leSame (by first | rfl | exact hb _ (Nat.le_of_ble_eq_true rfl) | exact hob _ (Nat.le_of_ble_eq_true rfl) | (refine open_bd ?_ _ _; exact Nat.le_of_ble_eq_true rfl) | exact pls_bd _ _ | (refine gE_bd ?_ _; exact Nat.le_of_ble_eq_true rfl))⟩)))
  · intro _ hinv
    rw [List.length_range]
    refine fR rfl ?_
    refine Mid.lenmV k rfl rfl (open_len _ _ _) rfl ?_
    refine fM rfl ?_
    refine gr rfl ?_
    refine fM rfl ?_
    refine Run.condF rfl rfl (by simp [pl_length]; intro _; omega) ?_
    refine fR rfl ?_
    refine Mid.lenmV k rfl rfl (open_len _ _ _) rfl ?_
    refine fM rfl ?_
    by_cases hk9 : k = 0
    · refine Run.condT rfl rfl (by simp; omega) ?_
      refine fR rfl ?_
      have hn : nx = ps.length := by omega
      refine Run.fin rfl (EndOk.chg rfl rfl ?_ ?_)
      · exact .tup (.cons (.nil (by subst hk9; simp [reps])) (.cons (.t (by simp [hn])) .nil))
      · refine ⟨?_, ?_, ?_, ?_, ?_, ?_, ?_, trivial⟩
        · exact .inl ⟨(Nat.le_of_ble_eq_true rfl), _, rfl, AObj.leSame (by first | rfl | exact hb _ (Nat.le_of_ble_eq_true rfl) | exact hob _ (Nat.le_of_ble_eq_true rfl) | (refine open_bd ?_ _ _; exact Nat.le_of_ble_eq_true rfl) | exact pls_bd _ _ | (refine gE_bd ?_ _; exact Nat.le_of_ble_eq_true rfl))⟩
        · exact .inl ⟨Nat.le_of_ble_eq_true rfl, _, rfl, .cells (.cons .t (.cons (.same rfl) (.cons (.tEq (by simp [hn])) (.cons .t .nil))))⟩
        · exact .inl ⟨(Nat.le_of_ble_eq_true rfl), _, rfl, AObj.leSame (by first | rfl | exact hb _ (Nat.le_of_ble_eq_true rfl) | exact hob _ (Nat.le_of_ble_eq_true rfl) | (refine open_bd ?_ _ _; exact Nat.le_of_ble_eq_true rfl) | exact pls_bd _ _ | (refine gE_bd ?_ _; exact Nat.le_of_ble_eq_true rfl))⟩
        · exact .inl ⟨(Nat.le_of_ble_eq_true rfl), _, rfl, AObj.leSame (by first | rfl | exact hb _ (Nat.le_of_ble_eq_true rfl) | exact hob _ (Nat.le_of_ble_eq_true rfl) | (refine open_bd ?_ _ _; exact Nat.le_of_ble_eq_true rfl) | exact pls_bd _ _ | (refine gE_bd ?_ _; exact Nat.le_of_ble_eq_true rfl))⟩
        · exact .inl ⟨(Nat.le_of_ble_eq_true rfl), _, rfl, AObj.leSame (by first | rfl | exact hb _ (Nat.le_of_ble_eq_true rfl) | exact hob _ (Nat.le_of_ble_eq_true rfl) | (refine open_bd ?_ _ _; exact Nat.le_of_ble_eq_true rfl) | exact pls_bd _ _ | (refine gE_bd ?_ _; exact Nat.le_of_ble_eq_true rfl))⟩
        · exact .inl ⟨(Nat.le_of_ble_eq_true rfl), _, rfl, AObj.leSame (by first | rfl | exact hb _ (Nat.le_of_ble_eq_true rfl) | exact hob _ (Nat.le_of_ble_eq_true rfl) | (refine open_bd ?_ _ _; exact Nat.le_of_ble_eq_true rfl) | exact pls_bd _ _ | (refine gE_bd ?_ _; exact Nat.le_of_ble_eq_true rfl))⟩
        · exact .inl ⟨(Nat.le_of_ble_eq_true rfl), _, rfl, AObj.leSame (by first | rfl | exact hb _ (Nat.le_of_ble_eq_true rfl) | exact hob _ (Nat.le_of_ble_eq_true rfl) | (refine open_bd ?_ _ _; exact Nat.le_of_ble_eq_true rfl) | exact pls_bd _ _ | (refine gE_bd ?_ _; exact Nat.le_of_ble_eq_true rfl))⟩
    · have hl : (reps nx k ps).length = k := by simp [reps]; omega
      have hlt : nx < ps.length := by omega
      refine Run.condF rfl rfl (by simp; omega) ?_
      refine fR rfl ?_
      refine a64 rfl rfl rfl ?_
      refine fM rfl ?_
      refine Mid.lenmV k rfl rfl (open_len _ _ _) rfl ?_
      refine fM rfl ?_
      refine rList (reps nx k ps) (fun i (B : List Val) => { env := [(6, .ptr 4 0), (7, .own 9 5 (B.map Val.enc)), (97, .t (.int .i64 k)), (98, .t (.int .i64 i))], s := ⟨[(0, .map false es none), (1, .cells [.t (.int .i64 m), .mp 0, .t (.int .i64 (c + 1)), .t (.int .i64 s)]), (3, .map false (openE 5 nx k) none), (4, .cells [.own 8 1 (tk.map nE), .gsl 7 (pl ps).length 0 (pl ps).length 1, .t (.int .i64 (nx + k : Nat)), .mp 3]), (5, .fobs (ps.map Pl.cs)), (7, .gro (pl ps).length (gE (pE 5) (pl ps))), (8, .arr tk.length), (9, .arr B.length)], 10⟩ }) (fun r i B => B.length = i ∧ B ++ r = reps nx k ps) 9 [] rfl ⟨rfl, rfl⟩ rfl rfl rfl ?_ ?_ (hs := (by repeat' (first | exact trivial | refine And.intro ?_ ?_ | exact Or.inr ⟨Nat.le_of_ble_eq_true rfl, Nat.le_of_ble_eq_true rfl, rfl⟩ | exact Or.inl ⟨(Nat.le_of_ble_eq_true rfl), _, rfl, AObj.leSame (by first | rfl | exact hb _ (Nat.le_of_ble_eq_true rfl) | exact hob _ (Nat.le_of_ble_eq_true rfl) | (refine open_bd ?_ _ _; exact Nat.le_of_ble_eq_true rfl) | exact pls_bd _ _ | (refine gE_bd ?_ _; exact Nat.le_of_ble_eq_true rfl))⟩)))
      · rintro B ⟨hBl, hB⟩
        have e : B = reps nx k ps := by rw [← hB]; simp
        refine fR rfl ?_
        refine Run.condF rfl rfl (by simp; omega) ?_
        refine fR rfl ?_
        refine Run.fin rfl (EndOk.chg rfl rfl ?_ ?_)
        · exact .tup (.cons (.own (by rw [e])) (.cons (.t (by simp [hlt])) .nil))
        · refine ⟨?_, ?_, ?_, ?_, ?_, ?_, ?_, trivial⟩
          · exact .inl ⟨(Nat.le_of_ble_eq_true rfl), _, rfl, AObj.leSame (by first | rfl | exact hb _ (Nat.le_of_ble_eq_true rfl) | exact hob _ (Nat.le_of_ble_eq_true rfl) | (refine open_bd ?_ _ _; exact Nat.le_of_ble_eq_true rfl) | exact pls_bd _ _ | (refine gE_bd ?_ _; exact Nat.le_of_ble_eq_true rfl))⟩
          · exact .inl ⟨Nat.le_of_ble_eq_true rfl, _, rfl, .cells (.cons .t (.cons (.same rfl) (.cons (.tEq (by simp [hlt])) (.cons .t .nil))))⟩
          · exact .inl ⟨(Nat.le_of_ble_eq_true rfl), _, rfl, AObj.leSame (by first | rfl | exact hb _ (Nat.le_of_ble_eq_true rfl) | exact hob _ (Nat.le_of_ble_eq_true rfl) | (refine open_bd ?_ _ _; exact Nat.le_of_ble_eq_true rfl) | exact pls_bd _ _ | (refine gE_bd ?_ _; exact Nat.le_of_ble_eq_true rfl))⟩
          · exact .inl ⟨(Nat.le_of_ble_eq_true rfl), _, rfl, AObj.leSame (by first | rfl | exact hb _ (Nat.le_of_ble_eq_true rfl) | exact hob _ (Nat.le_of_ble_eq_true rfl) | (refine open_bd ?_ _ _; exact Nat.le_of_ble_eq_true rfl) | exact pls_bd _ _ | (refine gE_bd ?_ _; exact Nat.le_of_ble_eq_true rfl))⟩
          · exact .inl ⟨(Nat.le_of_ble_eq_true rfl), _, rfl, AObj.leSame (by first | rfl | exact hb _ (Nat.le_of_ble_eq_true rfl) | exact hob _ (Nat.le_of_ble_eq_true rfl) | (refine open_bd ?_ _ _; exact Nat.le_of_ble_eq_true rfl) | exact pls_bd _ _ | (refine gE_bd ?_ _; exact Nat.le_of_ble_eq_true rfl))⟩
          · exact .inl ⟨(Nat.le_of_ble_eq_true rfl), _, rfl, AObj.leSame (by first | rfl | exact hb _ (Nat.le_of_ble_eq_true rfl) | exact hob _ (Nat.le_of_ble_eq_true rfl) | (refine open_bd ?_ _ _; exact Nat.le_of_ble_eq_true rfl) | exact pls_bd _ _ | (refine gE_bd ?_ _; exact Nat.le_of_ble_eq_true rfl))⟩
          · exact .inl ⟨(Nat.le_of_ble_eq_true rfl), _, rfl, AObj.leSame (by first | rfl | exact hb _ (Nat.le_of_ble_eq_true rfl) | exact hob _ (Nat.le_of_ble_eq_true rfl) | (refine open_bd ?_ _ _; exact Nat.le_of_ble_eq_true rfl) | exact pls_bd _ _ | (refine gE_bd ?_ _; exact Nat.le_of_ble_eq_true rfl))⟩
      · rintro i v r B h1 hi hd ⟨hBl, hB⟩ ih
        have hBl' : B.length = i := hBl
        obtain ⟨p, hp, rfl, hik⟩ := reps_at h1
        have hpk := hpo p (List.mem_of_getElem? hp)
        have hpc : (ps.map Pl.cs)[nx + i]? = some p.cs := by simp [hp]
        refine fR rfl ?_
        refine Run.condT rfl rfl (by simp; omega) ?_
        refine fR rfl ?_
        refine Mid.lookV (.fpt 5 (nx + i) 0) rfl rfl rfl rfl (open_keys _ _ _) (by rw [mget_open hik]; rfl) rfl ?_
        refine Mid.fast (f := 2) rfl (by (repeat' (first | exact trivial | exact Bool.not_or_self _ | exact grd1 _ | exact grd2 _ | exact grd3 _ _ | exact grd4 _ _ | refine And.intro ?_ ?_ | exact rfl | (simp; done) | (simp <;> omega))); done) ?_
        refine Mid.ldFA (cs := p.cs) rfl rfl hpc (by simp [Pl.cs]) rfl rfl ?_
        skip
        refine Mid.call (copy_ok H p.rep hpk.r) rfl rfl rfl rfl ?_
        refine fM rfl ?_
        refine apM Val.enc B [p.rep] rfl (congrArg (fun c => some (T.lst [c])) (Val.enc_eq p.rep).symm) rfl rfl rfl ?_ (hl := fun x => (congrArg List.length (Val.enc_eq x)).trans rfl)
        refine fM rfl ?_
        refine aL rfl rfl rfl rfl rfl ?_
        refine fM rfl ?_
        exact rWeak 10 rfl (ih (B ++ [p.rep]) ⟨by simp; omega, by rw [← hB]; simp⟩) rfl rfl rfl (hs := (by repeat' (first | exact trivial | refine And.intro ?_ ?_ | exact Or.inl ⟨(Nat.le_of_ble_eq_true rfl), _, rfl, LeO.arr (by simp)⟩ | exact Or.inr ⟨Nat.le_of_ble_eq_true rfl, Nat.le_of_ble_eq_true rfl, rfl⟩ | exact Or.inl ⟨(Nat.le_of_ble_eq_true rfl), _, rfl, AObj.leSame (by first | rfl | exact hb _ (Nat.le_of_ble_eq_true rfl) | exact hob _ (Nat.le_of_ble_eq_true rfl) | (refine open_bd ?_ _ _; exact Nat.le_of_ble_eq_true rfl) | exact pls_bd _ _ | (refine gE_bd ?_ _; exact Nat.le_of_ble_eq_true rfl))⟩)))
  · intro i x r _ g1 gi gd hinv ih
    obtain ⟨rfl, _⟩ : x = i ∧ i < k := by
      obtain ⟨h1, h2⟩ := List.getElem?_eq_some_iff.1 g1
      simp only [List.getElem_range] at h2
      exact ⟨h2.symm, by simpa using h1⟩
    have hpos : 0 < (pl ps).length := by rw [pl_length]; omega
    have hix : nx + x < (pl ps).length := by rw [pl_length]; omega
    refine fR rfl ?_
    refine Mid.lenmV x rfl rfl (open_len _ _ _) rfl ?_
    refine fM rfl ?_
    refine gr rfl ?_
    refine fM rfl ?_
    refine Run.condT rfl rfl (by simp [pl_length]; omega) ?_
    refine fR rfl ?_
    refine Mid.lenmV x rfl rfl (open_len _ _ _) rfl ?_
    refine fM rfl ?_
    refine pu rfl ?_
    refine Mid.ldG ((nx + x)) 0 (sz := 1) rfl rfl (by omega) (by omega) (fun _ => rfl) (pl_some (by omega)) rfl rfl ?_
    skip
    refine Mid.mapV (es' := openE 5 nx (x + 1)) rfl rfl rfl (open_keys _ _ _) (mset_open _ _ _) rfl ?_
    refine fM rfl ?_
    refine aL rfl rfl rfl rfl rfl ?_
    refine fM rfl ?_
    exact rWeak 9 rfl (ih () trivial) rfl rfl rfl (he := (by repeat' (first | exact trivial | exact LeX.t | exact LeX.top | exact LeX.nilOwn (Nat.le_of_ble_eq_true rfl) (Nat.le_of_ble_eq_true rfl) | exact LeX.ownT | exact LeX.nilT | exact LeX.same rfl | exact LeX.tEq (by simp) | exact LeX.ownEq (by simp) (Nat.le_of_ble_eq_true rfl) | exact LeX.tEq (by congr 1 <;> omega) | exact Or.inr ⟨Nat.le_of_ble_eq_true rfl, Nat.le_of_ble_eq_true rfl, rfl⟩ | refine Or.inl ⟨Nat.le_of_ble_eq_true rfl, _, rfl, ?_⟩ | refine LeO.cells ?_ | exact LeO.arr rfl | exact LeO.arr (by simp) | exact LeO.mE (by first | rfl | simp) (by first | exact Or.inl rfl | exact Or.inr rfl) | exact LeO.cE (by first | rfl | simp) | exact LeXs.cE (by first | rfl | simp) | refine LeO.map (by first | rfl | simp) ?_ (by first | exact Or.inl rfl | exact Or.inr rfl) | exact LeO.iter (by first | rfl | simp) (Nat.le_of_ble_eq_true rfl) | refine LeXs.cons ?_ ?_ | exact LeXs.nil | refine And.intro ?_ ?_))) (hs := (by repeat' (first | exact trivial | refine And.intro ?_ ?_ | exact Or.inr ⟨Nat.le_of_ble_eq_true rfl, Nat.le_of_ble_eq_true rfl, rfl⟩ | exact Or.inl ⟨(Nat.le_of_ble_eq_true rfl), _, rfl, AObj.leSame (by first | rfl | exact hb _ (Nat.le_of_ble_eq_true rfl) | exact hob _ (Nat.le_of_ble_eq_true rfl) | (refine open_bd ?_ _ _; exact Nat.le_of_ble_eq_true rfl) | exact pls_bd _ _ | (refine gE_bd ?_ _; exact Nat.le_of_ble_eq_true rfl))⟩)))
end Go.GB.C35


/-
  L35K: chapter 35: the results of a batch.
-/
namespace Go.GB.C35
open Go.GB
set_option linter.unusedSimpArgs false
set_option linter.unusedVariables false
set_option maxRecDepth 100000
set_option maxHeartbeats 8000000
variable {P : Program}
def upd (ps : List Pl) (i : Nat) (v : Val) : List Pl := ps.modify i fun p => ⟨p.rep, v, true⟩
def setR : List Pl → Nat → List Val → List Pl
  | ps, _, [] => ps
  | ps, i, v :: r => setR (upd ps i v) (i + 1) r
theorem pl_upd (ps : List Pl) (i : Nat) (v : Val) : pl (upd ps i v) = pl ps := by simp [pl, upd]
theorem pl_setR : ∀ (rs : List Val) (ps : List Pl) (i : Nat), pl (setR ps i rs) = pl ps
  | [], _, _ => rfl
  | v :: r, ps, i => by simp only [setR]; rw [pl_setR r, pl_upd]
theorem upd_ok {ps : List Pl} {i : Nat} {v : Val} (hv : v.Ok) (h : ∀ p, p ∈ ps → p.Ok) : ∀ p, p ∈ upd ps i v → p.Ok := by
  intro p hp
  obtain ⟨j, hj⟩ := List.getElem?_of_mem hp
  simp only [upd, List.getElem?_modify] at hj
  cases hq : ps[j]? with
  | none => rw [hq] at hj; simp at hj
  | some q =>
    rw [hq] at hj
    have hqk := h q (List.mem_of_getElem? hq)
    simp only [Option.map_eq_map, Option.map_some, Option.some.injEq] at hj
    split at hj
    · subst hj; exact ⟨hqk.r, hv⟩
    · subst hj; exact hqk
theorem upd_cs {ps : List Pl} {i : Nat} {v : Val} {p : Pl} {x y : List V} (h : ps[i]? = some p) (hy : y = (Pl.mk p.rep v true).cs) : ((ps.map Pl.cs).set i x).set i y = (upd ps i v).map Pl.cs := by
  subst hy
  rw [List.set_set]
  apply List.ext_getElem?
  intro j
  simp only [upd, List.getElem?_map, List.getElem?_modify, List.getElem?_set, List.length_map]
  by_cases hj : i = j
  · subst hj
    obtain ⟨this, rfl⟩ := List.getElem?_eq_some_iff.1 h
    simp [this]
  · simp [hj]
theorem updLe {m m' : Nat} {ps : List Pl} {i : Nat} {v : Val} {p : Pl} {x y : List V} (h : ps[i]? = some p) (hy : y = (Pl.mk p.rep v true).cs) : LeO m m' (.fobs (((ps.map Pl.cs).set i x).set i y)) (.fobs ((upd ps i v).map Pl.cs)) := by
  rw [upd_cs h hy]; exact AObj.leSame (pls_bd _ _)
theorem done_ok (H : Pr P) (m c s f : Int) (nx lo : Nat) (tk : List Int) (ps : List Pl) (rs : List Val) (es : List (List T × V)) (hr0 : 0 < rs.length) (hrs : ∀ v, v ∈ rs → v.Ok) (hrl : rs.length < 1000000) (hpl : ps.length < 1000000) (hlo : lo + rs.length ≤ ps.length) (hpo : ∀ p, p ∈ ps → p.Ok) (hk : keysOk [.int .i64] es = true) (hg : mget [.int .i64 f] es = some (.ptr 4 0)) (hb : ∀ k, 9 ≤ k → V.bds k (es.map (·.2)) = true) : FnOk P 18 [.ptr 1 0, .t (.int .i64 f), .t (.lst (rs.map Val.enc))] ⟨[(0, .map false es none), (1, .cells [.t (.int .i64 m), .mp 0, .t (.int .i64 c), .t (.int .i64 s)]), (3, .map false (openE 5 lo rs.length) none), (4, .cells [.own 8 1 (tk.map nE), .gsl 7 (pl ps).length 0 (pl ps).length 1, .t (.int .i64 nx), .mp 3]), (5, .fobs (ps.map Pl.cs)), (7, .gro (pl ps).length (gE (pE 5) (pl ps))), (8, .arr tk.length)], 9⟩ { v := .t (.int .i64 0), ob := [(3, .map false [] none), (4, .cells [.own 8 1 (tk.map nE), .gsl 7 (pl (setR ps lo rs)).length 0 (pl (setR ps lo rs)).length 1, .t (.int .i64 (nx : Nat)), .mp 3]), (5, .fobs ((setR ps lo rs).map Pl.cs)), (7, .gro (pl (setR ps lo rs)).length (gE (pE 5) (pl (setR ps lo rs))))], n := 0, rd := true } := by
  have hsa : stoBd 9 [(0, .map false es none), (1, .cells [.t (.int .i64 m), .mp 0, .t (.int .i64 c), .t (.int .i64 s)]), (3, .map false (openE 5 lo rs.length) none), (4, .cells [.own 8 1 (tk.map nE), .gsl 7 (pl ps).length 0 (pl ps).length 1, .t (.int .i64 nx), .mp 3]), (5, .fobs (ps.map Pl.cs)), (7, .gro (pl ps).length (gE (pE 5) (pl ps))), (8, .arr tk.length)] = true := (by repeat' (first | exact (rfl : stoBd _ [] = true) | refine stoBd_cons (Nat.le_of_ble_eq_true rfl) ?_ ?_ | exact (by first | rfl | exact hb _ (Nat.le_of_ble_eq_true rfl) | exact hob _ (Nat.le_of_ble_eq_true rfl) | (refine open_bd ?_ _ _; exact Nat.le_of_ble_eq_true rfl) | exact pls_bd _ _ | (refine gE_bd ?_ _; exact Nat.le_of_ble_eq_true rfl))))
  have hne : rs ≠ [] := by rintro rfl; simp at hr0
  refine FnOk.run H.i18 H.mixed rfl rfl ?_
  refine fR rfl ?_
  refine Mid.callS (none_ga H m c s _ _ hsa) rfl rfl hsa rfl ?_
  refine fM rfl ?_
  refine Run.condF rfl rfl rfl ?_
  refine fR rfl ?_
  refine Mid.lookV (.ptr 4 0) rfl rfl rfl rfl hk (by rw [hg]; rfl) rfl ?_
  refine fM rfl ?_
  refine Mid.lookVG (gc := true) (.ptr 4 0) rfl rfl rfl rfl rfl hk (by rw [hg]; rfl) ⟨rfl, trivial⟩ ⟨rfl, trivial⟩ rfl ?_
  refine fM rfl ?_
  refine Mid.ungd rfl rfl rfl ?_
  refine Mid.lenmV rs.length rfl rfl (open_len _ _ _) rfl ?_
  refine fM rfl ?_
  refine Run.condF rfl rfl (by simp [hne]) ?_
  refine fR rfl ?_
  refine Mid.lookV (.ptr 4 0) rfl rfl rfl rfl hk (by rw [hg]; rfl) rfl ?_
  refine fM rfl ?_
  refine lM rfl rfl rfl ?_
  refine fM rfl ?_
  refine Mid.lenmV rs.length rfl rfl (open_len _ _ _) rfl ?_
  refine fM rfl ?_
  refine Run.condF rfl rfl (by simp) ?_
  refine fR rfl ?_
  refine lM rfl rfl rfl ?_
  refine fM rfl ?_
  refine rList rs (fun i (B : List Pl) => { env := [(7, .ptr 4 0), (48, .t (.lst (rs.map Val.enc))), (49, .t (.int .i64 rs.length)), (50, .t (.int .i64 i))], s := ⟨[(0, .map false es none), (1, .cells [.t (.int .i64 m), .mp 0, .t (.int .i64 c), .t (.int .i64 s)]), (3, .map false (openE 5 lo rs.length) none), (4, .cells [.own 8 1 (tk.map nE), .gsl 7 (pl ps).length 0 (pl ps).length 1, .t (.int .i64 nx), .mp 3]), (5, .fobs (B.map Pl.cs)), (7, .gro (pl ps).length (gE (pE 5) (pl ps))), (8, .arr tk.length)], 9⟩ }) (fun r i B => setR B (lo + i) r = setR ps lo rs ∧ pl B = pl ps ∧ ∀ p, p ∈ B → p.Ok) 9 ps rfl ⟨rfl, rfl, hpo⟩ rfl rfl rfl ?_ ?_ (he := (by repeat' (first | exact trivial | exact LeX.t | exact LeX.top | exact LeX.nilOwn (Nat.le_of_ble_eq_true rfl) (Nat.le_of_ble_eq_true rfl) | exact LeX.ownT | exact LeX.nilT | exact LeX.same rfl | exact LeX.tEq (by simp) | exact LeX.ownEq (by simp) (Nat.le_of_ble_eq_true rfl) | exact LeX.tEq (by congr 1 <;> omega) | exact Or.inr ⟨Nat.le_of_ble_eq_true rfl, Nat.le_of_ble_eq_true rfl, rfl⟩ | refine Or.inl ⟨Nat.le_of_ble_eq_true rfl, _, rfl, ?_⟩ | refine LeO.cells ?_ | exact LeO.arr rfl | exact LeO.arr (by simp) | exact LeO.mE (by first | rfl | simp) (by first | exact Or.inl rfl | exact Or.inr rfl) | exact LeO.cE (by first | rfl | simp) | exact LeXs.cE (by first | rfl | simp) | refine LeO.map (by first | rfl | simp) ?_ (by first | exact Or.inl rfl | exact Or.inr rfl) | exact LeO.iter (by first | rfl | simp) (Nat.le_of_ble_eq_true rfl) | refine LeXs.cons ?_ ?_ | exact LeXs.nil | refine And.intro ?_ ?_))) (hs := (by repeat' (first | exact trivial | refine And.intro ?_ ?_ | exact Or.inr ⟨Nat.le_of_ble_eq_true rfl, Nat.le_of_ble_eq_true rfl, rfl⟩ | exact Or.inl ⟨(Nat.le_of_ble_eq_true rfl), _, rfl, AObj.leSame (by first | rfl | exact hb _ (Nat.le_of_ble_eq_true rfl) | exact hob _ (Nat.le_of_ble_eq_true rfl) | (refine open_bd ?_ _ _; exact Nat.le_of_ble_eq_true rfl) | exact pls_bd _ _ | (refine gE_bd ?_ _; exact Nat.le_of_ble_eq_true rfl))⟩)))
  · rintro B ⟨e1, e2, e3⟩
    simp only [setR] at e1
    refine fR rfl ?_
    refine Run.condF rfl rfl (by simp) ?_
    refine fR rfl ?_
    refine Mid.clrV rfl rfl rfl ?_
    refine fM rfl ?_
    refine Run.fin rfl (EndOk.chg rfl rfl ?_ ?_)
    · exact .t rfl
    · refine ⟨?_, ?_, ?_, ?_, ?_, ?_, ?_, trivial⟩
      · exact .inl ⟨(Nat.le_of_ble_eq_true rfl), _, rfl, AObj.leSame (by first | rfl | exact hb _ (Nat.le_of_ble_eq_true rfl) | exact hob _ (Nat.le_of_ble_eq_true rfl) | (refine open_bd ?_ _ _; exact Nat.le_of_ble_eq_true rfl) | exact pls_bd _ _ | (refine gE_bd ?_ _; exact Nat.le_of_ble_eq_true rfl))⟩
      · exact .inl ⟨(Nat.le_of_ble_eq_true rfl), _, rfl, AObj.leSame (by first | rfl | exact hb _ (Nat.le_of_ble_eq_true rfl) | exact hob _ (Nat.le_of_ble_eq_true rfl) | (refine open_bd ?_ _ _; exact Nat.le_of_ble_eq_true rfl) | exact pls_bd _ _ | (refine gE_bd ?_ _; exact Nat.le_of_ble_eq_true rfl))⟩
      · exact .inl ⟨(Nat.le_of_ble_eq_true rfl), _, rfl, AObj.leSame (by first | rfl | exact hb _ (Nat.le_of_ble_eq_true rfl) | exact hob _ (Nat.le_of_ble_eq_true rfl) | (refine open_bd ?_ _ _; exact Nat.le_of_ble_eq_true rfl) | exact pls_bd _ _ | (refine gE_bd ?_ _; exact Nat.le_of_ble_eq_true rfl))⟩
      · exact .inl ⟨Nat.le_of_ble_eq_true rfl, _, rfl, by rw [pl_setR]; exact AObj.leSame rfl⟩
      · exact .inl ⟨Nat.le_of_ble_eq_true rfl, _, rfl, by rw [← e1]; exact AObj.leSame (pls_bd _ _)⟩
      · exact .inl ⟨Nat.le_of_ble_eq_true rfl, _, rfl, by rw [pl_setR]; exact AObj.leSame (by first | rfl | exact hb _ (Nat.le_of_ble_eq_true rfl) | exact hob _ (Nat.le_of_ble_eq_true rfl) | (refine open_bd ?_ _ _; exact Nat.le_of_ble_eq_true rfl) | exact pls_bd _ _ | (refine gE_bd ?_ _; exact Nat.le_of_ble_eq_true rfl))⟩
      · exact .inl ⟨(Nat.le_of_ble_eq_true rfl), _, rfl, AObj.leSame (by first | rfl | exact hb _ (Nat.le_of_ble_eq_true rfl) | exact hob _ (Nat.le_of_ble_eq_true rfl) | (refine open_bd ?_ _ _; exact Nat.le_of_ble_eq_true rfl) | exact pls_bd _ _ | (refine gE_bd ?_ _; exact Nat.le_of_ble_eq_true rfl))⟩
  · rintro i v r B h1 hi hd ⟨e1, e2, e3⟩ ih
    have hvk := hrs v (List.mem_of_getElem? h1)
    have hlen : B.length = ps.length := by rw [← pl_length B, e2, pl_length]
    obtain ⟨p, hp⟩ : ∃ p, B[lo + i]? = some p := ⟨_, List.getElem?_eq_getElem (by omega)⟩
    have hpc : (B.map Pl.cs)[lo + i]? = some p.cs := by simp [hp]
    refine fR rfl ?_
    refine Run.condT rfl rfl (by simp; omega) ?_
    refine fR rfl ?_
    refine Mid.elemMapC (Val.enc_eq v) rfl rfl rfl h1 rfl rfl ?_
    refine fM rfl ?_
    refine Mid.lookV (.fpt 5 (lo + i) 0) rfl rfl rfl rfl (open_keys _ _ _) (by rw [mget_open hi]; rfl) rfl ?_
    refine fM rfl ?_
    refine Mid.lookV (.fpt 5 (lo + i) 0) rfl rfl rfl rfl (open_keys _ _ _) (by rw [mget_open hi]; rfl) rfl ?_
    refine fM rfl ?_
    refine Mid.call (copy_ok H v hvk) rfl rfl rfl rfl ?_
    refine Mid.fast (f := 2) rfl (by (repeat' (first | exact trivial | exact Bool.not_or_self _ | exact grd1 _ | exact grd2 _ | exact grd3 _ _ | exact grd4 _ _ | refine And.intro ?_ ?_ | exact rfl | (simp; done) | (simp <;> omega))); done) ?_
    refine Mid.stF (os := B.map Pl.cs) (cs := p.cs) rfl rfl hpc rfl rfl (by simp [Pl.cs]) rfl rfl ?_
    refine Mid.fast (f := 2) rfl (by (repeat' (first | exact trivial | exact Bool.not_or_self _ | exact grd1 _ | exact grd2 _ | exact grd3 _ _ | exact grd4 _ _ | refine And.intro ?_ ?_ | exact rfl | (simp; done) | (simp <;> omega))); done) ?_
    have hlt : lo + i < (B.map Pl.cs).length := by simp; omega
    refine Mid.stF rfl rfl (List.getElem?_set_self hlt) rfl rfl (Nat.le_of_ble_eq_true rfl) rfl rfl ?_
    refine fM rfl ?_
    refine aL rfl rfl rfl rfl rfl ?_
    refine fM rfl ?_
    simp only [setR] at e1
    exact rWeak 9 rfl (ih (upd B (lo + i) v) ⟨e1, by rw [pl_upd, e2], upd_ok hvk e3⟩) rfl rfl rfl (he := (by repeat' (first | exact trivial | exact LeX.t | exact LeX.top | exact LeX.nilOwn (Nat.le_of_ble_eq_true rfl) (Nat.le_of_ble_eq_true rfl) | exact LeX.ownT | exact LeX.nilT | exact LeX.same rfl | exact LeX.tEq (by simp) | exact LeX.ownEq (by simp) (Nat.le_of_ble_eq_true rfl) | exact LeX.tEq (by congr 1 <;> omega) | exact Or.inr ⟨Nat.le_of_ble_eq_true rfl, Nat.le_of_ble_eq_true rfl, rfl⟩ | refine Or.inl ⟨Nat.le_of_ble_eq_true rfl, _, rfl, ?_⟩ | refine LeO.cells ?_ | exact LeO.arr rfl | exact LeO.arr (by simp) | exact LeO.mE (by first | rfl | simp) (by first | exact Or.inl rfl | exact Or.inr rfl) | exact LeO.cE (by first | rfl | simp) | exact LeXs.cE (by first | rfl | simp) | refine LeO.map (by first | rfl | simp) ?_ (by first | exact Or.inl rfl | exact Or.inr rfl) | exact LeO.iter (by first | rfl | simp) (Nat.le_of_ble_eq_true rfl) | refine LeXs.cons ?_ ?_ | exact LeXs.nil | refine And.intro ?_ ?_))) (hs := (by repeat' (first | exact trivial | refine And.intro ?_ ?_ | exact Or.inl ⟨(Nat.le_of_ble_eq_true rfl), _, rfl, AObj.leSame (by first | rfl | exact hb _ (Nat.le_of_ble_eq_true rfl) | exact hob _ (Nat.le_of_ble_eq_true rfl) | (refine open_bd ?_ _ _; exact Nat.le_of_ble_eq_true rfl) | exact pls_bd _ _ | (refine gE_bd ?_ _; exact Nat.le_of_ble_eq_true rfl))⟩ | exact Or.inl ⟨(Nat.le_of_ble_eq_true rfl), _, rfl, (updLe hp rfl)⟩)))
end Go.GB.C35

