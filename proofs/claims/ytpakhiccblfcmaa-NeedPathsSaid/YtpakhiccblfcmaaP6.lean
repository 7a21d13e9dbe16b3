/-
  YtpakhiccblfcmaaP6: lemmas of this proof (part 6). No conditions.
-/
import Derived.Test.YtpakhiccblfcmaaP3
import Derived.Test.YtpakhiccblfcmaaP4
import Derived.Test.YtpakhiccblfcmaaP5

/-
  SC29Code: the code of the functions that NeedPaths reaches, as abstract code (printed by program).
-/
namespace Go.GB
/- 3 supergraph supergraphlaw29.NeedPaths -/
def c3_0 : ACode :=
  (.seq (.region false [⟨some 9, none, .mv (.s 0)⟩,
    ⟨some 10, none, .mv (.s 1)⟩,
    ⟨some 11, none, .call 6 [(.s 9), (.s 10)]⟩,
    ⟨some 12, none, .mv (.s 0)⟩,
    ⟨some 13, none, .call 8 [(.s 12)]⟩,
    ⟨some 14, none, .mv (.s 1)⟩,
    ⟨some 15, none, .call 7 [(.s 13), (.s 14)]⟩,
    ⟨some 16, none, .call 5 [(.s 11), (.s 15)]⟩,
    ⟨some 17, none, .mv (.s 16)⟩,
    ⟨some 18, some (17, true), .call 4 []⟩,
    ⟨some 19, none, .pick (.s 17) (.s 18) (.c (.t (.bool false)))⟩,
    ⟨some 4, none, .mv (.s 19)⟩] [] [4]) .ret)
def c3_1 : ACode :=
  (.seq (.region false [⟨some 8, none, .call 4 []⟩,
    ⟨some 4, none, .mv (.s 8)⟩] [] [4]) .ret)
def c3_2 : ACode :=
  (.cond (.s 7) c3_1 .skip)
def c3_3 : ACode :=
  (.seq (.seq (.region false [⟨some 5, none, .mv (.s 0)⟩,
    ⟨some 6, none, .len (.s 5)⟩,
    ⟨some 7, none, .bin .gtr (.s 6) (.c (.t (.int .i64 200)))⟩] [] [0, 1, 7]) c3_2) c3_0)
def c3 : ACode :=
  (.seq (.region false [⟨some 4, none, .cst (.t (.bool false))⟩] [] [0, 1]) c3_3)
def r3 : List ARes := [.tmp 4]
def n3 : Nat := 20
/- 4 supergraph supergraphlaw29.exampleHolds -/
def c4_0 : ACode :=
  (.seq (.region false [⟨some 49, none, .mv (.s 3)⟩,
    ⟨some 50, none, .ia 6 (.s 49) (.c (.t (.int .i64 0)))⟩,
    ⟨some 51, none, .fa 0 (.s 50)⟩,
    ⟨some 52, none, .ld false 1 (.s 51)⟩,
    ⟨some 53, none, .bin .eql (.s 52) (.c (.t (.int .i64 (-1))))⟩,
    ⟨some 54, none, .mv (.s 53)⟩,
    ⟨some 55, some (54, true), .mv (.s 3)⟩,
    ⟨some 56, some (54, true), .ia 6 (.s 55) (.c (.t (.int .i64 1)))⟩,
    ⟨some 57, some (54, true), .fa 0 (.s 56)⟩,
    ⟨some 58, some (54, true), .ld false 1 (.s 57)⟩,
    ⟨some 59, some (54, true), .bin .eql (.s 58) (.c (.t (.int .i64 0)))⟩,
    ⟨some 60, none, .pick (.s 54) (.s 59) (.c (.t (.bool false)))⟩,
    ⟨some 61, none, .mv (.s 60)⟩,
    ⟨some 62, some (61, true), .mv (.s 3)⟩,
    ⟨some 63, some (61, true), .ia 6 (.s 62) (.c (.t (.int .i64 1)))⟩,
    ⟨some 64, some (61, true), .fa 3 (.s 63)⟩,
    ⟨some 65, some (61, true), .ld false 1 (.s 64)⟩,
    ⟨some 66, some (61, true), .bin .eql (.s 65) (.c (.t (.str [85, 115, 101, 114])))⟩,
    ⟨some 67, none, .pick (.s 61) (.s 66) (.c (.t (.bool false)))⟩,
    ⟨some 68, none, .mv (.s 67)⟩,
    ⟨some 69, some (68, true), .mv (.s 4)⟩,
    ⟨some 70, some (68, true), .bin .eql (.s 69) (.c (.t (.int .i64 1)))⟩,
    ⟨some 71, none, .pick (.s 68) (.s 70) (.c (.t (.bool false)))⟩,
    ⟨some 72, none, .mv (.s 71)⟩,
    ⟨some 73, some (72, true), .mv (.s 5)⟩,
    ⟨some 74, some (72, true), .bin .eql (.s 73) (.c (.t (.int .i64 0)))⟩,
    ⟨some 75, none, .pick (.s 72) (.s 74) (.c (.t (.bool false)))⟩,
    ⟨some 76, none, .mv (.s 75)⟩,
    ⟨some 77, some (76, true), .mv (.s 6)⟩,
    ⟨some 78, some (76, true), .len (.s 77)⟩,
    ⟨some 79, some (76, true), .bin .eql (.s 78) (.c (.t (.int .i64 1)))⟩,
    ⟨some 80, none, .pick (.s 76) (.s 79) (.c (.t (.bool false)))⟩,
    ⟨some 81, none, .mv (.s 80)⟩,
    ⟨some 82, some (81, true), .mv (.s 6)⟩,
    ⟨some 83, some (81, true), .ia 2 (.s 82) (.c (.t (.int .i64 0)))⟩,
    ⟨some 84, some (81, true), .ld true 2 (.s 83)⟩,
    ⟨some 85, some (81, true), .build [.t (.str []), .t (.str [])] [(0, 1, (.c (.t (.str [81, 117, 101, 114, 121])))), (1, 1, (.c (.t (.str [109, 101]))))]⟩,
    ⟨some 86, some (81, true), .nw (.eqst false [.str, .str] (.s 84) (.s 85))⟩,
    ⟨some 87, none, .pick (.s 81) (.s 86) (.c (.t (.bool false)))⟩,
    ⟨some 0, none, .mv (.s 87)⟩] [] [0]) .ret)
def c4_1 : ACode :=
  (.seq (.region false [⟨some 47, none, .mv (.s 3)⟩,
    ⟨some 48, none, .call 6 [(.s 47), (.c (.t (.int .i64 1)))]⟩,
    ⟨some 6, none, .mv (.s 48)⟩] [] [3, 4, 5, 6]) c4_0)
def c4_2 : ACode :=
  (.seq (.region false [⟨some 0, none, .cst (.t (.bool false))⟩] [] [0]) .ret)
def c4_3 : ACode :=
  (.cond (.s 46) c4_2 .skip)
def c4_4 : ACode :=
  (.seq (.seq (.region false [⟨some 20, none, .mv (.s 3)⟩,
    ⟨some 21, none, .len (.s 20)⟩,
    ⟨some 22, none, .bin .neq (.s 21) (.c (.t (.int .i64 2)))⟩,
    ⟨some 23, none, .mv (.s 22)⟩,
    ⟨some 24, some (23, false), .mv (.s 3)⟩,
    ⟨some 25, some (23, false), .ia 6 (.s 24) (.c (.t (.int .i64 0)))⟩,
    ⟨some 26, some (23, false), .fa 4 (.s 25)⟩,
    ⟨some 27, some (23, false), .ld false 1 (.s 26)⟩,
    ⟨some 28, some (23, false), .len (.s 27)⟩,
    ⟨some 29, some (23, false), .bin .neq (.s 28) (.c (.t (.int .i64 1)))⟩,
    ⟨some 30, none, .pick (.s 23) (.c (.t (.bool true))) (.s 29)⟩,
    ⟨some 31, none, .mv (.s 30)⟩,
    ⟨some 32, some (31, false), .mv (.s 3)⟩,
    ⟨some 33, some (31, false), .ia 6 (.s 32) (.c (.t (.int .i64 1)))⟩,
    ⟨some 34, some (31, false), .fa 4 (.s 33)⟩,
    ⟨some 35, some (31, false), .ld false 1 (.s 34)⟩,
    ⟨some 36, some (31, false), .len (.s 35)⟩,
    ⟨some 37, some (31, false), .bin .neq (.s 36) (.c (.t (.int .i64 1)))⟩,
    ⟨some 38, none, .pick (.s 31) (.c (.t (.bool true))) (.s 37)⟩,
    ⟨some 39, none, .mv (.s 38)⟩,
    ⟨some 40, some (39, false), .mv (.s 3)⟩,
    ⟨some 41, some (39, false), .ia 6 (.s 40) (.c (.t (.int .i64 1)))⟩,
    ⟨some 42, some (39, false), .fa 5 (.s 41)⟩,
    ⟨some 43, some (39, false), .ld false 1 (.s 42)⟩,
    ⟨some 44, some (39, false), .len (.s 43)⟩,
    ⟨some 45, some (39, false), .bin .neq (.s 44) (.c (.t (.int .i64 1)))⟩,
    ⟨some 46, none, .pick (.s 39) (.c (.t (.bool true))) (.s 45)⟩] [] [3, 4, 5, 46]) c4_3) c4_1)
def c4_5 : ACode :=
  (.seq (.region false [⟨some 15, none, .ld true 4 (.s 1)⟩,
    ⟨some 16, none, .ld true 2 (.s 2)⟩,
    ⟨some 17, none, .call 11 [(.s 15), (.s 16)]⟩,
    ⟨some 14, none, .mv (.s 17)⟩,
    ⟨some 18, none, .ext (.s 14) 0⟩,
    ⟨some 19, none, .ext (.s 14) 1⟩,
    ⟨some 4, none, .mv (.s 18)⟩,
    ⟨some 5, none, .mv (.s 19)⟩] [] [3, 4, 5]) c4_4)
def c4_6 : ACode :=
  (.seq (.region false [⟨some 11, none, .ld true 4 (.s 1)⟩,
    ⟨some 12, none, .ld true 2 (.s 2)⟩,
    ⟨some 13, none, .call 10 [(.s 11), (.s 12)]⟩,
    ⟨some 3, none, .mv (.s 13)⟩] [] [1, 2, 3]) c4_5)
def c4_7 : ACode :=
  (.seq (.region false [⟨some 8, none, .call 9 []⟩,
    ⟨some 7, none, .mv (.s 8)⟩,
    ⟨some 9, none, .ext (.s 7) 0⟩,
    ⟨some 10, none, .ext (.s 7) 1⟩,
    ⟨some 1, none, .alloc [.nils, .nils, .nils, .nils]⟩,
    ⟨some 2, none, .alloc [.t (.int .i64 0), .nils]⟩,
    ⟨none, none, .st 4 (.s 1) (.s 9)⟩,
    ⟨none, none, .st 2 (.s 2) (.s 10)⟩] [] [1, 2]) c4_6)
def c4 : ACode :=
  (.seq (.region false [⟨some 0, none, .cst (.t (.bool false))⟩] [] []) c4_7)
def r4 : List ARes := [.tmp 0]
def n4 : Nat := 88
/- 5 supergraph supergraphref29.SameHops -/
def c5_0 : ACode :=
  (.seq (.region false [⟨some 4, none, .cst (.t (.bool true))⟩] [] [4]) .ret)
def c5_1 : ACode :=
  (.region false [⟨some 15, none, .mv (.s 5)⟩,
    ⟨some 16, none, .bin .add (.s 15) (.c (.t (.int .i64 1)))⟩,
    ⟨some 5, none, .mv (.s 16)⟩] [] [0, 1, 5])
def c5_2 : ACode :=
  (.seq (.region false [⟨some 4, none, .cst (.t (.bool false))⟩] [] [4]) .ret)
def c5_3 : ACode :=
  (.cond (.s 25) c5_2 .skip)
def c5_4 : ACode :=
  (.seq (.region true [⟨some 17, none, .mv (.s 0)⟩,
    ⟨some 18, none, .mv (.s 5)⟩,
    ⟨some 19, none, .ia 2 (.s 17) (.s 18)⟩,
    ⟨some 20, none, .ld true 2 (.s 19)⟩,
    ⟨some 21, none, .mv (.s 1)⟩,
    ⟨some 22, none, .mv (.s 5)⟩,
    ⟨some 23, none, .ia 2 (.s 21) (.s 22)⟩,
    ⟨some 24, none, .ld true 2 (.s 23)⟩,
    ⟨some 25, none, .nw (.eqst true [.str, .str] (.s 20) (.s 24))⟩] [[], [], [0, 1], [2], [], [], [4, 5], [6], [3, 7]] [0, 1, 5, 25]) c5_3)
def c5_5 : ACode :=
  (.seq (.block 1 c5_4) c5_1)
def c5_6 : ACode :=
  (.cond (.s 14) .skip (.exit 0))
def c5_7 : ACode :=
  (.seq (.seq (.region false [⟨some 11, none, .mv (.s 5)⟩,
    ⟨some 12, none, .mv (.s 0)⟩,
    ⟨some 13, none, .len (.s 12)⟩,
    ⟨some 14, none, .bin .lss (.s 11) (.s 13)⟩] [] [0, 1, 5, 14]) c5_6) c5_5)
def c5_8 : ACode :=
  (.loop c5_7)
def c5_9 : ACode :=
  (.block 0 c5_8)
def c5_10 : ACode :=
  (.seq (.seq (.region false [⟨some 5, none, .cst (.t (.int .i64 0))⟩] [] [0, 1, 5]) c5_9) c5_0)
def c5_11 : ACode :=
  (.seq (.region false [⟨some 4, none, .cst (.t (.bool false))⟩] [] [4]) .ret)
def c5_12 : ACode :=
  (.cond (.s 10) c5_11 .skip)
def c5_13 : ACode :=
  (.seq (.seq (.region false [⟨some 6, none, .mv (.s 0)⟩,
    ⟨some 7, none, .len (.s 6)⟩,
    ⟨some 8, none, .mv (.s 1)⟩,
    ⟨some 9, none, .len (.s 8)⟩,
    ⟨some 10, none, .bin .neq (.s 7) (.s 9)⟩] [] [0, 1, 10]) c5_12) c5_10)
def c5 : ACode :=
  (.seq (.region false [⟨some 4, none, .cst (.t (.bool false))⟩] [] [0, 1]) c5_13)
def r5 : List ARes := [.tmp 4]
def n5 : Nat := 26
/- 6 supergraph need.Path -/
def c6_0 : ACode :=
  (.seq (.region false [⟨some 44, none, .mv (.s 5)⟩,
    ⟨some 4, none, .mv (.s 44)⟩] [] [4]) .ret)
def c6_1 : ACode :=
  (.seq (.region false [⟨some 42, none, .mv (.s 5)⟩,
    ⟨some 43, none, .call 12 [(.s 42)]⟩] [] [5]) c6_0)
def c6_2 : ACode :=
  (.region false [⟨some 41, none, .mv (.s 6)⟩,
    ⟨some 1, none, .mv (.s 41)⟩] [] [0, 1, 5])
def c6_3 : ACode :=
  (.seq (.region false [⟨some 33, none, .mv (.s 5)⟩,
    ⟨some 34, none, .mv (.s 0)⟩,
    ⟨some 35, none, .mv (.s 1)⟩,
    ⟨some 36, none, .ia 6 (.s 34) (.s 35)⟩,
    ⟨some 37, none, .fa 1 (.s 36)⟩,
    ⟨some 38, none, .ld true 2 (.s 37)⟩,
    ⟨some 39, none, .bsl false 2 [[.str [], .str []]] [(0, (.s 38))]⟩,
    ⟨some 40, none, .app 2 32 (.s 33) (.s 39)⟩,
    ⟨some 5, none, .mv (.s 40)⟩] [] [0, 5, 6]) c6_2)
def c6_4 : ACode :=
  (.seq (.region false [⟨some 4, none, .cst (.nils)⟩] [] [4]) .ret)
def c6_5 : ACode :=
  (.cond (.s 32) c6_4 .skip)
def c6_6 : ACode :=
  (.seq (.seq (.region false [⟨some 26, none, .mv (.s 6)⟩,
    ⟨some 27, none, .bin .lss (.s 26) (.c (.t (.int .i64 (-1))))⟩,
    ⟨some 28, none, .mv (.s 27)⟩,
    ⟨some 29, some (28, false), .mv (.s 6)⟩,
    ⟨some 30, some (28, false), .mv (.s 1)⟩,
    ⟨some 31, some (28, false), .bin .geq (.s 29) (.s 30)⟩,
    ⟨some 32, none, .pick (.s 28) (.c (.t (.bool true))) (.s 31)⟩] [] [0, 1, 5, 6, 32]) c6_5) c6_3)
def c6_7 : ACode :=
  (.seq (.region false [⟨some 21, none, .mv (.s 0)⟩,
    ⟨some 22, none, .mv (.s 1)⟩,
    ⟨some 23, none, .ia 6 (.s 21) (.s 22)⟩,
    ⟨some 24, none, .fa 0 (.s 23)⟩,
    ⟨some 25, none, .ld false 1 (.s 24)⟩,
    ⟨some 6, none, .mv (.s 25)⟩] [] [0, 1, 5, 6]) c6_6)
def c6_8 : ACode :=
  (.block 1 c6_7)
def c6_9 : ACode :=
  (.cond (.s 20) .skip (.exit 0))
def c6_10 : ACode :=
  (.seq (.seq (.region false [⟨some 15, none, .mv (.s 0)⟩,
    ⟨some 16, none, .mv (.s 1)⟩,
    ⟨some 17, none, .ia 6 (.s 15) (.s 16)⟩,
    ⟨some 18, none, .fa 0 (.s 17)⟩,
    ⟨some 19, none, .ld false 1 (.s 18)⟩,
    ⟨some 20, none, .bin .neq (.s 19) (.c (.t (.int .i64 (-1))))⟩] [] [0, 1, 5, 20]) c6_9) c6_8)
def c6_11 : ACode :=
  (.loop c6_10)
def c6_12 : ACode :=
  (.seq (.block 0 c6_11) c6_1)
def c6_13 : ACode :=
  (.seq (.region false [⟨some 5, none, .cst (.nils)⟩] [] [0, 1, 5]) c6_12)
def c6_14 : ACode :=
  (.seq (.region false [⟨some 4, none, .cst (.nils)⟩] [] [4]) .ret)
def c6_15 : ACode :=
  (.cond (.s 14) c6_14 .skip)
def c6_16 : ACode :=
  (.seq (.seq (.region false [⟨some 7, none, .mv (.s 1)⟩,
    ⟨some 8, none, .bin .lss (.s 7) (.c (.t (.int .i64 0)))⟩,
    ⟨some 9, none, .mv (.s 8)⟩,
    ⟨some 10, some (9, false), .mv (.s 1)⟩,
    ⟨some 11, some (9, false), .mv (.s 0)⟩,
    ⟨some 12, some (9, false), .len (.s 11)⟩,
    ⟨some 13, some (9, false), .bin .geq (.s 10) (.s 12)⟩,
    ⟨some 14, none, .pick (.s 9) (.c (.t (.bool true))) (.s 13)⟩] [] [0, 1, 14]) c6_15) c6_13)
def c6 : ACode :=
  (.seq (.region false [⟨some 4, none, .cst (.nils)⟩] [] [0, 1]) c6_16)
def r6 : List ARes := [.tmp 4]
def n6 : Nat := 45
/- 7 supergraph supergraphref29.Path -/
def c7_0 : ACode :=
  (.seq (.region false [⟨some 64, none, .mv (.s 6)⟩,
    ⟨some 4, none, .mv (.s 64)⟩] [] [4]) .ret)
def c7_1 : ACode :=
  (.region false [⟨some 55, none, .mv (.s 7)⟩,
    ⟨some 56, none, .bin .sub (.s 55) (.c (.t (.int .i64 1)))⟩,
    ⟨some 7, none, .mv (.s 56)⟩] [] [5, 6, 7])
def c7_2 : ACode :=
  (.region false [⟨some 57, none, .mv (.s 6)⟩,
    ⟨some 58, none, .mv (.s 5)⟩,
    ⟨some 59, none, .mv (.s 7)⟩,
    ⟨some 60, none, .ia 2 (.s 58) (.s 59)⟩,
    ⟨some 61, none, .ld true 2 (.s 60)⟩,
    ⟨some 62, none, .bsl false 2 [[.str [], .str []]] [(0, (.s 61))]⟩,
    ⟨some 63, none, .app 2 32 (.s 57) (.s 62)⟩,
    ⟨some 6, none, .mv (.s 63)⟩] [] [5, 6, 7])
def c7_3 : ACode :=
  (.seq (.block 3 c7_2) c7_1)
def c7_4 : ACode :=
  (.cond (.s 54) .skip (.exit 2))
def c7_5 : ACode :=
  (.seq (.seq (.region false [⟨some 53, none, .mv (.s 7)⟩,
    ⟨some 54, none, .bin .geq (.s 53) (.c (.t (.int .i64 0)))⟩] [] [5, 6, 7, 54]) c7_4) c7_3)
def c7_6 : ACode :=
  (.loop c7_5)
def c7_7 : ACode :=
  (.block 2 c7_6)
def c7_8 : ACode :=
  (.seq (.seq (.region false [⟨some 50, none, .mv (.s 5)⟩,
    ⟨some 51, none, .len (.s 50)⟩,
    ⟨some 52, none, .bin .sub (.s 51) (.c (.t (.int .i64 1)))⟩,
    ⟨some 7, none, .mv (.s 52)⟩] [] [5, 6, 7]) c7_7) c7_0)
def c7_9 : ACode :=
  (.seq (.region false [⟨some 6, none, .cst (.nils)⟩] [] [5, 6]) c7_8)
def c7_10 : ACode :=
  (.region false [⟨some 45, none, .mv (.s 0)⟩,
    ⟨some 46, none, .mv (.s 1)⟩,
    ⟨some 47, none, .ia 6 (.s 45) (.s 46)⟩,
    ⟨some 48, none, .fa 0 (.s 47)⟩,
    ⟨some 49, none, .ld false 1 (.s 48)⟩,
    ⟨some 1, none, .mv (.s 49)⟩] [] [0, 1, 5])
def c7_11 : ACode :=
  (.seq (.region false [⟨some 37, none, .mv (.s 5)⟩,
    ⟨some 38, none, .mv (.s 0)⟩,
    ⟨some 39, none, .mv (.s 1)⟩,
    ⟨some 40, none, .ia 6 (.s 38) (.s 39)⟩,
    ⟨some 41, none, .fa 1 (.s 40)⟩,
    ⟨some 42, none, .ld true 2 (.s 41)⟩,
    ⟨some 43, none, .bsl false 2 [[.str [], .str []]] [(0, (.s 42))]⟩,
    ⟨some 44, none, .app 2 32 (.s 37) (.s 43)⟩,
    ⟨some 5, none, .mv (.s 44)⟩] [] [0, 1, 5]) c7_10)
def c7_12 : ACode :=
  (.seq (.region false [⟨some 4, none, .cst (.nils)⟩] [] [4]) .ret)
def c7_13 : ACode :=
  (.cond (.s 36) c7_12 .skip)
def c7_14 : ACode :=
  (.seq (.seq (.region false [⟨some 22, none, .mv (.s 0)⟩,
    ⟨some 23, none, .mv (.s 1)⟩,
    ⟨some 24, none, .ia 6 (.s 22) (.s 23)⟩,
    ⟨some 25, none, .fa 0 (.s 24)⟩,
    ⟨some 26, none, .ld false 1 (.s 25)⟩,
    ⟨some 27, none, .bin .lss (.s 26) (.c (.t (.int .i64 (-1))))⟩,
    ⟨some 28, none, .mv (.s 27)⟩,
    ⟨some 29, some (28, false), .mv (.s 0)⟩,
    ⟨some 30, some (28, false), .mv (.s 1)⟩,
    ⟨some 31, some (28, false), .ia 6 (.s 29) (.s 30)⟩,
    ⟨some 32, some (28, false), .fa 0 (.s 31)⟩,
    ⟨some 33, some (28, false), .ld false 1 (.s 32)⟩,
    ⟨some 34, some (28, false), .mv (.s 1)⟩,
    ⟨some 35, some (28, false), .bin .geq (.s 33) (.s 34)⟩,
    ⟨some 36, none, .pick (.s 28) (.c (.t (.bool true))) (.s 35)⟩] [] [0, 1, 5, 36]) c7_13) c7_11)
def c7_15 : ACode :=
  (.block 1 c7_14)
def c7_16 : ACode :=
  (.cond (.s 21) .skip (.exit 0))
def c7_17 : ACode :=
  (.seq (.seq (.region false [⟨some 16, none, .mv (.s 0)⟩,
    ⟨some 17, none, .mv (.s 1)⟩,
    ⟨some 18, none, .ia 6 (.s 16) (.s 17)⟩,
    ⟨some 19, none, .fa 0 (.s 18)⟩,
    ⟨some 20, none, .ld false 1 (.s 19)⟩,
    ⟨some 21, none, .bin .neq (.s 20) (.c (.t (.int .i64 (-1))))⟩] [] [0, 1, 5, 21]) c7_16) c7_15)
def c7_18 : ACode :=
  (.loop c7_17)
def c7_19 : ACode :=
  (.seq (.block 0 c7_18) c7_9)
def c7_20 : ACode :=
  (.seq (.region false [⟨some 5, none, .cst (.nils)⟩] [] [0, 1, 5]) c7_19)
def c7_21 : ACode :=
  (.seq (.region false [⟨some 4, none, .cst (.nils)⟩] [] [4]) .ret)
def c7_22 : ACode :=
  (.cond (.s 15) c7_21 .skip)
def c7_23 : ACode :=
  (.seq (.seq (.region false [⟨some 8, none, .mv (.s 1)⟩,
    ⟨some 9, none, .bin .lss (.s 8) (.c (.t (.int .i64 0)))⟩,
    ⟨some 10, none, .mv (.s 9)⟩,
    ⟨some 11, some (10, false), .mv (.s 1)⟩,
    ⟨some 12, some (10, false), .mv (.s 0)⟩,
    ⟨some 13, some (10, false), .len (.s 12)⟩,
    ⟨some 14, some (10, false), .bin .geq (.s 11) (.s 13)⟩,
    ⟨some 15, none, .pick (.s 10) (.c (.t (.bool true))) (.s 14)⟩] [] [0, 1, 15]) c7_22) c7_20)
def c7 : ACode :=
  (.seq (.region false [⟨some 4, none, .cst (.nils)⟩] [] [0, 1]) c7_23)
def r7 : List ARes := [.tmp 4]
def n7 : Nat := 65
/- 8 supergraph supergraphlaw29.to -/
def c8_0 : ACode :=
  (.seq (.region false [⟨some 40, none, .mv (.s 3)⟩,
    ⟨some 2, none, .mv (.s 40)⟩] [] [2]) .ret)
def c8_1 : ACode :=
  (.region false [⟨some 9, none, .mv (.s 4)⟩,
    ⟨some 10, none, .bin .add (.s 9) (.c (.t (.int .i64 1)))⟩,
    ⟨some 4, none, .mv (.s 10)⟩] [] [0, 3, 4])
def c8_2 : ACode :=
  (.region true [⟨some 11, none, .mv (.s 3)⟩,
    ⟨some 12, none, .mv (.s 0)⟩,
    ⟨some 13, none, .mv (.s 4)⟩,
    ⟨some 14, none, .ia 6 (.s 12) (.s 13)⟩,
    ⟨some 15, none, .fa 0 (.s 14)⟩,
    ⟨some 16, none, .ld false 1 (.s 15)⟩,
    ⟨some 17, none, .mv (.s 0)⟩,
    ⟨some 18, none, .mv (.s 4)⟩,
    ⟨some 19, none, .ia 6 (.s 17) (.s 18)⟩,
    ⟨some 20, none, .fa 1 (.s 19)⟩,
    ⟨some 21, none, .ld true 2 (.s 20)⟩,
    ⟨some 22, none, .mv (.s 0)⟩,
    ⟨some 23, none, .mv (.s 4)⟩,
    ⟨some 24, none, .ia 6 (.s 22) (.s 23)⟩,
    ⟨some 25, none, .fa 3 (.s 24)⟩,
    ⟨some 26, none, .ld false 1 (.s 25)⟩,
    ⟨some 27, none, .mv (.s 0)⟩,
    ⟨some 28, none, .mv (.s 4)⟩,
    ⟨some 29, none, .ia 6 (.s 27) (.s 28)⟩,
    ⟨some 30, none, .fa 4 (.s 29)⟩,
    ⟨some 31, none, .ld false 1 (.s 30)⟩,
    ⟨some 32, none, .mv (.s 0)⟩,
    ⟨some 33, none, .mv (.s 4)⟩,
    ⟨some 34, none, .ia 6 (.s 32) (.s 33)⟩,
    ⟨some 35, none, .fa 5 (.s 34)⟩,
    ⟨some 36, none, .ld false 1 (.s 35)⟩,
    ⟨some 37, none, .build [.t (.int .i64 0), .t (.str []), .t (.str []), .t (.str []), .nils, .nils] [(0, 1, (.s 16)), (1, 2, (.s 21)), (3, 1, (.s 26)), (4, 1, (.s 31)), (5, 1, (.s 36))]⟩,
    ⟨some 38, none, .bsl false 6 [[.int .i64 0, .str [], .str [], .str [], .lst [], .lst []]] [(0, (.s 37))]⟩,
    ⟨some 39, none, .app 6 104 (.s 11) (.s 38)⟩,
    ⟨some 3, none, .mv (.s 39)⟩] [[], [], [], [1, 2], [3], [4], [], [], [6, 7], [8], [9], [], [], [11, 12], [13], [14], [], [], [16, 17], [18], [19], [], [], [21, 22], [23], [24], [5, 10, 15, 20, 25], [26], [0, 27], [28, 28, 0, 1, 2, 3, 4, 5, 6, 7, 8, 9, 10, 11, 12, 13, 14, 15, 16, 17, 18, 19, 20, 21, 22, 23, 24, 25, 26, 27, 28]] [0, 3, 4])
def c8_3 : ACode :=
  (.seq (.block 1 c8_2) c8_1)
def c8_4 : ACode :=
  (.cond (.s 8) .skip (.exit 0))
def c8_5 : ACode :=
  (.seq (.seq (.region false [⟨some 5, none, .mv (.s 4)⟩,
    ⟨some 6, none, .mv (.s 0)⟩,
    ⟨some 7, none, .len (.s 6)⟩,
    ⟨some 8, none, .bin .lss (.s 5) (.s 7)⟩] [] [0, 3, 4, 8]) c8_4) c8_3)
def c8_6 : ACode :=
  (.loop c8_5)
def c8_7 : ACode :=
  (.block 0 c8_6)
def c8_8 : ACode :=
  (.seq (.seq (.region false [⟨some 4, none, .cst (.t (.int .i64 0))⟩] [] [0, 3, 4]) c8_7) c8_0)
def c8_9 : ACode :=
  (.seq (.region false [⟨some 3, none, .cst (.nils)⟩] [] [0, 3]) c8_8)
def c8 : ACode :=
  (.seq (.region false [⟨some 2, none, .cst (.nils)⟩] [] [0]) c8_9)
def r8 : List ARes := [.tmp 2]
def n8 : Nat := 41
/- 9 supergraph supergraphlaw29.example -/
def c9_0 : ACode :=
  (.seq (.region true [⟨some 34, none, .ld true 4 (.s 5)⟩,
    ⟨some 35, none, .ld true 9 (.s 7)⟩,
    ⟨some 36, none, .bsl true 9 [[.str [], .str [], .str [], .lst [], .str [], .lst [], .str [], .int .i64 0, .lst []]] [(0, (.s 35))]⟩,
    ⟨some 37, none, .build [.t (.int .i64 0), .nils] [(0, 1, (.c (.t (.int .i64 1)))), (1, 1, (.s 36))]⟩,
    ⟨none, none, .st 4 (.s 0) (.s 34)⟩,
    ⟨none, none, .st 2 (.s 1) (.s 37)⟩] [[], [], [1], [2], [0, 0], [3, 4, 0, 1, 2, 3, 4]] [0, 1]) .ret)
def c9_1 : ACode :=
  (.seq (.region false [⟨some 29, none, .fa 2 (.s 3)⟩,
    ⟨some 30, none, .ld true 2 (.s 29)⟩,
    ⟨some 31, none, .ld true 9 (.s 6)⟩,
    ⟨some 32, none, .bsl true 9 [[.str [], .str [], .str [], .lst [], .str [], .lst [], .str [], .int .i64 0, .lst []]] [(0, (.s 31))]⟩,
    ⟨some 33, none, .build [.t (.str []), .t (.str []), .t (.str []), .nils, .t (.str []), .nils, .t (.str []), .t (.int .i64 0), .nils] [(0, 1, (.c (.t (.str [109, 101])))), (1, 1, (.c (.t (.str [81, 117, 101, 114, 121])))), (2, 1, (.c (.t (.str [109, 101])))), (4, 2, (.s 30)), (7, 1, (.c (.t (.int .i64 (-1))))), (8, 1, (.s 32))]⟩,
    ⟨some 7, none, .alloc [.t (.str []), .t (.str []), .t (.str []), .nils, .t (.str []), .nils, .t (.str []), .t (.int .i64 0), .nils]⟩,
    ⟨none, none, .st 9 (.s 7) (.s 33)⟩] [] [0, 1, 5, 7]) c9_0)
def c9_2 : ACode :=
  (.seq (.region false [⟨some 26, none, .fa 2 (.s 2)⟩,
    ⟨some 27, none, .ld true 2 (.s 26)⟩,
    ⟨some 28, none, .build [.t (.str []), .t (.str []), .t (.str []), .nils, .t (.str []), .nils, .t (.str []), .t (.int .i64 0), .nils] [(0, 1, (.c (.t (.str [110, 97, 109, 101])))), (1, 1, (.c (.t (.str [85, 115, 101, 114])))), (2, 1, (.c (.t (.str [110, 97, 109, 101])))), (4, 2, (.s 27)), (7, 1, (.c (.t (.int .i64 (-1)))))]⟩,
    ⟨some 6, none, .alloc [.t (.str []), .t (.str []), .t (.str []), .nils, .t (.str []), .nils, .t (.str []), .t (.int .i64 0), .nils]⟩,
    ⟨none, none, .st 9 (.s 6) (.s 28)⟩] [] [0, 1, 3, 5, 6]) c9_1)
def c9_3 : ACode :=
  (.seq (.region false [⟨some 20, none, .bsl true 1 [[.str []]] [(0, (.c (.t (.str [97]))))]⟩,
    ⟨some 21, none, .ld true 1 (.s 4)⟩,
    ⟨some 22, none, .build [.t (.str []), .t (.str []), .t (.int .i64 0), .t (.bool false), .nils, .nils] [(0, 1, (.c (.t (.str [81, 117, 101, 114, 121])))), (1, 1, (.c (.t (.str [109, 101]))))]⟩,
    ⟨some 23, none, .build [.t (.str []), .t (.str []), .t (.int .i64 0), .t (.bool false), .nils, .nils] [(0, 1, (.c (.t (.str [85, 115, 101, 114])))), (1, 1, (.c (.t (.str [110, 97, 109, 101]))))]⟩,
    ⟨some 24, none, .bsl true 6 [[.str [], .str [], .int .i64 0, .bool false, .lst [], .lst []], [.str [], .str [], .int .i64 0, .bool false, .lst [], .lst []]] [(0, (.s 22)), (1, (.s 23))]⟩,
    ⟨some 25, none, .build [.nils, .nils, .nils, .nils] [(0, 1, (.s 20)), (1, 1, (.s 21)), (3, 1, (.s 24))]⟩,
    ⟨some 5, none, .alloc [.nils, .nils, .nils, .nils]⟩,
    ⟨none, none, .st 4 (.s 5) (.s 25)⟩] [] [0, 1, 2, 3, 5]) c9_2)
def c9_4 : ACode :=
  (.seq (.region false [⟨some 12, none, .ld true 5 (.s 3)⟩,
    ⟨some 13, none, .bsl true 5 [[.str [], .lst [], .str [], .lst [], .lst []]] [(0, (.s 12))]⟩,
    ⟨some 14, none, .build [.t (.int .i64 0), .t (.str []), .nils, .nils, .nils, .nils, .nils] [(0, 1, (.c (.t (.int .i64 1)))), (1, 1, (.c (.t (.str [81, 117, 101, 114, 121])))), (4, 1, (.s 13))]⟩,
    ⟨some 15, none, .ld true 5 (.s 2)⟩,
    ⟨some 16, none, .bsl true 5 [[.str [], .lst [], .str [], .lst [], .lst []]] [(0, (.s 15))]⟩,
    ⟨some 17, none, .build [.t (.int .i64 0), .t (.str []), .nils, .nils, .nils, .nils, .nils] [(0, 1, (.c (.t (.int .i64 1)))), (1, 1, (.c (.t (.str [85, 115, 101, 114])))), (4, 1, (.s 16))]⟩,
    ⟨some 18, none, .bsl true 7 [[.int .i64 0, .str [], .lst [], .lst [], .lst [], .lst [], .lst []], [.int .i64 0, .str [], .lst [], .lst [], .lst [], .lst [], .lst []]] [(0, (.s 14)), (1, (.s 17))]⟩,
    ⟨some 19, none, .build [.nils] [(0, 1, (.s 18))]⟩,
    ⟨some 4, none, .alloc [.nils]⟩,
    ⟨none, none, .st 1 (.s 4) (.s 19)⟩] [] [0, 1, 2, 3, 4]) c9_3)
def c9_5 : ACode :=
  (.seq (.region false [⟨some 10, none, .build [.t (.str []), .nils] [(0, 1, (.c (.t (.str [85, 115, 101, 114]))))]⟩,
    ⟨some 11, none, .build [.t (.str []), .nils, .t (.str []), .nils, .nils] [(0, 1, (.c (.t (.str [109, 101])))), (2, 2, (.s 10))]⟩,
    ⟨some 3, none, .alloc [.t (.str []), .nils, .t (.str []), .nils, .nils]⟩,
    ⟨none, none, .st 5 (.s 3) (.s 11)⟩] [] [0, 1, 2, 3]) c9_4)
def c9_6 : ACode :=
  (.seq (.region false [⟨some 8, none, .build [.t (.str []), .nils] [(0, 1, (.c (.t (.str [83, 116, 114, 105, 110, 103]))))]⟩,
    ⟨some 9, none, .build [.t (.str []), .nils, .t (.str []), .nils, .nils] [(0, 1, (.c (.t (.str [110, 97, 109, 101])))), (2, 2, (.s 8))]⟩,
    ⟨some 2, none, .alloc [.t (.str []), .nils, .t (.str []), .nils, .nils]⟩,
    ⟨none, none, .st 5 (.s 2) (.s 9)⟩] [] [0, 1, 2]) c9_5)
def c9 : ACode :=
  (.seq (.region false [⟨some 0, none, .alloc [.nils, .nils, .nils, .nils]⟩,
    ⟨some 1, none, .alloc [.t (.int .i64 0), .nils]⟩] [] [0, 1]) c9_6)
def r9 : List ARes := [.cell 0 true 4, .cell 1 true 2]
def n9 : Nat := 38
/- 10 supergraph need.Places -/
def c10_0 : ACode :=
  (.seq (.region false [⟨some 37, none, .mv (.s 5)⟩,
    ⟨some 38, none, .nilck (.s 37)⟩,
    ⟨some 39, none, .fa 4 (.s 38)⟩,
    ⟨some 40, none, .ld false 1 (.s 39)⟩,
    ⟨some 4, none, .mv (.s 40)⟩] [] [4]) .ret)
def c10_1 : ACode :=
  (.seq (.region false [⟨some 29, none, .mv (.s 5)⟩,
    ⟨some 30, none, .mv (.s 6)⟩,
    ⟨some 31, none, .ld true 4 (.s 2)⟩,
    ⟨some 32, none, .mv (.s 6)⟩,
    ⟨some 33, none, .call 16 [(.s 31), (.s 32)]⟩,
    ⟨some 34, none, .mv (.s 7)⟩,
    ⟨some 35, none, .build [.t (.int .i64 0), .t (.str []), .t (.str []), .t (.str []), .nils, .nils] [(0, 1, (.c (.t (.int .i64 (-1))))), (3, 1, (.s 30)), (4, 1, (.s 33)), (5, 1, (.s 34))]⟩,
    ⟨some 36, none, .call 15 [(.s 29), (.s 35)]⟩] [] [5]) c10_0)
def c10_2 : ACode :=
  (.region false [⟨some 28, none, .bin .add (.s 19) (.c (.t (.int .i64 1)))⟩,
    ⟨some 19, none, .mv (.s 28)⟩] [] [2, 5, 6, 7, 17, 18, 19])
def c10_3 : ACode :=
  (.region false [⟨some 23, none, .mv (.s 7)⟩,
    ⟨some 24, none, .ld true 9 (.s 9)⟩,
    ⟨some 25, none, .call 14 [(.s 24)]⟩,
    ⟨some 26, none, .bsl false 9 [[.str [], .str [], .str [], .lst [], .str [], .lst [], .str [], .int .i64 0, .lst []]] [(0, (.s 25))]⟩,
    ⟨some 27, none, .app 9 160 (.s 23) (.s 26)⟩,
    ⟨some 7, none, .mv (.s 27)⟩] [] [2, 5, 6, 7, 17, 18, 19])
def c10_4 : ACode :=
  (.seq (.region false [⟨some 21, none, .ia 9 (.s 17) (.s 19)⟩,
    ⟨some 22, none, .ld true 9 (.s 21)⟩,
    ⟨some 9, none, .alloc [.t (.str []), .t (.str []), .t (.str []), .nils, .t (.str []), .nils, .t (.str []), .t (.int .i64 0), .nils]⟩,
    ⟨none, none, .st 9 (.s 9) (.s 22)⟩] [] [2, 5, 6, 7, 9, 17, 18, 19]) c10_3)
def c10_5 : ACode :=
  (.seq (.block 1 c10_4) c10_2)
def c10_6 : ACode :=
  (.seq (.cond (.s 20) .skip (.exit 0)) c10_5)
def c10_7 : ACode :=
  (.seq (.region false [⟨some 20, none, .bin .lss (.s 19) (.s 18)⟩] [] [2, 5, 6, 7, 17, 18, 19, 20]) c10_6)
def c10_8 : ACode :=
  (.loop c10_7)
def c10_9 : ACode :=
  (.block 0 c10_8)
def c10_10 : ACode :=
  (.seq (.seq (.region false [⟨some 16, none, .fa 1 (.s 3)⟩,
    ⟨some 17, none, .ld false 1 (.s 16)⟩,
    ⟨some 18, none, .len (.s 17)⟩,
    ⟨some 19, none, .cst (.t (.int .i64 0))⟩] [] [2, 5, 6, 7, 17, 18, 19]) c10_9) c10_1)
def c10_11 : ACode :=
  (.seq (.region false [⟨some 7, none, .cst (.nils)⟩] [] [2, 3, 5, 6, 7]) c10_10)
def c10_12 : ACode :=
  (.seq (.region false [⟨some 13, none, .fa 0 (.s 3)⟩,
    ⟨some 14, none, .ld false 1 (.s 13)⟩,
    ⟨some 15, none, .call 13 [(.s 14)]⟩,
    ⟨some 6, none, .mv (.s 15)⟩] [] [2, 3, 5, 6]) c10_11)
def c10_13 : ACode :=
  (.seq (.region false [⟨some 10, none, .ld true 4 (.s 2)⟩,
    ⟨some 11, none, .build [.nils, .nils, .nils, .nils, .nils] [(0, 4, (.s 10))]⟩,
    ⟨some 12, none, .box 5 (.s 11)⟩,
    ⟨some 5, none, .mv (.s 12)⟩] [] [2, 3, 5]) c10_12)
def c10 : ACode :=
  (.seq (.region false [⟨some 2, none, .box 4 (.s 0)⟩,
    ⟨some 3, none, .box 2 (.s 1)⟩,
    ⟨some 4, none, .cst (.nils)⟩] [] [2, 3]) c10_13)
def r10 : List ARes := [.tmp 4]
def n10 : Nat := 41
/- 11 supergraph need.Depth -/
def c11_0 : ACode :=
  (.seq (.region false [⟨some 46, none, .mv (.s 6)⟩,
    ⟨some 4, none, .mv (.s 46)⟩,
    ⟨some 5, none, .cst (.t (.int .i64 0))⟩] [] [4, 5]) .ret)
def c11_1 : ACode :=
  (.region false [⟨some 45, none, .bin .add (.s 17) (.c (.t (.int .i64 1)))⟩,
    ⟨some 17, none, .mv (.s 45)⟩] [] [2, 6, 15, 16, 17])
def c11_2 : ACode :=
  (.region false [⟨some 44, none, .bin .add (.s 24) (.c (.t (.int .i64 1)))⟩,
    ⟨some 24, none, .mv (.s 44)⟩] [] [2, 6, 8, 15, 16, 17, 22, 23, 24])
def c11_3 : ACode :=
  (.region false [⟨some 41, none, .mv (.s 6)⟩,
    ⟨some 42, none, .mv (.s 11)⟩,
    ⟨some 43, none, .maxi (.s 41) (.s 42)⟩,
    ⟨some 6, none, .mv (.s 43)⟩] [] [2, 6, 8, 15, 16, 17, 22, 23, 24])
def c11_4 : ACode :=
  (.seq (.region false [⟨some 4, none, .cst (.t (.int .i64 0))⟩,
    ⟨some 5, none, .cst (.t (.int .i64 60))⟩] [] [4, 5]) .ret)
def c11_5 : ACode :=
  (.cond (.s 40) c11_4 .skip)
def c11_6 : ACode :=
  (.seq (.seq (.region false [⟨some 39, none, .mv (.s 12)⟩,
    ⟨some 40, none, .un .not (.s 39)⟩] [] [2, 6, 8, 11, 15, 16, 17, 22, 23, 24, 40]) c11_5) c11_3)
def c11_7 : ACode :=
  (.seq (.region false [⟨some 29, none, .ld true 4 (.s 2)⟩,
    ⟨some 30, none, .fa 3 (.s 8)⟩,
    ⟨some 31, none, .ld false 1 (.s 30)⟩,
    ⟨some 32, none, .fa 4 (.s 8)⟩,
    ⟨some 33, none, .ld false 1 (.s 32)⟩,
    ⟨some 34, none, .fa 2 (.s 10)⟩,
    ⟨some 35, none, .ld false 1 (.s 34)⟩,
    ⟨some 36, none, .call 17 [(.s 29), (.s 31), (.s 33), (.s 35)]⟩,
    ⟨some 28, none, .mv (.s 36)⟩,
    ⟨some 37, none, .ext (.s 28) 0⟩,
    ⟨some 38, none, .ext (.s 28) 1⟩,
    ⟨some 11, none, .mv (.s 37)⟩,
    ⟨some 12, none, .mv (.s 38)⟩] [] [2, 6, 8, 11, 12, 15, 16, 17, 22, 23, 24]) c11_6)
def c11_8 : ACode :=
  (.seq (.region false [⟨some 26, none, .ia 9 (.s 22) (.s 24)⟩,
    ⟨some 27, none, .ld true 9 (.s 26)⟩,
    ⟨some 10, none, .alloc [.t (.str []), .t (.str []), .t (.str []), .nils, .t (.str []), .nils, .t (.str []), .t (.int .i64 0), .nils]⟩,
    ⟨none, none, .st 9 (.s 10) (.s 27)⟩] [] [2, 6, 8, 10, 15, 16, 17, 22, 23, 24]) c11_7)
def c11_9 : ACode :=
  (.seq (.block 3 c11_8) c11_2)
def c11_10 : ACode :=
  (.seq (.cond (.s 25) .skip (.exit 2)) c11_9)
def c11_11 : ACode :=
  (.seq (.region false [⟨some 25, none, .bin .lss (.s 24) (.s 23)⟩] [] [2, 6, 8, 15, 16, 17, 22, 23, 24, 25]) c11_10)
def c11_12 : ACode :=
  (.loop c11_11)
def c11_13 : ACode :=
  (.block 2 c11_12)
def c11_14 : ACode :=
  (.seq (.region false [⟨some 21, none, .fa 5 (.s 8)⟩,
    ⟨some 22, none, .ld false 1 (.s 21)⟩,
    ⟨some 23, none, .len (.s 22)⟩,
    ⟨some 24, none, .cst (.t (.int .i64 0))⟩] [] [2, 6, 8, 15, 16, 17, 22, 23, 24]) c11_13)
def c11_15 : ACode :=
  (.seq (.region false [⟨some 19, none, .ia 6 (.s 15) (.s 17)⟩,
    ⟨some 20, none, .ld true 6 (.s 19)⟩,
    ⟨some 8, none, .alloc [.t (.int .i64 0), .t (.str []), .t (.str []), .t (.str []), .nils, .nils]⟩,
    ⟨none, none, .st 6 (.s 8) (.s 20)⟩] [] [2, 6, 8, 15, 16, 17]) c11_14)
def c11_16 : ACode :=
  (.seq (.block 1 c11_15) c11_1)
def c11_17 : ACode :=
  (.seq (.cond (.s 18) .skip (.exit 0)) c11_16)
def c11_18 : ACode :=
  (.seq (.region false [⟨some 18, none, .bin .lss (.s 17) (.s 16)⟩] [] [2, 6, 15, 16, 17, 18]) c11_17)
def c11_19 : ACode :=
  (.loop c11_18)
def c11_20 : ACode :=
  (.block 0 c11_19)
def c11_21 : ACode :=
  (.seq (.seq (.region false [⟨some 13, none, .ld true 4 (.s 2)⟩,
    ⟨some 14, none, .ld true 2 (.s 3)⟩,
    ⟨some 15, none, .call 10 [(.s 13), (.s 14)]⟩,
    ⟨some 16, none, .len (.s 15)⟩,
    ⟨some 17, none, .cst (.t (.int .i64 0))⟩] [] [2, 6, 15, 16, 17]) c11_20) c11_0)
def c11_22 : ACode :=
  (.seq (.region false [⟨some 6, none, .cst (.t (.int .i64 0))⟩] [] [2, 3, 6]) c11_21)
def c11 : ACode :=
  (.seq (.region false [⟨some 2, none, .box 4 (.s 0)⟩,
    ⟨some 3, none, .box 2 (.s 1)⟩,
    ⟨some 4, none, .cst (.t (.int .i64 0))⟩,
    ⟨some 5, none, .cst (.t (.int .i64 0))⟩] [] [2, 3]) c11_22)
def r11 : List ARes := [.tmp 4, .tmp 5]
def n11 : Nat := 47
/- 12 slices.Reverse[[]supergraph api.Hop,supergraph api.Hop] -/
def c12_0 : ACode :=
  (.region false [⟨some 10, none, .mv (.s 2)⟩,
    ⟨some 11, none, .bin .add (.s 10) (.c (.t (.int .i64 1)))⟩,
    ⟨some 12, none, .mv (.s 3)⟩,
    ⟨some 13, none, .bin .sub (.s 12) (.c (.t (.int .i64 1)))⟩,
    ⟨some 2, none, .mv (.s 11)⟩,
    ⟨some 3, none, .mv (.s 13)⟩] [] [0, 2, 3])
def c12_1 : ACode :=
  (.region true [⟨some 14, none, .mv (.s 0)⟩,
    ⟨some 15, none, .mv (.s 2)⟩,
    ⟨some 16, none, .mv (.s 0)⟩,
    ⟨some 17, none, .mv (.s 3)⟩,
    ⟨some 18, none, .mv (.s 0)⟩,
    ⟨some 19, none, .mv (.s 3)⟩,
    ⟨some 20, none, .ia 2 (.s 18) (.s 19)⟩,
    ⟨some 21, none, .ld true 2 (.s 20)⟩,
    ⟨some 22, none, .mv (.s 0)⟩,
    ⟨some 23, none, .mv (.s 2)⟩,
    ⟨some 24, none, .ia 2 (.s 22) (.s 23)⟩,
    ⟨some 25, none, .ld true 2 (.s 24)⟩,
    ⟨some 26, none, .ia 2 (.s 14) (.s 15)⟩,
    ⟨none, none, .st 2 (.s 26) (.s 21)⟩,
    ⟨some 27, none, .ia 2 (.s 16) (.s 17)⟩,
    ⟨none, none, .st 2 (.s 27) (.s 25)⟩] [[], [], [], [], [], [], [4, 5], [6], [], [], [8, 9], [10], [0, 1, 0, 1, 4, 5, 6, 7, 11], [12, 7, 0, 1, 4, 5, 6, 7, 11], [2, 3, 0, 1, 2, 3, 4, 5, 6, 7, 8, 9, 10, 11, 12, 13], [14, 11, 13, 0, 1, 2, 3, 4, 5, 6, 7, 8, 9, 10, 11, 12, 13]] [0, 2, 3])
def c12_2 : ACode :=
  (.seq (.block 1 c12_1) c12_0)
def c12_3 : ACode :=
  (.cond (.s 9) .skip (.exit 0))
def c12_4 : ACode :=
  (.seq (.seq (.region false [⟨some 7, none, .mv (.s 2)⟩,
    ⟨some 8, none, .mv (.s 3)⟩,
    ⟨some 9, none, .bin .lss (.s 7) (.s 8)⟩] [] [0, 2, 3, 9]) c12_3) c12_2)
def c12_5 : ACode :=
  (.loop c12_4)
def c12_6 : ACode :=
  (.block 0 c12_5)
def c12 : ACode :=
  (.seq (.region false [⟨some 4, none, .mv (.s 0)⟩,
    ⟨some 5, none, .len (.s 4)⟩,
    ⟨some 6, none, .bin .sub (.s 5) (.c (.t (.int .i64 1)))⟩,
    ⟨some 2, none, .cst (.t (.int .i64 0))⟩,
    ⟨some 3, none, .mv (.s 6)⟩] [] [0, 2, 3]) c12_6)
def r12 : List ARes := []
def n12 : Nat := 28
/- 13 supergraph schema.Root -/
def c13_0 : ACode :=
  (.seq (.region false [⟨some 2, none, .cst (.t (.str []))⟩] [] [2]) .ret)
def c13_1 : ACode :=
  (.seq (.region false [⟨some 2, none, .cst (.t (.str [81, 117, 101, 114, 121]))⟩] [] [2]) .ret)
def c13_2 : ACode :=
  (.seq (.region false [⟨some 2, none, .cst (.t (.str [77, 117, 116, 97, 116, 105, 111, 110]))⟩] [] [2]) .ret)
def c13_3 : ACode :=
  (.seq (.region false [⟨some 2, none, .cst (.t (.str [83, 117, 98, 115, 99, 114, 105, 112, 116, 105, 111, 110]))⟩] [] [2]) .ret)
def c13_4 : ACode :=
  (.cond (.s 8) c13_3 .skip)
def c13_5 : ACode :=
  (.seq (.region false [⟨some 9, none, .bin .eql (.s 3) (.c (.t (.int .i64 3)))⟩,
    ⟨some 8, none, .mv (.s 9)⟩] [] [8]) c13_4)
def c13_6 : ACode :=
  (.cond (.s 6) c13_2 c13_5)
def c13_7 : ACode :=
  (.seq (.region false [⟨some 7, none, .bin .eql (.s 3) (.c (.t (.int .i64 2)))⟩,
    ⟨some 6, none, .mv (.s 7)⟩] [] [3, 6]) c13_6)
def c13_8 : ACode :=
  (.cond (.s 4) c13_1 c13_7)
def c13_9 : ACode :=
  (.seq (.region false [⟨some 5, none, .bin .eql (.s 3) (.c (.t (.int .i64 1)))⟩,
    ⟨some 4, none, .mv (.s 5)⟩] [] [3, 4]) c13_8)
def c13_10 : ACode :=
  (.block 0 c13_9)
def c13_11 : ACode :=
  (.seq (.seq (.region false [⟨some 3, none, .mv (.s 0)⟩] [] [3]) c13_10) c13_0)
def c13 : ACode :=
  (.seq (.region false [⟨some 2, none, .cst (.t (.str []))⟩] [] [0]) c13_11)
def r13 : List ARes := [.tmp 2]
def n13 : Nat := 10
/- 14 supergraph need.copied -/
def c14_0 : ACode :=
  (.seq (.region false [⟨some 33, none, .ld true 9 (.s 1)⟩,
    ⟨none, none, .st 9 (.s 2) (.s 33)⟩] [] [2]) .ret)
def c14_1 : ACode :=
  (.region false [⟨some 32, none, .bin .add (.s 21) (.c (.t (.int .i64 1)))⟩,
    ⟨some 21, none, .mv (.s 32)⟩] [] [1, 2, 19, 20, 21])
def c14_2 : ACode :=
  (.region true [⟨some 25, none, .fa 8 (.s 1)⟩,
    ⟨some 26, none, .ld false 1 (.s 25)⟩,
    ⟨some 27, none, .ld true 9 (.s 5)⟩,
    ⟨some 28, none, .call 14 [(.s 27)]⟩,
    ⟨some 29, none, .bsl false 9 [[.str [], .str [], .str [], .lst [], .str [], .lst [], .str [], .int .i64 0, .lst []]] [(0, (.s 28))]⟩,
    ⟨some 30, none, .app 9 160 (.s 26) (.s 29)⟩,
    ⟨some 31, none, .fa 8 (.s 1)⟩,
    ⟨none, none, .st 1 (.s 31) (.s 30)⟩] [[], [0], [], [2], [3], [1, 4, 3], [0, 1, 2, 3, 4, 5], [6, 5, 5, 0, 1, 2, 3, 4, 5]] [1, 2, 19, 20, 21])
def c14_3 : ACode :=
  (.seq (.region false [⟨some 23, none, .ia 9 (.s 19) (.s 21)⟩,
    ⟨some 24, none, .ld true 9 (.s 23)⟩,
    ⟨some 5, none, .alloc [.t (.str []), .t (.str []), .t (.str []), .nils, .t (.str []), .nils, .t (.str []), .t (.int .i64 0), .nils]⟩,
    ⟨none, none, .st 9 (.s 5) (.s 24)⟩] [] [1, 2, 5, 19, 20, 21]) c14_2)
def c14_4 : ACode :=
  (.seq (.block 1 c14_3) c14_1)
def c14_5 : ACode :=
  (.seq (.cond (.s 22) .skip (.exit 0)) c14_4)
def c14_6 : ACode :=
  (.seq (.region false [⟨some 22, none, .bin .lss (.s 21) (.s 20)⟩] [] [1, 2, 19, 20, 21, 22]) c14_5)
def c14_7 : ACode :=
  (.loop c14_6)
def c14_8 : ACode :=
  (.block 0 c14_7)
def c14_9 : ACode :=
  (.seq (.seq (.region false [⟨some 19, none, .mv (.s 3)⟩,
    ⟨some 20, none, .len (.s 19)⟩,
    ⟨some 21, none, .cst (.t (.int .i64 0))⟩] [] [1, 2, 19, 20, 21]) c14_8) c14_0)
def c14_10 : ACode :=
  (.seq (.region false [⟨some 18, none, .fa 8 (.s 1)⟩,
    ⟨none, none, .st 1 (.s 18) (.c (.nils))⟩] [] [1, 2, 3]) c14_9)
def c14_11 : ACode :=
  (.seq (.region false [⟨some 16, none, .fa 8 (.s 1)⟩,
    ⟨some 17, none, .ld false 1 (.s 16)⟩,
    ⟨some 3, none, .mv (.s 17)⟩] [] [1, 2, 3]) c14_10)
def c14_12 : ACode :=
  (.seq (.region false [⟨some 10, none, .fa 4 (.s 1)⟩,
    ⟨some 11, none, .fa 1 (.s 10)⟩,
    ⟨some 12, none, .ld false 1 (.s 11)⟩,
    ⟨some 13, none, .call 19 [(.s 12)]⟩,
    ⟨some 14, none, .fa 4 (.s 1)⟩,
    ⟨some 15, none, .fa 1 (.s 14)⟩,
    ⟨none, none, .st 1 (.s 15) (.s 13)⟩] [] [1, 2]) c14_11)
def c14_13 : ACode :=
  (.seq (.region false [⟨some 6, none, .fa 3 (.s 1)⟩,
    ⟨some 7, none, .ld false 1 (.s 6)⟩,
    ⟨some 8, none, .call 18 [(.s 7)]⟩,
    ⟨some 9, none, .fa 3 (.s 1)⟩,
    ⟨none, none, .st 1 (.s 9) (.s 8)⟩] [] [1, 2]) c14_12)
def c14 : ACode :=
  (.seq (.region false [⟨some 1, none, .box 9 (.s 0)⟩,
    ⟨some 2, none, .alloc [.t (.str []), .t (.str []), .t (.str []), .nils, .t (.str []), .nils, .t (.str []), .t (.int .i64 0), .nils]⟩] [] [1, 2]) c14_13)
def r14 : List ARes := [.cell 2 true 9]
def n14 : Nat := 34
/- 15 (*supergraph need.walker).add -/
def c15_0 : ACode :=
  (.region false [⟨some 80, none, .bin .add (.s 29) (.c (.t (.int .i64 1)))⟩,
    ⟨some 29, none, .mv (.s 80)⟩] [] [2, 3, 4, 27, 28, 29])
def c15_1 : ACode :=
  (.region false [⟨some 79, none, .bin .add (.s 43) (.c (.t (.int .i64 1)))⟩,
    ⟨some 43, none, .mv (.s 79)⟩] [] [2, 3, 4, 6, 27, 28, 29, 41, 42, 43])
def c15_2 : ACode :=
  (.region false [⟨some 67, none, .ld false 1 (.s 2)⟩,
    ⟨some 68, none, .mv (.s 4)⟩,
    ⟨some 69, none, .fa 3 (.s 3)⟩,
    ⟨some 70, none, .ld false 1 (.s 69)⟩,
    ⟨some 71, none, .fa 0 (.s 6)⟩,
    ⟨some 72, none, .ld false 1 (.s 71)⟩,
    ⟨some 73, none, .build [.t (.str []), .t (.str [])] [(0, 1, (.s 70)), (1, 1, (.s 72))]⟩,
    ⟨some 74, none, .ld false 1 (.s 8)⟩,
    ⟨some 75, none, .mv (.s 10)⟩,
    ⟨some 76, none, .mv (.s 9)⟩,
    ⟨some 77, none, .build [.t (.int .i64 0), .t (.str []), .t (.str []), .t (.str []), .nils, .nils] [(0, 1, (.s 68)), (1, 2, (.s 73)), (3, 1, (.s 74)), (4, 1, (.s 75)), (5, 1, (.s 76))]⟩,
    ⟨some 78, none, .call 15 [(.s 67), (.s 77)]⟩] [] [2, 3, 4, 6, 27, 28, 29, 41, 42, 43])
def c15_3 : ACode :=
  (.seq (.region true [⟨some 54, none, .ld false 1 (.s 2)⟩,
    ⟨some 55, none, .nilck (.s 54)⟩,
    ⟨some 56, none, .fa 0 (.s 55)⟩,
    ⟨some 57, none, .ld true 4 (.s 56)⟩,
    ⟨some 58, none, .fa 3 (.s 3)⟩,
    ⟨some 59, none, .ld false 1 (.s 58)⟩,
    ⟨some 60, none, .fa 4 (.s 3)⟩,
    ⟨some 61, none, .ld false 1 (.s 60)⟩,
    ⟨some 62, none, .fa 2 (.s 6)⟩,
    ⟨some 63, none, .ld false 1 (.s 62)⟩,
    ⟨some 64, none, .call 23 [(.s 57), (.s 59), (.s 61), (.s 63)]⟩,
    ⟨some 65, none, .mkfn 24 [(.s 2), (.s 8)]⟩,
    ⟨some 66, none, .call 22 [(.s 64), (.s 65)]⟩,
    ⟨some 10, none, .mv (.s 66)⟩] [[], [0], [1], [2], [], [4], [], [6], [], [8], [3, 5, 7, 9], [], [10, 11, 10], [12, 12, 0, 1, 2, 3, 4, 5, 6, 7, 8, 9, 10, 11, 12]] [2, 3, 4, 6, 8, 9, 10, 27, 28, 29, 41, 42, 43]) c15_2)
def c15_4 : ACode :=
  (.cond (.s 53) (.exit 3) .skip)
def c15_5 : ACode :=
  (.seq (.seq (.region false [⟨some 51, none, .mv (.s 9)⟩,
    ⟨some 52, none, .len (.s 51)⟩,
    ⟨some 53, none, .bin .eql (.s 52) (.c (.t (.int .i64 0)))⟩] [] [2, 3, 4, 6, 8, 9, 27, 28, 29, 41, 42, 43, 53]) c15_4) c15_3)
def c15_6 : ACode :=
  (.seq (.region false [⟨some 47, none, .fa 8 (.s 6)⟩,
    ⟨some 48, none, .ld false 1 (.s 47)⟩,
    ⟨some 49, none, .ld false 1 (.s 8)⟩,
    ⟨some 50, none, .call 21 [(.s 48), (.s 49)]⟩,
    ⟨some 9, none, .mv (.s 50)⟩] [] [2, 3, 4, 6, 8, 9, 27, 28, 29, 41, 42, 43]) c15_5)
def c15_7 : ACode :=
  (.seq (.region false [⟨some 45, none, .ia 1 (.s 41) (.s 43)⟩,
    ⟨some 46, none, .ld false 1 (.s 45)⟩,
    ⟨some 8, none, .alloc [.t (.str [])]⟩,
    ⟨none, none, .st 1 (.s 8) (.s 46)⟩] [] [2, 3, 4, 6, 8, 27, 28, 29, 41, 42, 43]) c15_6)
def c15_8 : ACode :=
  (.seq (.block 3 c15_7) c15_1)
def c15_9 : ACode :=
  (.seq (.cond (.s 44) .skip (.exit 2)) c15_8)
def c15_10 : ACode :=
  (.seq (.region false [⟨some 44, none, .bin .lss (.s 43) (.s 42)⟩] [] [2, 3, 4, 6, 27, 28, 29, 41, 42, 43, 44]) c15_9)
def c15_11 : ACode :=
  (.loop c15_10)
def c15_12 : ACode :=
  (.block 2 c15_11)
def c15_13 : ACode :=
  (.seq (.region true [⟨some 33, none, .ld false 1 (.s 2)⟩,
    ⟨some 34, none, .nilck (.s 33)⟩,
    ⟨some 35, none, .fa 0 (.s 34)⟩,
    ⟨some 36, none, .fa 1 (.s 35)⟩,
    ⟨some 37, none, .ld true 1 (.s 36)⟩,
    ⟨some 38, none, .fa 4 (.s 6)⟩,
    ⟨some 39, none, .fa 0 (.s 38)⟩,
    ⟨some 40, none, .ld false 1 (.s 39)⟩,
    ⟨some 41, none, .call 20 [(.s 37), (.s 40)]⟩,
    ⟨some 42, none, .len (.s 41)⟩,
    ⟨some 43, none, .cst (.t (.int .i64 0))⟩] [[], [0], [1], [2], [3], [], [5], [6], [4, 7], [8], []] [2, 3, 4, 6, 27, 28, 29, 41, 42, 43]) c15_12)
def c15_14 : ACode :=
  (.seq (.region false [⟨some 31, none, .ia 9 (.s 27) (.s 29)⟩,
    ⟨some 32, none, .ld true 9 (.s 31)⟩,
    ⟨some 6, none, .alloc [.t (.str []), .t (.str []), .t (.str []), .nils, .t (.str []), .nils, .t (.str []), .t (.int .i64 0), .nils]⟩,
    ⟨none, none, .st 9 (.s 6) (.s 32)⟩] [] [2, 3, 4, 6, 27, 28, 29]) c15_13)
def c15_15 : ACode :=
  (.seq (.block 1 c15_14) c15_0)
def c15_16 : ACode :=
  (.seq (.cond (.s 30) .skip (.exit 0)) c15_15)
def c15_17 : ACode :=
  (.seq (.region false [⟨some 30, none, .bin .lss (.s 29) (.s 28)⟩] [] [2, 3, 4, 27, 28, 29, 30]) c15_16)
def c15_18 : ACode :=
  (.loop c15_17)
def c15_19 : ACode :=
  (.block 0 c15_18)
def c15_20 : ACode :=
  (.seq (.region false [⟨some 26, none, .fa 5 (.s 3)⟩,
    ⟨some 27, none, .ld false 1 (.s 26)⟩,
    ⟨some 28, none, .len (.s 27)⟩,
    ⟨some 29, none, .cst (.t (.int .i64 0))⟩] [] [2, 3, 4, 27, 28, 29]) c15_19)
def c15_21 : ACode :=
  (.seq (.region true [⟨some 16, none, .ld false 1 (.s 2)⟩,
    ⟨some 17, none, .ld false 1 (.s 2)⟩,
    ⟨some 18, none, .nilck (.s 17)⟩,
    ⟨some 19, none, .fa 4 (.s 18)⟩,
    ⟨some 20, none, .ld false 1 (.s 19)⟩,
    ⟨some 21, none, .ld true 6 (.s 3)⟩,
    ⟨some 22, none, .bsl false 6 [[.int .i64 0, .str [], .str [], .str [], .lst [], .lst []]] [(0, (.s 21))]⟩,
    ⟨some 23, none, .app 6 104 (.s 20) (.s 22)⟩,
    ⟨some 24, none, .nilck (.s 16)⟩,
    ⟨some 25, none, .fa 4 (.s 24)⟩,
    ⟨none, none, .st 1 (.s 25) (.s 23)⟩] [[], [], [1], [2], [3], [], [5], [4, 6], [0, 0, 1, 2, 3, 4, 5, 6, 7], [8, 0, 1, 2, 3, 4, 5, 6, 7], [9, 7, 7, 0, 1, 2, 3, 4, 5, 6, 7]] [2, 3, 4]) c15_20)
def c15_22 : ACode :=
  (.seq (.region false [⟨some 11, none, .ld false 1 (.s 2)⟩,
    ⟨some 12, none, .nilck (.s 11)⟩,
    ⟨some 13, none, .fa 4 (.s 12)⟩,
    ⟨some 14, none, .ld false 1 (.s 13)⟩,
    ⟨some 15, none, .len (.s 14)⟩,
    ⟨some 4, none, .mv (.s 15)⟩] [] [2, 3, 4]) c15_21)
def c15 : ACode :=
  (.seq (.region false [⟨some 2, none, .box 1 (.s 0)⟩,
    ⟨some 3, none, .box 6 (.s 1)⟩] [] [2, 3]) c15_22)
def r15 : List ARes := []
def n15 : Nat := 81
/- 16 supergraph reach.Roots -/
def c16_0 : ACode :=
  (.seq (.region false [⟨some 23, none, .mv (.s 5)⟩,
    ⟨some 4, none, .mv (.s 23)⟩] [] [4]) .ret)
def c16_1 : ACode :=
  (.region false [⟨some 22, none, .bin .add (.s 10) (.c (.t (.int .i64 1)))⟩,
    ⟨some 10, none, .mv (.s 22)⟩] [] [2, 3, 5, 9, 10])
def c16_2 : ACode :=
  (.region false [⟨some 17, none, .mv (.s 5)⟩,
    ⟨some 18, none, .ld false 1 (.s 6)⟩,
    ⟨some 19, none, .build [.t (.int .i64 0), .t (.int .i64 0), .nils] [(0, 1, (.s 18)), (1, 1, (.c (.t (.int .i64 1))))]⟩,
    ⟨some 20, none, .bsl false 3 [[.int .i64 0, .int .i64 0, .lst []]] [(0, (.s 19))]⟩,
    ⟨some 21, none, .app 3 40 (.s 17) (.s 20)⟩,
    ⟨some 5, none, .mv (.s 21)⟩] [] [2, 3, 5, 9, 10])
def c16_3 : ACode :=
  (.cond (.s 16) c16_2 .skip)
def c16_4 : ACode :=
  (.seq (.region false [⟨some 13, none, .fa 3 (.s 2)⟩,
    ⟨some 14, none, .ld false 1 (.s 13)⟩,
    ⟨some 15, none, .mkfn 27 [(.s 3), (.s 6)]⟩,
    ⟨some 16, none, .call 26 [(.s 14), (.s 15)]⟩] [] [2, 3, 5, 6, 9, 10, 16]) c16_3)
def c16_5 : ACode :=
  (.seq (.region false [⟨some 12, none, .mv (.s 10)⟩,
    ⟨some 6, none, .alloc [.t (.int .i64 0)]⟩,
    ⟨none, none, .st 1 (.s 6) (.s 12)⟩] [] [2, 3, 5, 6, 9, 10]) c16_4)
def c16_6 : ACode :=
  (.seq (.block 1 c16_5) c16_1)
def c16_7 : ACode :=
  (.seq (.cond (.s 11) .skip (.exit 0)) c16_6)
def c16_8 : ACode :=
  (.seq (.region false [⟨some 11, none, .bin .lss (.s 10) (.s 9)⟩] [] [2, 3, 5, 9, 10, 11]) c16_7)
def c16_9 : ACode :=
  (.loop c16_8)
def c16_10 : ACode :=
  (.block 0 c16_9)
def c16_11 : ACode :=
  (.seq (.seq (.region false [⟨some 7, none, .fa 0 (.s 2)⟩,
    ⟨some 8, none, .ld false 1 (.s 7)⟩,
    ⟨some 9, none, .len (.s 8)⟩,
    ⟨some 10, none, .cst (.t (.int .i64 0))⟩] [] [2, 3, 5, 9, 10]) c16_10) c16_0)
def c16_12 : ACode :=
  (.seq (.region false [⟨some 5, none, .cst (.nils)⟩] [] [2, 3, 5]) c16_11)
def c16 : ACode :=
  (.seq (.region false [⟨some 2, none, .box 4 (.s 0)⟩,
    ⟨some 3, none, .box 1 (.s 1)⟩,
    ⟨some 4, none, .cst (.nils)⟩] [] [2, 3]) c16_12)
def r16 : List ARes := [.tmp 4]
def n16 : Nat := 24
/- 17 supergraph reach.Get -/
def c17_0 : ACode :=
  (.seq (.region false [⟨some 17, none, .mv (.s 10)⟩,
    ⟨some 18, none, .mv (.s 10)⟩,
    ⟨some 19, none, .bin .gtr (.s 18) (.c (.t (.int .i64 0)))⟩,
    ⟨some 8, none, .mv (.s 17)⟩,
    ⟨some 9, none, .mv (.s 19)⟩] [] [8, 9]) .ret)
def c17_1 : ACode :=
  (.seq (.region false [⟨some 11, none, .ld true 4 (.s 4)⟩,
    ⟨some 12, none, .mv (.s 1)⟩,
    ⟨some 13, none, .mv (.s 2)⟩,
    ⟨some 14, none, .call 28 [(.s 11), (.s 12), (.s 13)]⟩,
    ⟨some 15, none, .mv (.s 3)⟩,
    ⟨some 16, none, .call 29 [(.s 14), (.s 15)]⟩,
    ⟨some 10, none, .mv (.s 16)⟩] [] [10]) c17_0)
def c17 : ACode :=
  (.seq (.region false [⟨some 4, none, .box 4 (.s 0)⟩,
    ⟨some 8, none, .cst (.t (.int .i64 0))⟩,
    ⟨some 9, none, .cst (.t (.bool false))⟩] [] [1, 2, 3, 4]) c17_1)
def r17 : List ARes := [.tmp 8, .tmp 9]
def n17 : Nat := 20
/- 18 slices.Clone[[]supergraph api.Arg,supergraph api.Arg] -/
def c18_0 : ACode :=
  (.seq (.region false [⟨some 5, none, .bsl true 6 [] []⟩,
    ⟨some 6, none, .mv (.s 0)⟩,
    ⟨some 7, none, .app 6 96 (.s 5) (.s 6)⟩,
    ⟨some 2, none, .mv (.s 7)⟩] [] [2]) .ret)
def c18_1 : ACode :=
  (.seq (.region false [⟨some 2, none, .cst (.nils)⟩] [] [2]) .ret)
def c18_2 : ACode :=
  (.cond (.s 4) c18_1 .skip)
def c18_3 : ACode :=
  (.seq (.seq (.region false [⟨some 3, none, .mv (.s 0)⟩,
    ⟨some 4, none, .nw (.eqn false (.s 3))⟩] [] [0, 4]) c18_2) c18_0)
def c18 : ACode :=
  (.seq (.region false [⟨some 2, none, .cst (.nils)⟩] [] [0]) c18_3)
def r18 : List ARes := [.tmp 2]
def n18 : Nat := 8
/- 19 slices.Clone[[]int,int] -/
def c19_0 : ACode :=
  (.seq (.region false [⟨some 5, none, .bsl true 1 [] []⟩,
    ⟨some 6, none, .mv (.s 0)⟩,
    ⟨some 7, none, .app 1 8 (.s 5) (.s 6)⟩,
    ⟨some 2, none, .mv (.s 7)⟩] [] [2]) .ret)
def c19_1 : ACode :=
  (.seq (.region false [⟨some 2, none, .cst (.nils)⟩] [] [2]) .ret)
def c19_2 : ACode :=
  (.cond (.s 4) c19_1 .skip)
def c19_3 : ACode :=
  (.seq (.seq (.region false [⟨some 3, none, .mv (.s 0)⟩,
    ⟨some 4, none, .nw (.eqn false (.s 3))⟩] [] [0, 4]) c19_2) c19_0)
def c19 : ACode :=
  (.seq (.region false [⟨some 2, none, .cst (.nils)⟩] [] [0]) c19_3)
def r19 : List ARes := [.tmp 2]
def n19 : Nat := 8
/- 20 supergraph abstract.Possible -/
def c20_0 : ACode :=
  (.seq (.region false [⟨some 112, none, .mv (.s 15)⟩,
    ⟨some 4, none, .mv (.s 112)⟩] [] [4]) .ret)
def c20_1 : ACode :=
  (.region false [⟨some 111, none, .bin .add (.s 95) (.c (.t (.int .i64 1)))⟩,
    ⟨some 95, none, .mv (.s 111)⟩] [] [7, 15, 93, 94, 95])
def c20_2 : ACode :=
  (.region false [⟨some 108, none, .mv (.s 7)⟩,
    ⟨some 109, none, .fa 1 (.s 17)⟩,
    ⟨some 110, none, .ld false 1 (.s 109)⟩,
    ⟨none, none, .nw (.mdel [.str] false (.s 108) (.s 110))⟩] [] [7, 15, 93, 94, 95])
def c20_3 : ACode :=
  (.seq (.region false [⟨some 103, none, .mv (.s 15)⟩,
    ⟨some 104, none, .fa 1 (.s 17)⟩,
    ⟨some 105, none, .ld false 1 (.s 104)⟩,
    ⟨some 106, none, .bsl false 1 [[.str []]] [(0, (.s 105))]⟩,
    ⟨some 107, none, .app 1 16 (.s 103) (.s 106)⟩,
    ⟨some 15, none, .mv (.s 107)⟩] [] [7, 15, 17, 93, 94, 95]) c20_2)
def c20_4 : ACode :=
  (.cond (.s 102) c20_3 .skip)
def c20_5 : ACode :=
  (.seq (.region false [⟨some 99, none, .mv (.s 7)⟩,
    ⟨some 100, none, .fa 1 (.s 17)⟩,
    ⟨some 101, none, .ld false 1 (.s 100)⟩,
    ⟨some 102, none, .nw (.lookup [.str] false (.t (.bool false)) false (.s 99) (.s 101))⟩] [] [7, 15, 17, 93, 94, 95, 102]) c20_4)
def c20_6 : ACode :=
  (.seq (.region false [⟨some 97, none, .ia 7 (.s 93) (.s 95)⟩,
    ⟨some 98, none, .ld true 7 (.s 97)⟩,
    ⟨some 17, none, .alloc [.t (.int .i64 0), .t (.str []), .nils, .nils, .nils, .nils, .nils]⟩,
    ⟨none, none, .st 7 (.s 17) (.s 98)⟩] [] [7, 15, 17, 93, 94, 95]) c20_5)
def c20_7 : ACode :=
  (.seq (.block 8 c20_6) c20_1)
def c20_8 : ACode :=
  (.seq (.cond (.s 96) .skip (.exit 7)) c20_7)
def c20_9 : ACode :=
  (.seq (.region false [⟨some 96, none, .bin .lss (.s 95) (.s 94)⟩] [] [7, 15, 93, 94, 95, 96]) c20_8)
def c20_10 : ACode :=
  (.loop c20_9)
def c20_11 : ACode :=
  (.block 7 c20_10)
def c20_12 : ACode :=
  (.seq (.seq (.region false [⟨some 92, none, .fa 0 (.s 2)⟩,
    ⟨some 93, none, .ld false 1 (.s 92)⟩,
    ⟨some 94, none, .len (.s 93)⟩,
    ⟨some 95, none, .cst (.t (.int .i64 0))⟩] [] [7, 15, 93, 94, 95]) c20_11) c20_0)
def c20_13 : ACode :=
  (.seq (.region false [⟨some 15, none, .cst (.nils)⟩] [] [2, 7, 15]) c20_12)
def c20_14 : ACode :=
  (.region false [⟨some 90, none, .mv (.s 7)⟩,
    ⟨some 91, none, .mv (.s 12)⟩,
    ⟨none, none, .nw (.mdel [.str] false (.s 90) (.s 91))⟩] [] [1, 2, 5, 7, 61])
def c20_15 : ACode :=
  (.cond (.s 89) c20_14 .skip)
def c20_16 : ACode :=
  (.seq (.region false [⟨some 72, none, .mv (.s 14)⟩,
    ⟨some 73, none, .un .not (.s 72)⟩,
    ⟨some 74, none, .mv (.s 73)⟩,
    ⟨some 75, some (74, false), .fa 0 (.s 13)⟩,
    ⟨some 76, some (74, false), .ld false 1 (.s 75)⟩,
    ⟨some 77, some (74, false), .bin .neq (.s 76) (.c (.t (.int .i64 1)))⟩,
    ⟨some 78, none, .pick (.s 74) (.c (.t (.bool true))) (.s 77)⟩,
    ⟨some 79, none, .mv (.s 78)⟩,
    ⟨some 80, some (79, false), .fa 0 (.s 5)⟩,
    ⟨some 81, some (79, false), .ld false 1 (.s 80)⟩,
    ⟨some 82, some (79, false), .bin .eql (.s 81) (.c (.t (.int .i64 2)))⟩,
    ⟨some 83, some (79, false), .mv (.s 82)⟩,
    ⟨some 84, some (83, true), .ld true 7 (.s 13)⟩,
    ⟨some 85, some (83, true), .mv (.s 1)⟩,
    ⟨some 86, some (83, true), .call 31 [(.s 84), (.s 85)]⟩,
    ⟨some 87, some (83, true), .un .not (.s 86)⟩,
    ⟨some 88, some (79, false), .pick (.s 83) (.s 87) (.c (.t (.bool false)))⟩,
    ⟨some 89, none, .pick (.s 79) (.c (.t (.bool true))) (.s 88)⟩] [] [1, 2, 5, 7, 12, 61, 89]) c20_15)
def c20_17 : ACode :=
  (.seq (.region false [⟨some 67, none, .ld true 1 (.s 2)⟩,
    ⟨some 68, none, .mv (.s 12)⟩,
    ⟨some 69, none, .call 30 [(.s 67), (.s 68)]⟩,
    ⟨some 66, none, .mv (.s 69)⟩,
    ⟨some 70, none, .ext (.s 66) 0⟩,
    ⟨some 71, none, .ext (.s 66) 1⟩,
    ⟨some 13, none, .alloc [.t (.int .i64 0), .t (.str []), .nils, .nils, .nils, .nils, .nils]⟩,
    ⟨none, none, .st 7 (.s 13) (.s 70)⟩,
    ⟨some 14, none, .mv (.s 71)⟩] [] [1, 2, 5, 7, 12, 13, 14, 61]) c20_16)
def c20_18 : ACode :=
  (.seq (.region false [⟨some 64, none, .nw (.ient (.s 61))⟩,
    ⟨some 65, none, .ext (.s 64) 0⟩,
    ⟨some 12, none, .mv (.s 65)⟩] [] [1, 2, 5, 7, 12, 61]) c20_17)
def c20_19 : ACode :=
  (.block 6 c20_18)
def c20_20 : ACode :=
  (.seq (.cond (.s 63) .skip (.exit 5)) c20_19)
def c20_21 : ACode :=
  (.seq (.region false [⟨some 62, none, .nw (.nxt (.s 61))⟩,
    ⟨some 63, none, .ext (.s 62) 0⟩] [] [1, 2, 5, 7, 61, 63]) c20_20)
def c20_22 : ACode :=
  (.loop c20_21)
def c20_23 : ACode :=
  (.block 5 c20_22)
def c20_24 : ACode :=
  (.seq (.seq (.region false [⟨some 60, none, .mv (.s 7)⟩,
    ⟨some 61, none, .mrange (.s 60)⟩] [] [1, 2, 5, 7, 61]) c20_23) c20_13)
def c20_25 : ACode :=
  (.region false [⟨some 29, none, .mv (.s 7)⟩,
    ⟨some 30, none, .mv (.s 1)⟩,
    ⟨none, none, .nw (.mupd [.str] false (.s 29) (.s 30) (.c (.t (.bool true))))⟩] [] [1, 2, 5, 7])
def c20_26 : ACode :=
  (.region false [⟨some 46, none, .bin .add (.s 36) (.c (.t (.int .i64 1)))⟩,
    ⟨some 36, none, .mv (.s 46)⟩] [] [1, 2, 5, 7, 34, 35, 36])
def c20_27 : ACode :=
  (.region false [⟨some 43, none, .mv (.s 7)⟩,
    ⟨some 44, none, .fa 1 (.s 9)⟩,
    ⟨some 45, none, .ld false 1 (.s 44)⟩,
    ⟨none, none, .nw (.mupd [.str] false (.s 43) (.s 45) (.c (.t (.bool true))))⟩] [] [1, 2, 5, 7, 34, 35, 36])
def c20_28 : ACode :=
  (.cond (.s 42) c20_27 .skip)
def c20_29 : ACode :=
  (.seq (.region false [⟨some 40, none, .ld true 7 (.s 9)⟩,
    ⟨some 41, none, .mv (.s 1)⟩,
    ⟨some 42, none, .call 31 [(.s 40), (.s 41)]⟩] [] [1, 2, 5, 7, 9, 34, 35, 36, 42]) c20_28)
def c20_30 : ACode :=
  (.seq (.region false [⟨some 38, none, .ia 7 (.s 34) (.s 36)⟩,
    ⟨some 39, none, .ld true 7 (.s 38)⟩,
    ⟨some 9, none, .alloc [.t (.int .i64 0), .t (.str []), .nils, .nils, .nils, .nils, .nils]⟩,
    ⟨none, none, .st 7 (.s 9) (.s 39)⟩] [] [1, 2, 5, 7, 9, 34, 35, 36]) c20_29)
def c20_31 : ACode :=
  (.seq (.block 2 c20_30) c20_26)
def c20_32 : ACode :=
  (.seq (.cond (.s 37) .skip (.exit 1)) c20_31)
def c20_33 : ACode :=
  (.seq (.region false [⟨some 37, none, .bin .lss (.s 36) (.s 35)⟩] [] [1, 2, 5, 7, 34, 35, 36, 37]) c20_32)
def c20_34 : ACode :=
  (.loop c20_33)
def c20_35 : ACode :=
  (.block 1 c20_34)
def c20_36 : ACode :=
  (.seq (.region false [⟨some 33, none, .fa 0 (.s 2)⟩,
    ⟨some 34, none, .ld false 1 (.s 33)⟩,
    ⟨some 35, none, .len (.s 34)⟩,
    ⟨some 36, none, .cst (.t (.int .i64 0))⟩] [] [1, 2, 5, 7, 34, 35, 36]) c20_35)
def c20_37 : ACode :=
  (.region false [⟨some 59, none, .bin .add (.s 52) (.c (.t (.int .i64 1)))⟩,
    ⟨some 52, none, .mv (.s 59)⟩] [] [1, 2, 5, 7, 50, 51, 52])
def c20_38 : ACode :=
  (.region false [⟨some 56, none, .mv (.s 7)⟩,
    ⟨some 57, none, .fa 0 (.s 11)⟩,
    ⟨some 58, none, .ld false 1 (.s 57)⟩,
    ⟨none, none, .nw (.mupd [.str] false (.s 56) (.s 58) (.c (.t (.bool true))))⟩] [] [1, 2, 5, 7, 50, 51, 52])
def c20_39 : ACode :=
  (.seq (.region false [⟨some 54, none, .ia 2 (.s 50) (.s 52)⟩,
    ⟨some 55, none, .ld true 2 (.s 54)⟩,
    ⟨some 11, none, .alloc [.t (.str []), .nils]⟩,
    ⟨none, none, .st 2 (.s 11) (.s 55)⟩] [] [1, 2, 5, 7, 11, 50, 51, 52]) c20_38)
def c20_40 : ACode :=
  (.seq (.block 4 c20_39) c20_37)
def c20_41 : ACode :=
  (.seq (.cond (.s 53) .skip (.exit 3)) c20_40)
def c20_42 : ACode :=
  (.seq (.region false [⟨some 53, none, .bin .lss (.s 52) (.s 51)⟩] [] [1, 2, 5, 7, 50, 51, 52, 53]) c20_41)
def c20_43 : ACode :=
  (.loop c20_42)
def c20_44 : ACode :=
  (.block 3 c20_43)
def c20_45 : ACode :=
  (.seq (.region false [⟨some 49, none, .fa 5 (.s 5)⟩,
    ⟨some 50, none, .ld false 1 (.s 49)⟩,
    ⟨some 51, none, .len (.s 50)⟩,
    ⟨some 52, none, .cst (.t (.int .i64 0))⟩] [] [1, 2, 5, 7, 50, 51, 52]) c20_44)
def c20_46 : ACode :=
  (.cond (.s 47) c20_45 .skip)
def c20_47 : ACode :=
  (.seq (.region false [⟨some 48, none, .bin .eql (.s 26) (.c (.t (.int .i64 3)))⟩,
    ⟨some 47, none, .mv (.s 48)⟩] [] [1, 2, 5, 7, 47]) c20_46)
def c20_48 : ACode :=
  (.cond (.s 31) c20_36 c20_47)
def c20_49 : ACode :=
  (.seq (.region false [⟨some 32, none, .bin .eql (.s 26) (.c (.t (.int .i64 2)))⟩,
    ⟨some 31, none, .mv (.s 32)⟩] [] [1, 2, 5, 7, 26, 31]) c20_48)
def c20_50 : ACode :=
  (.cond (.s 27) c20_25 c20_49)
def c20_51 : ACode :=
  (.seq (.region false [⟨some 28, none, .bin .eql (.s 26) (.c (.t (.int .i64 1)))⟩,
    ⟨some 27, none, .mv (.s 28)⟩] [] [1, 2, 5, 7, 26, 27]) c20_50)
def c20_52 : ACode :=
  (.block 0 c20_51)
def c20_53 : ACode :=
  (.seq (.seq (.region false [⟨some 25, none, .fa 0 (.s 5)⟩,
    ⟨some 26, none, .ld false 1 (.s 25)⟩] [] [1, 2, 5, 7, 26]) c20_52) c20_24)
def c20_54 : ACode :=
  (.seq (.region false [⟨some 24, none, .mkmap false false⟩,
    ⟨some 7, none, .mv (.s 24)⟩] [] [1, 2, 5, 7]) c20_53)
def c20_55 : ACode :=
  (.seq (.region false [⟨some 19, none, .ld true 1 (.s 2)⟩,
    ⟨some 20, none, .mv (.s 1)⟩,
    ⟨some 21, none, .call 30 [(.s 19), (.s 20)]⟩,
    ⟨some 18, none, .mv (.s 21)⟩,
    ⟨some 22, none, .ext (.s 18) 0⟩,
    ⟨some 23, none, .ext (.s 18) 1⟩,
    ⟨some 5, none, .alloc [.t (.int .i64 0), .t (.str []), .nils, .nils, .nils, .nils, .nils]⟩,
    ⟨none, none, .st 7 (.s 5) (.s 22)⟩,
    ⟨some 6, none, .mv (.s 23)⟩] [] [1, 2, 5]) c20_54)
def c20 : ACode :=
  (.seq (.region false [⟨some 2, none, .box 1 (.s 0)⟩,
    ⟨some 4, none, .cst (.nils)⟩] [] [1, 2]) c20_55)
def r20 : List ARes := [.tmp 4]
def n20 : Nat := 113
/- 21 supergraph need.of -/
def c21_0 : ACode :=
  (.seq (.region false [⟨some 24, none, .mv (.s 5)⟩,
    ⟨some 4, none, .mv (.s 24)⟩] [] [4]) .ret)
def c21_1 : ACode :=
  (.region false [⟨some 23, none, .bin .add (.s 10) (.c (.t (.int .i64 1)))⟩,
    ⟨some 10, none, .mv (.s 23)⟩] [] [1, 5, 8, 9, 10])
def c21_2 : ACode :=
  (.region false [⟨some 18, none, .mv (.s 5)⟩,
    ⟨some 19, none, .ld true 9 (.s 7)⟩,
    ⟨some 20, none, .call 14 [(.s 19)]⟩,
    ⟨some 21, none, .bsl false 9 [[.str [], .str [], .str [], .lst [], .str [], .lst [], .str [], .int .i64 0, .lst []]] [(0, (.s 20))]⟩,
    ⟨some 22, none, .app 9 160 (.s 18) (.s 21)⟩,
    ⟨some 5, none, .mv (.s 22)⟩] [] [1, 5, 8, 9, 10])
def c21_3 : ACode :=
  (.cond (.s 17) c21_2 .skip)
def c21_4 : ACode :=
  (.seq (.region false [⟨some 14, none, .fa 1 (.s 7)⟩,
    ⟨some 15, none, .ld false 1 (.s 14)⟩,
    ⟨some 16, none, .mv (.s 1)⟩,
    ⟨some 17, none, .bin .eql (.s 15) (.s 16)⟩] [] [1, 5, 7, 8, 9, 10, 17]) c21_3)
def c21_5 : ACode :=
  (.seq (.region false [⟨some 12, none, .ia 9 (.s 8) (.s 10)⟩,
    ⟨some 13, none, .ld true 9 (.s 12)⟩,
    ⟨some 7, none, .alloc [.t (.str []), .t (.str []), .t (.str []), .nils, .t (.str []), .nils, .t (.str []), .t (.int .i64 0), .nils]⟩,
    ⟨none, none, .st 9 (.s 7) (.s 13)⟩] [] [1, 5, 7, 8, 9, 10]) c21_4)
def c21_6 : ACode :=
  (.seq (.block 1 c21_5) c21_1)
def c21_7 : ACode :=
  (.seq (.cond (.s 11) .skip (.exit 0)) c21_6)
def c21_8 : ACode :=
  (.seq (.region false [⟨some 11, none, .bin .lss (.s 10) (.s 9)⟩] [] [1, 5, 8, 9, 10, 11]) c21_7)
def c21_9 : ACode :=
  (.loop c21_8)
def c21_10 : ACode :=
  (.block 0 c21_9)
def c21_11 : ACode :=
  (.seq (.seq (.region false [⟨some 8, none, .mv (.s 0)⟩,
    ⟨some 9, none, .len (.s 8)⟩,
    ⟨some 10, none, .cst (.t (.int .i64 0))⟩] [] [1, 5, 8, 9, 10]) c21_10) c21_0)
def c21_12 : ACode :=
  (.seq (.region false [⟨some 5, none, .cst (.nils)⟩] [] [0, 1, 5]) c21_11)
def c21 : ACode :=
  (.seq (.region false [⟨some 4, none, .cst (.nils)⟩] [] [0, 1]) c21_12)
def r21 : List ARes := [.tmp 4]
def n21 : Nat := 25
/- 22 slices.DeleteFunc[[]supergraph api.Spot,supergraph api.Spot] -/
def c22_0 : ACode :=
  (.seq (.region false [⟨some 39, none, .mv (.s 0)⟩,
    ⟨some 40, none, .mv (.s 5)⟩,
    ⟨some 41, none, .sll 3 (.s 39) none (some (.s 40))⟩,
    ⟨some 4, none, .mv (.s 41)⟩] [] [4]) .ret)
def c22_1 : ACode :=
  (.seq (.region false [⟨some 36, none, .mv (.s 0)⟩,
    ⟨some 37, none, .mv (.s 5)⟩,
    ⟨some 38, none, .sll 3 (.s 36) (some (.s 37)) none⟩,
    ⟨none, none, .nw (.sclr 3 [.t (.int .i64 0), .t (.int .i64 0), .nils] (.s 38))⟩] [] [0, 5]) c22_0)
def c22_2 : ACode :=
  (.region false [⟨some 20, none, .mv (.s 6)⟩,
    ⟨some 21, none, .bin .add (.s 20) (.c (.t (.int .i64 1)))⟩,
    ⟨some 6, none, .mv (.s 21)⟩] [] [0, 1, 5, 6])
def c22_3 : ACode :=
  (.region false [⟨some 34, none, .mv (.s 5)⟩,
    ⟨some 35, none, .bin .add (.s 34) (.c (.t (.int .i64 1)))⟩,
    ⟨some 5, none, .mv (.s 35)⟩] [] [0, 1, 5, 6])
def c22_4 : ACode :=
  (.seq (.region false [⟨some 30, none, .mv (.s 0)⟩,
    ⟨some 31, none, .mv (.s 5)⟩,
    ⟨some 32, none, .ld true 3 (.s 7)⟩,
    ⟨some 33, none, .ia 3 (.s 30) (.s 31)⟩,
    ⟨none, none, .st 3 (.s 33) (.s 32)⟩] [] [0, 1, 5, 6]) c22_3)
def c22_5 : ACode :=
  (.cond (.s 29) c22_4 .skip)
def c22_6 : ACode :=
  (.seq (.region false [⟨some 26, none, .mv (.s 1)⟩,
    ⟨some 27, none, .ld true 3 (.s 7)⟩,
    ⟨some 28, none, .callv (.s 26) [(.s 27)]⟩,
    ⟨some 29, none, .un .not (.s 28)⟩] [] [0, 1, 5, 6, 7, 29]) c22_5)
def c22_7 : ACode :=
  (.seq (.region false [⟨some 22, none, .mv (.s 0)⟩,
    ⟨some 23, none, .mv (.s 6)⟩,
    ⟨some 24, none, .ia 3 (.s 22) (.s 23)⟩,
    ⟨some 25, none, .ld true 3 (.s 24)⟩,
    ⟨some 7, none, .alloc [.t (.int .i64 0), .t (.int .i64 0), .nils]⟩,
    ⟨none, none, .st 3 (.s 7) (.s 25)⟩] [] [0, 1, 5, 6, 7]) c22_6)
def c22_8 : ACode :=
  (.seq (.block 1 c22_7) c22_2)
def c22_9 : ACode :=
  (.cond (.s 19) .skip (.exit 0))
def c22_10 : ACode :=
  (.seq (.seq (.region false [⟨some 16, none, .mv (.s 6)⟩,
    ⟨some 17, none, .mv (.s 0)⟩,
    ⟨some 18, none, .len (.s 17)⟩,
    ⟨some 19, none, .bin .lss (.s 16) (.s 18)⟩] [] [0, 1, 5, 6, 19]) c22_9) c22_8)
def c22_11 : ACode :=
  (.loop c22_10)
def c22_12 : ACode :=
  (.block 0 c22_11)
def c22_13 : ACode :=
  (.seq (.seq (.region false [⟨some 14, none, .mv (.s 5)⟩,
    ⟨some 15, none, .bin .add (.s 14) (.c (.t (.int .i64 1)))⟩,
    ⟨some 6, none, .mv (.s 15)⟩] [] [0, 1, 5, 6]) c22_12) c22_1)
def c22_14 : ACode :=
  (.seq (.region false [⟨some 13, none, .mv (.s 0)⟩,
    ⟨some 4, none, .mv (.s 13)⟩] [] [4]) .ret)
def c22_15 : ACode :=
  (.cond (.s 12) c22_14 .skip)
def c22_16 : ACode :=
  (.seq (.seq (.region false [⟨some 11, none, .mv (.s 5)⟩,
    ⟨some 12, none, .bin .eql (.s 11) (.c (.t (.int .i64 (-1))))⟩] [] [0, 1, 5, 12]) c22_15) c22_13)
def c22_17 : ACode :=
  (.seq (.region false [⟨some 8, none, .mv (.s 0)⟩,
    ⟨some 9, none, .mv (.s 1)⟩,
    ⟨some 10, none, .call 32 [(.s 8), (.s 9)]⟩,
    ⟨some 5, none, .mv (.s 10)⟩] [] [0, 1, 5]) c22_16)
def c22 : ACode :=
  (.seq (.region false [⟨some 4, none, .cst (.nils)⟩] [] [0, 1]) c22_17)
def r22 : List ARes := [.tmp 4]
def n22 : Nat := 42
/- 23 supergraph reach.Child -/
def c23_0 : ACode :=
  (.seq (.region false [⟨some 64, none, .mv (.s 10)⟩,
    ⟨some 8, none, .mv (.s 64)⟩] [] [8]) .ret)
def c23_1 : ACode :=
  (.region false [⟨some 63, none, .bin .add (.s 22) (.c (.t (.int .i64 1)))⟩,
    ⟨some 22, none, .mv (.s 63)⟩] [] [3, 9, 10, 21, 22])
def c23_2 : ACode :=
  (.region false [⟨some 62, none, .bin .add (.s 30) (.c (.t (.int .i64 1)))⟩,
    ⟨some 30, none, .mv (.s 62)⟩] [] [3, 9, 10, 11, 21, 22, 28, 29, 30])
def c23_3 : ACode :=
  (.region false [⟨some 53, none, .mv (.s 10)⟩,
    ⟨some 54, none, .mv (.s 11)⟩,
    ⟨some 55, none, .mv (.s 14)⟩,
    ⟨some 56, none, .fa 5 (.s 13)⟩,
    ⟨some 57, none, .ld false 1 (.s 56)⟩,
    ⟨some 58, none, .call 34 [(.s 57)]⟩,
    ⟨some 59, none, .build [.t (.int .i64 0), .t (.int .i64 0), .nils] [(0, 1, (.s 54)), (1, 1, (.s 55)), (2, 1, (.s 58))]⟩,
    ⟨some 60, none, .bsl false 3 [[.int .i64 0, .int .i64 0, .lst []]] [(0, (.s 59))]⟩,
    ⟨some 61, none, .app 3 40 (.s 53) (.s 60)⟩,
    ⟨some 10, none, .mv (.s 61)⟩] [] [3, 9, 10, 11, 21, 22, 28, 29, 30])
def c23_4 : ACode :=
  (.cond (.s 52) c23_3 .skip)
def c23_5 : ACode :=
  (.seq (.region false [⟨some 51, none, .mv (.s 14)⟩,
    ⟨some 52, none, .bin .gtr (.s 51) (.c (.t (.int .i64 0)))⟩] [] [3, 9, 10, 11, 13, 14, 21, 22, 28, 29, 30, 52]) c23_4)
def c23_6 : ACode :=
  (.seq (.region false [⟨some 48, none, .mv (.s 9)⟩,
    ⟨some 49, none, .ld true 6 (.s 13)⟩,
    ⟨some 50, none, .call 33 [(.s 48), (.s 49)]⟩,
    ⟨some 14, none, .mv (.s 50)⟩] [] [3, 9, 10, 11, 13, 14, 21, 22, 28, 29, 30]) c23_5)
def c23_7 : ACode :=
  (.cond (.s 47) (.exit 3) .skip)
def c23_8 : ACode :=
  (.seq (.seq (.region false [⟨some 34, none, .fa 1 (.s 13)⟩,
    ⟨some 35, none, .ld false 1 (.s 34)⟩,
    ⟨some 36, none, .mv (.s 3)⟩,
    ⟨some 37, none, .bin .neq (.s 35) (.s 36)⟩,
    ⟨some 38, none, .mv (.s 37)⟩,
    ⟨some 39, some (38, false), .fa 2 (.s 13)⟩,
    ⟨some 40, some (38, false), .ld false 1 (.s 39)⟩,
    ⟨some 41, some (38, false), .mv (.s 11)⟩,
    ⟨some 42, some (38, false), .bin .neq (.s 40) (.s 41)⟩,
    ⟨some 43, none, .pick (.s 38) (.c (.t (.bool true))) (.s 42)⟩,
    ⟨some 44, none, .mv (.s 43)⟩,
    ⟨some 45, some (44, false), .fa 3 (.s 13)⟩,
    ⟨some 46, some (44, false), .ld false 1 (.s 45)⟩,
    ⟨some 47, none, .pick (.s 44) (.c (.t (.bool true))) (.s 46)⟩] [] [3, 9, 10, 11, 13, 21, 22, 28, 29, 30, 47]) c23_7) c23_6)
def c23_9 : ACode :=
  (.seq (.region false [⟨some 32, none, .ia 6 (.s 28) (.s 30)⟩,
    ⟨some 33, none, .ld true 6 (.s 32)⟩,
    ⟨some 13, none, .alloc [.t (.str []), .t (.str []), .t (.int .i64 0), .t (.bool false), .nils, .nils]⟩,
    ⟨none, none, .st 6 (.s 13) (.s 33)⟩] [] [3, 9, 10, 11, 13, 21, 22, 28, 29, 30]) c23_8)
def c23_10 : ACode :=
  (.seq (.block 3 c23_9) c23_2)
def c23_11 : ACode :=
  (.seq (.cond (.s 31) .skip (.exit 2)) c23_10)
def c23_12 : ACode :=
  (.seq (.region false [⟨some 31, none, .bin .lss (.s 30) (.s 29)⟩] [] [3, 9, 10, 11, 21, 22, 28, 29, 30, 31]) c23_11)
def c23_13 : ACode :=
  (.loop c23_12)
def c23_14 : ACode :=
  (.block 2 c23_13)
def c23_15 : ACode :=
  (.seq (.region false [⟨some 25, none, .mv (.s 9)⟩,
    ⟨some 26, none, .nilck (.s 25)⟩,
    ⟨some 27, none, .fa 5 (.s 26)⟩,
    ⟨some 28, none, .ld false 1 (.s 27)⟩,
    ⟨some 29, none, .len (.s 28)⟩,
    ⟨some 30, none, .cst (.t (.int .i64 0))⟩] [] [3, 9, 10, 11, 21, 22, 28, 29, 30]) c23_14)
def c23_16 : ACode :=
  (.seq (.region false [⟨some 24, none, .mv (.s 22)⟩,
    ⟨some 11, none, .mv (.s 24)⟩] [] [3, 9, 10, 11, 21, 22]) c23_15)
def c23_17 : ACode :=
  (.seq (.block 1 c23_16) c23_1)
def c23_18 : ACode :=
  (.seq (.cond (.s 23) .skip (.exit 0)) c23_17)
def c23_19 : ACode :=
  (.seq (.region false [⟨some 23, none, .bin .lss (.s 22) (.s 21)⟩] [] [3, 9, 10, 21, 22, 23]) c23_18)
def c23_20 : ACode :=
  (.loop c23_19)
def c23_21 : ACode :=
  (.block 0 c23_20)
def c23_22 : ACode :=
  (.seq (.seq (.region false [⟨some 19, none, .fa 0 (.s 4)⟩,
    ⟨some 20, none, .ld false 1 (.s 19)⟩,
    ⟨some 21, none, .len (.s 20)⟩,
    ⟨some 22, none, .cst (.t (.int .i64 0))⟩] [] [3, 9, 10, 21, 22]) c23_21) c23_0)
def c23_23 : ACode :=
  (.seq (.region false [⟨some 10, none, .cst (.nils)⟩] [] [3, 4, 9, 10]) c23_22)
def c23_24 : ACode :=
  (.seq (.region false [⟨some 15, none, .ld true 4 (.s 4)⟩,
    ⟨some 16, none, .mv (.s 1)⟩,
    ⟨some 17, none, .mv (.s 2)⟩,
    ⟨some 18, none, .call 28 [(.s 15), (.s 16), (.s 17)]⟩,
    ⟨some 9, none, .mv (.s 18)⟩] [] [3, 4, 9]) c23_23)
def c23 : ACode :=
  (.seq (.region false [⟨some 4, none, .box 4 (.s 0)⟩,
    ⟨some 8, none, .cst (.nils)⟩] [] [1, 2, 3, 4]) c23_24)
def r23 : List ARes := [.tmp 8]
def n23 : Nat := 65
/- 24 (*supergraph need.walker).add 1 -/
def c24_0 : ACode :=
  (.seq (.region false [⟨some 5, none, .ld false 1 (.s 1)⟩,
    ⟨some 6, none, .fa 0 (.s 3)⟩,
    ⟨some 7, none, .ld false 1 (.s 6)⟩,
    ⟨some 8, none, .ld false 1 (.s 2)⟩,
    ⟨some 9, none, .call 25 [(.s 5), (.s 7), (.s 8)]⟩,
    ⟨some 10, none, .un .not (.s 9)⟩,
    ⟨some 4, none, .mv (.s 10)⟩] [] [4]) .ret)
def c24 : ACode :=
  (.seq (.region false [⟨some 3, none, .box 3 (.s 0)⟩,
    ⟨some 4, none, .cst (.t (.bool false))⟩] [] [1, 2, 3]) c24_0)
def r24 : List ARes := [.tmp 4]
def n24 : Nat := 11
/- 25 (*supergraph need.walker).defines -/
def c25_0 : ACode :=
  (.seq (.region false [⟨some 7, none, .mv (.s 0)⟩,
    ⟨some 8, none, .nilck (.s 7)⟩,
    ⟨some 9, none, .fa 0 (.s 8)⟩,
    ⟨some 10, none, .fa 3 (.s 9)⟩,
    ⟨some 11, none, .ld false 1 (.s 10)⟩,
    ⟨some 12, none, .mkfn 35 [(.s 4), (.s 5)]⟩,
    ⟨some 13, none, .call 26 [(.s 11), (.s 12)]⟩,
    ⟨some 6, none, .mv (.s 13)⟩] [] [6]) .ret)
def c25 : ACode :=
  (.seq (.region false [⟨some 4, none, .box 1 (.s 1)⟩,
    ⟨some 5, none, .box 1 (.s 2)⟩,
    ⟨some 6, none, .cst (.t (.bool false))⟩] [] [0, 4, 5]) c25_0)
def r25 : List ARes := [.tmp 6]
def n25 : Nat := 14
/- 26 slices.ContainsFunc[[]supergraph api.Join,supergraph api.Join] -/
def c26_0 : ACode :=
  (.seq (.region false [⟨some 5, none, .mv (.s 0)⟩,
    ⟨some 6, none, .mv (.s 1)⟩,
    ⟨some 7, none, .call 36 [(.s 5), (.s 6)]⟩,
    ⟨some 8, none, .bin .geq (.s 7) (.c (.t (.int .i64 0)))⟩,
    ⟨some 4, none, .mv (.s 8)⟩] [] [4]) .ret)
def c26 : ACode :=
  (.seq (.region false [⟨some 4, none, .cst (.t (.bool false))⟩] [] [0, 1]) c26_0)
def r26 : List ARes := [.tmp 4]
def n26 : Nat := 9
/- 27 supergraph reach.Roots 1 -/
def c27_0 : ACode :=
  (.seq (.region false [⟨some 5, none, .fa 0 (.s 3)⟩,
    ⟨some 6, none, .ld false 1 (.s 5)⟩,
    ⟨some 7, none, .ld false 1 (.s 1)⟩,
    ⟨some 8, none, .bin .eql (.s 6) (.s 7)⟩,
    ⟨some 9, none, .mv (.s 8)⟩,
    ⟨some 10, some (9, true), .fa 2 (.s 3)⟩,
    ⟨some 11, some (9, true), .ld false 1 (.s 10)⟩,
    ⟨some 12, some (9, true), .ld false 1 (.s 2)⟩,
    ⟨some 13, some (9, true), .bin .eql (.s 11) (.s 12)⟩,
    ⟨some 14, none, .pick (.s 9) (.s 13) (.c (.t (.bool false)))⟩,
    ⟨some 4, none, .mv (.s 14)⟩] [] [4]) .ret)
def c27 : ACode :=
  (.seq (.region false [⟨some 3, none, .box 6 (.s 0)⟩,
    ⟨some 4, none, .cst (.t (.bool false))⟩] [] [1, 2, 3]) c27_0)
def r27 : List ARes := [.tmp 4]
def n27 : Nat := 15
/- 28 supergraph reach.solve -/
def c28_0 : ACode :=
  (.seq (.region false [⟨some 164, none, .mv (.s 7)⟩,
    ⟨some 6, none, .mv (.s 164)⟩] [] [6]) .ret)
def c28_1 : ACode :=
  (.block 7 .skip)
def c28_2 : ACode :=
  (.cond (.s 163) .skip (.exit 6))
def c28_3 : ACode :=
  (.seq (.seq (.region false [⟨some 162, none, .mv (.s 7)⟩,
    ⟨some 163, none, .call 39 [(.s 162)]⟩] [] [7, 163]) c28_2) c28_1)
def c28_4 : ACode :=
  (.loop c28_3)
def c28_5 : ACode :=
  (.seq (.block 6 c28_4) c28_0)
def c28_6 : ACode :=
  (.region false [⟨some 161, none, .bin .add (.s 130) (.c (.t (.int .i64 1)))⟩,
    ⟨some 130, none, .mv (.s 161)⟩] [] [1, 3, 7, 128, 129, 130])
def c28_7 : ACode :=
  (.region true [⟨some 151, none, .mv (.s 7)⟩,
    ⟨some 152, none, .mv (.s 7)⟩,
    ⟨some 153, none, .nilck (.s 152)⟩,
    ⟨some 154, none, .fa 6 (.s 153)⟩,
    ⟨some 155, none, .ld false 1 (.s 154)⟩,
    ⟨some 156, none, .ld true 3 (.s 15)⟩,
    ⟨some 157, none, .bsl false 3 [[.str [], .int .i64 0, .lst []]] [(0, (.s 156))]⟩,
    ⟨some 158, none, .app 3 48 (.s 155) (.s 157)⟩,
    ⟨some 159, none, .nilck (.s 151)⟩,
    ⟨some 160, none, .fa 6 (.s 159)⟩,
    ⟨none, none, .st 1 (.s 160) (.s 158)⟩] [[], [], [1], [2], [3], [], [5], [4, 6], [0, 0, 1, 2, 3, 4, 5, 6, 7], [8, 0, 1, 2, 3, 4, 5, 6, 7], [9, 7, 7, 0, 1, 2, 3, 4, 5, 6, 7]] [1, 3, 7, 128, 129, 130])
def c28_8 : ACode :=
  (.cond (.s 150) c28_7 .skip)
def c28_9 : ACode :=
  (.seq (.region false [⟨some 134, none, .fa 0 (.s 15)⟩,
    ⟨some 135, none, .ld false 1 (.s 134)⟩,
    ⟨some 136, none, .mv (.s 1)⟩,
    ⟨some 137, none, .bin .eql (.s 135) (.s 136)⟩,
    ⟨some 138, none, .mv (.s 137)⟩,
    ⟨some 139, some (138, true), .fa 1 (.s 15)⟩,
    ⟨some 140, some (138, true), .ld false 1 (.s 139)⟩,
    ⟨some 141, some (138, true), .bin .geq (.s 140) (.c (.t (.int .i64 0)))⟩,
    ⟨some 142, none, .pick (.s 138) (.s 141) (.c (.t (.bool false)))⟩,
    ⟨some 143, none, .mv (.s 142)⟩,
    ⟨some 144, some (143, true), .fa 1 (.s 15)⟩,
    ⟨some 145, some (143, true), .ld false 1 (.s 144)⟩,
    ⟨some 146, some (143, true), .fa 0 (.s 3)⟩,
    ⟨some 147, some (143, true), .ld false 1 (.s 146)⟩,
    ⟨some 148, some (143, true), .len (.s 147)⟩,
    ⟨some 149, some (143, true), .bin .lss (.s 145) (.s 148)⟩,
    ⟨some 150, none, .pick (.s 143) (.s 149) (.c (.t (.bool false)))⟩] [] [1, 3, 7, 15, 128, 129, 130, 150]) c28_8)
def c28_10 : ACode :=
  (.seq (.region false [⟨some 132, none, .ia 3 (.s 128) (.s 130)⟩,
    ⟨some 133, none, .ld true 3 (.s 132)⟩,
    ⟨some 15, none, .alloc [.t (.str []), .t (.int .i64 0), .nils]⟩,
    ⟨none, none, .st 3 (.s 15) (.s 133)⟩] [] [1, 3, 7, 15, 128, 129, 130]) c28_9)
def c28_11 : ACode :=
  (.seq (.block 5 c28_10) c28_6)
def c28_12 : ACode :=
  (.seq (.cond (.s 131) .skip (.exit 4)) c28_11)
def c28_13 : ACode :=
  (.seq (.region false [⟨some 131, none, .bin .lss (.s 130) (.s 129)⟩] [] [1, 3, 7, 128, 129, 130, 131]) c28_12)
def c28_14 : ACode :=
  (.loop c28_13)
def c28_15 : ACode :=
  (.block 4 c28_14)
def c28_16 : ACode :=
  (.seq (.seq (.region false [⟨some 127, none, .fa 2 (.s 3)⟩,
    ⟨some 128, none, .ld false 1 (.s 127)⟩,
    ⟨some 129, none, .len (.s 128)⟩,
    ⟨some 130, none, .cst (.t (.int .i64 0))⟩] [] [1, 3, 7, 128, 129, 130]) c28_15) c28_5)
def c28_17 : ACode :=
  (.region false [⟨some 126, none, .bin .add (.s 82) (.c (.t (.int .i64 1)))⟩,
    ⟨some 82, none, .mv (.s 126)⟩] [] [1, 3, 7, 10, 80, 81, 82])
def c28_18 : ACode :=
  (.region true [⟨some 116, none, .mv (.s 7)⟩,
    ⟨some 117, none, .mv (.s 7)⟩,
    ⟨some 118, none, .nilck (.s 117)⟩,
    ⟨some 119, none, .fa 5 (.s 118)⟩,
    ⟨some 120, none, .ld false 1 (.s 119)⟩,
    ⟨some 121, none, .ld true 6 (.s 12)⟩,
    ⟨some 122, none, .bsl false 6 [[.str [], .str [], .int .i64 0, .bool false, .lst [], .lst []]] [(0, (.s 121))]⟩,
    ⟨some 123, none, .app 6 96 (.s 120) (.s 122)⟩,
    ⟨some 124, none, .nilck (.s 116)⟩,
    ⟨some 125, none, .fa 5 (.s 124)⟩,
    ⟨none, none, .st 1 (.s 125) (.s 123)⟩] [[], [], [1], [2], [3], [], [5], [4, 6], [0, 0, 1, 2, 3, 4, 5, 6, 7], [8, 0, 1, 2, 3, 4, 5, 6, 7], [9, 7, 7, 0, 1, 2, 3, 4, 5, 6, 7]] [1, 3, 7, 10, 80, 81, 82])
def c28_19 : ACode :=
  (.seq (.region false [⟨some 114, none, .mv (.s 10)⟩,
    ⟨some 115, none, .ld true 3 (.s 13)⟩,
    ⟨none, none, .nw (.mupd [.str, .int .i64, .int .i64] true (.s 114) (.s 115) (.c (.t (.bool true))))⟩] [] [1, 3, 7, 10, 12, 80, 81, 82]) c28_18)
def c28_20 : ACode :=
  (.cond (.s 113) c28_19 .skip)
def c28_21 : ACode :=
  (.seq (.region false [⟨some 91, none, .fa 0 (.s 12)⟩,
    ⟨some 92, none, .ld false 1 (.s 91)⟩,
    ⟨some 93, none, .mv (.s 1)⟩,
    ⟨some 94, none, .bin .eql (.s 92) (.s 93)⟩,
    ⟨some 95, none, .mv (.s 94)⟩,
    ⟨some 96, some (95, true), .fa 2 (.s 12)⟩,
    ⟨some 97, some (95, true), .ld false 1 (.s 96)⟩,
    ⟨some 98, some (95, true), .bin .geq (.s 97) (.c (.t (.int .i64 0)))⟩,
    ⟨some 99, none, .pick (.s 95) (.s 98) (.c (.t (.bool false)))⟩,
    ⟨some 100, none, .mv (.s 99)⟩,
    ⟨some 101, some (100, true), .fa 2 (.s 12)⟩,
    ⟨some 102, some (100, true), .ld false 1 (.s 101)⟩,
    ⟨some 103, some (100, true), .fa 0 (.s 3)⟩,
    ⟨some 104, some (100, true), .ld false 1 (.s 103)⟩,
    ⟨some 105, some (100, true), .len (.s 104)⟩,
    ⟨some 106, some (100, true), .bin .lss (.s 102) (.s 105)⟩,
    ⟨some 107, none, .pick (.s 100) (.s 106) (.c (.t (.bool false)))⟩,
    ⟨some 108, none, .mv (.s 107)⟩,
    ⟨some 109, some (108, true), .mv (.s 10)⟩,
    ⟨some 110, some (108, true), .ld true 3 (.s 13)⟩,
    ⟨some 111, some (108, true), .nw (.lookup [.str, .int .i64, .int .i64] true (.t (.bool false)) false (.s 109) (.s 110))⟩,
    ⟨some 112, some (108, true), .un .not (.s 111)⟩,
    ⟨some 113, none, .pick (.s 108) (.s 112) (.c (.t (.bool false)))⟩] [] [1, 3, 7, 10, 12, 13, 80, 81, 82, 113]) c28_20)
def c28_22 : ACode :=
  (.seq (.region false [⟨some 86, none, .fa 1 (.s 12)⟩,
    ⟨some 87, none, .ld false 1 (.s 86)⟩,
    ⟨some 88, none, .fa 2 (.s 12)⟩,
    ⟨some 89, none, .ld false 1 (.s 88)⟩,
    ⟨some 90, none, .build [.t (.str []), .t (.int .i64 0), .t (.int .i64 0)] [(0, 1, (.s 87)), (1, 1, (.s 89))]⟩,
    ⟨some 13, none, .alloc [.t (.str []), .t (.int .i64 0), .t (.int .i64 0)]⟩,
    ⟨none, none, .st 3 (.s 13) (.s 90)⟩] [] [1, 3, 7, 10, 12, 13, 80, 81, 82]) c28_21)
def c28_23 : ACode :=
  (.seq (.region false [⟨some 84, none, .ia 6 (.s 80) (.s 82)⟩,
    ⟨some 85, none, .ld true 6 (.s 84)⟩,
    ⟨some 12, none, .alloc [.t (.str []), .t (.str []), .t (.int .i64 0), .t (.bool false), .nils, .nils]⟩,
    ⟨none, none, .st 6 (.s 12) (.s 85)⟩] [] [1, 3, 7, 10, 12, 80, 81, 82]) c28_22)
def c28_24 : ACode :=
  (.seq (.block 3 c28_23) c28_17)
def c28_25 : ACode :=
  (.seq (.cond (.s 83) .skip (.exit 2)) c28_24)
def c28_26 : ACode :=
  (.seq (.region false [⟨some 83, none, .bin .lss (.s 82) (.s 81)⟩] [] [1, 3, 7, 10, 80, 81, 82, 83]) c28_25)
def c28_27 : ACode :=
  (.loop c28_26)
def c28_28 : ACode :=
  (.block 2 c28_27)
def c28_29 : ACode :=
  (.seq (.seq (.region false [⟨some 79, none, .fa 3 (.s 3)⟩,
    ⟨some 80, none, .ld false 1 (.s 79)⟩,
    ⟨some 81, none, .len (.s 80)⟩,
    ⟨some 82, none, .cst (.t (.int .i64 0))⟩] [] [1, 3, 7, 10, 80, 81, 82]) c28_28) c28_16)
def c28_30 : ACode :=
  (.seq (.region false [⟨some 78, none, .mkmap true false⟩,
    ⟨some 10, none, .mv (.s 78)⟩] [] [1, 3, 7, 10]) c28_29)
def c28_31 : ACode :=
  (.region false [⟨some 77, none, .bin .add (.s 28) (.c (.t (.int .i64 1)))⟩,
    ⟨some 28, none, .mv (.s 77)⟩] [] [1, 3, 7, 26, 27, 28])
def c28_32 : ACode :=
  (.region true [⟨some 63, none, .mv (.s 7)⟩,
    ⟨some 64, none, .fa 0 (.s 9)⟩,
    ⟨some 65, none, .ld false 1 (.s 64)⟩,
    ⟨some 66, none, .call 38 [(.s 63), (.s 65)]⟩,
    ⟨some 67, none, .mv (.s 7)⟩,
    ⟨some 68, none, .fa 0 (.s 9)⟩,
    ⟨some 69, none, .ld false 1 (.s 68)⟩,
    ⟨some 70, none, .call 38 [(.s 67), (.s 69)]⟩,
    ⟨some 71, none, .nilck (.s 70)⟩,
    ⟨some 72, none, .ld false 1 (.s 71)⟩,
    ⟨some 73, none, .fa 1 (.s 9)⟩,
    ⟨some 74, none, .ld false 1 (.s 73)⟩,
    ⟨some 75, none, .call 37 [(.s 72), (.s 74)]⟩,
    ⟨some 76, none, .nilck (.s 66)⟩,
    ⟨none, none, .st 1 (.s 76) (.s 75)⟩] [[], [], [1], [0, 2], [], [], [5], [4, 6, 3], [7], [8], [], [10], [9, 11, 7], [3, 0, 1, 2, 3, 4, 5, 6, 7, 8, 9, 10, 11, 12], [13, 12, 12, 0, 1, 2, 3, 4, 5, 6, 7, 8, 9, 10, 11, 12]] [1, 3, 7, 26, 27, 28])
def c28_33 : ACode :=
  (.seq (.region true [⟨some 53, none, .mv (.s 7)⟩,
    ⟨some 54, none, .mv (.s 7)⟩,
    ⟨some 55, none, .nilck (.s 54)⟩,
    ⟨some 56, none, .fa 4 (.s 55)⟩,
    ⟨some 57, none, .ld false 1 (.s 56)⟩,
    ⟨some 58, none, .ld true 3 (.s 9)⟩,
    ⟨some 59, none, .bsl false 3 [[.int .i64 0, .int .i64 0, .lst []]] [(0, (.s 58))]⟩,
    ⟨some 60, none, .app 3 40 (.s 57) (.s 59)⟩,
    ⟨some 61, none, .nilck (.s 53)⟩,
    ⟨some 62, none, .fa 4 (.s 61)⟩,
    ⟨none, none, .st 1 (.s 62) (.s 60)⟩] [[], [], [1], [2], [3], [], [5], [4, 6], [0, 0, 1, 2, 3, 4, 5, 6, 7], [8, 0, 1, 2, 3, 4, 5, 6, 7], [9, 7, 7, 0, 1, 2, 3, 4, 5, 6, 7]] [1, 3, 7, 9, 26, 27, 28]) c28_32)
def c28_34 : ACode :=
  (.cond (.s 52) c28_33 .skip)
def c28_35 : ACode :=
  (.seq (.region false [⟨some 32, none, .fa 0 (.s 9)⟩,
    ⟨some 33, none, .ld false 1 (.s 32)⟩,
    ⟨some 34, none, .bin .geq (.s 33) (.c (.t (.int .i64 0)))⟩,
    ⟨some 35, none, .mv (.s 34)⟩,
    ⟨some 36, some (35, true), .fa 0 (.s 9)⟩,
    ⟨some 37, some (35, true), .ld false 1 (.s 36)⟩,
    ⟨some 38, some (35, true), .fa 0 (.s 3)⟩,
    ⟨some 39, some (35, true), .ld false 1 (.s 38)⟩,
    ⟨some 40, some (35, true), .len (.s 39)⟩,
    ⟨some 41, some (35, true), .bin .lss (.s 37) (.s 40)⟩,
    ⟨some 42, none, .pick (.s 35) (.s 41) (.c (.t (.bool false)))⟩,
    ⟨some 43, none, .mv (.s 42)⟩,
    ⟨some 44, some (43, true), .fa 1 (.s 9)⟩,
    ⟨some 45, some (43, true), .ld false 1 (.s 44)⟩,
    ⟨some 46, some (43, true), .bin .geq (.s 45) (.c (.t (.int .i64 1)))⟩,
    ⟨some 47, none, .pick (.s 43) (.s 46) (.c (.t (.bool false)))⟩,
    ⟨some 48, none, .mv (.s 47)⟩,
    ⟨some 49, some (48, true), .fa 1 (.s 9)⟩,
    ⟨some 50, some (48, true), .ld false 1 (.s 49)⟩,
    ⟨some 51, some (48, true), .bin .leq (.s 50) (.c (.t (.int .i64 1099511627776)))⟩,
    ⟨some 52, none, .pick (.s 48) (.s 51) (.c (.t (.bool false)))⟩] [] [1, 3, 7, 9, 26, 27, 28, 52]) c28_34)
def c28_36 : ACode :=
  (.seq (.region false [⟨some 30, none, .ia 3 (.s 26) (.s 28)⟩,
    ⟨some 31, none, .ld true 3 (.s 30)⟩,
    ⟨some 9, none, .alloc [.t (.int .i64 0), .t (.int .i64 0), .nils]⟩,
    ⟨none, none, .st 3 (.s 9) (.s 31)⟩] [] [1, 3, 7, 9, 26, 27, 28]) c28_35)
def c28_37 : ACode :=
  (.seq (.block 1 c28_36) c28_31)
def c28_38 : ACode :=
  (.seq (.cond (.s 29) .skip (.exit 0)) c28_37)
def c28_39 : ACode :=
  (.seq (.region false [⟨some 29, none, .bin .lss (.s 28) (.s 27)⟩] [] [1, 3, 7, 26, 27, 28, 29]) c28_38)
def c28_40 : ACode :=
  (.loop c28_39)
def c28_41 : ACode :=
  (.block 0 c28_40)
def c28_42 : ACode :=
  (.seq (.seq (.region false [⟨some 26, none, .mv (.s 2)⟩,
    ⟨some 27, none, .len (.s 26)⟩,
    ⟨some 28, none, .cst (.t (.int .i64 0))⟩] [] [1, 3, 7, 26, 27, 28]) c28_41) c28_30)
def c28_43 : ACode :=
  (.seq (.region true [⟨some 16, none, .ld true 4 (.s 3)⟩,
    ⟨some 17, none, .mkmap false false⟩,
    ⟨some 18, none, .fa 0 (.s 3)⟩,
    ⟨some 19, none, .ld false 1 (.s 18)⟩,
    ⟨some 20, none, .len (.s 19)⟩,
    ⟨some 21, none, .bin .quo (.s 20) (.c (.t (.int .i64 8)))⟩,
    ⟨some 22, none, .bin .add (.s 21) (.c (.t (.int .i64 1)))⟩,
    ⟨some 23, none, .mksl 8 64 [.t (.int .i64 0), .t (.int .i64 0), .t (.int .i64 0), .t (.int .i64 0), .t (.int .i64 0), .t (.int .i64 0), .t (.int .i64 0), .t (.int .i64 0)] (.s 22)⟩,
    ⟨some 24, none, .build [.nils, .nils, .nils, .nils, .nils, .nils, .nils, .nils, .t (.nilm)] [(0, 4, (.s 16)), (8, 1, (.s 17)), (7, 1, (.s 23))]⟩,
    ⟨some 25, none, .box 9 (.s 24)⟩,
    ⟨some 7, none, .mv (.s 25)⟩] [[], [], [], [2], [3], [4], [5], [6, 6], [0, 1, 7], [8], [9, 0, 1, 2, 3, 4, 5, 6, 7, 8, 9]] [1, 2, 3, 7]) c28_42)
def c28 : ACode :=
  (.seq (.region false [⟨some 3, none, .box 4 (.s 0)⟩,
    ⟨some 6, none, .cst (.t (.nilp))⟩] [] [1, 2, 3]) c28_43)
def r28 : List ARes := [.tmp 6]
def n28 : Nat := 165
/- 29 (*supergraph reach.numbers).level -/
def c29_0 : ACode :=
  (.seq (.region false [⟨some 32, none, .mv (.s 5)⟩,
    ⟨some 4, none, .mv (.s 32)⟩] [] [4]) .ret)
def c29_1 : ACode :=
  (.region false [⟨some 31, none, .bin .add (.s 21) (.c (.t (.int .i64 1)))⟩,
    ⟨some 21, none, .mv (.s 31)⟩] [] [0, 5, 20, 21])
def c29_2 : ACode :=
  (.region false [⟨some 24, none, .mv (.s 5)⟩,
    ⟨some 25, none, .mv (.s 0)⟩,
    ⟨some 26, none, .mv (.s 6)⟩,
    ⟨some 27, none, .call 38 [(.s 25), (.s 26)]⟩,
    ⟨some 28, none, .nilck (.s 27)⟩,
    ⟨some 29, none, .ld false 1 (.s 28)⟩,
    ⟨some 30, none, .call 37 [(.s 24), (.s 29)]⟩,
    ⟨some 5, none, .mv (.s 30)⟩] [] [0, 5, 20, 21])
def c29_3 : ACode :=
  (.seq (.region false [⟨some 23, none, .mv (.s 21)⟩,
    ⟨some 6, none, .mv (.s 23)⟩] [] [0, 5, 6, 20, 21]) c29_2)
def c29_4 : ACode :=
  (.seq (.block 1 c29_3) c29_1)
def c29_5 : ACode :=
  (.seq (.cond (.s 22) .skip (.exit 0)) c29_4)
def c29_6 : ACode :=
  (.seq (.region false [⟨some 22, none, .bin .lss (.s 21) (.s 20)⟩] [] [0, 5, 20, 21, 22]) c29_5)
def c29_7 : ACode :=
  (.loop c29_6)
def c29_8 : ACode :=
  (.block 0 c29_7)
def c29_9 : ACode :=
  (.seq (.region false [⟨some 15, none, .mv (.s 0)⟩,
    ⟨some 16, none, .nilck (.s 15)⟩,
    ⟨some 17, none, .fa 0 (.s 16)⟩,
    ⟨some 18, none, .fa 0 (.s 17)⟩,
    ⟨some 19, none, .ld false 1 (.s 18)⟩,
    ⟨some 20, none, .len (.s 19)⟩,
    ⟨some 21, none, .cst (.t (.int .i64 0))⟩] [] [0, 5, 20, 21]) c29_8)
def c29_10 : ACode :=
  (.cond (.s 14) c29_9 .skip)
def c29_11 : ACode :=
  (.seq (.seq (.region false [⟨some 13, none, .mv (.s 1)⟩,
    ⟨some 14, none, .bin .eql (.s 13) (.c (.t (.str [95, 95, 116, 121, 112, 101, 110, 97, 109, 101])))⟩] [] [0, 5, 14]) c29_10) c29_0)
def c29_12 : ACode :=
  (.seq (.region false [⟨some 7, none, .mv (.s 0)⟩,
    ⟨some 8, none, .nilck (.s 7)⟩,
    ⟨some 9, none, .fa 8 (.s 8)⟩,
    ⟨some 10, none, .ld false 1 (.s 9)⟩,
    ⟨some 11, none, .mv (.s 1)⟩,
    ⟨some 12, none, .nw (.lookup [.str] false (.t (.int .i64 0)) false (.s 10) (.s 11))⟩,
    ⟨some 5, none, .mv (.s 12)⟩] [] [0, 1, 5]) c29_11)
def c29 : ACode :=
  (.seq (.region false [⟨some 4, none, .cst (.t (.int .i64 0))⟩] [] [0, 1]) c29_12)
def r29 : List ARes := [.tmp 4]
def n29 : Nat := 33
/- 30 supergraph schema.Find -/
def c30_0 : ACode :=
  (.seq (.region false [⟨some 21, none, .build [.t (.int .i64 0), .t (.str []), .nils, .nils, .nils, .nils, .nils] []⟩,
    ⟨none, none, .st 7 (.s 4) (.s 21)⟩,
    ⟨some 5, none, .cst (.t (.bool false))⟩] [] [4, 5]) .ret)
def c30_1 : ACode :=
  (.region false [⟨some 20, none, .bin .add (.s 11) (.c (.t (.int .i64 1)))⟩,
    ⟨some 11, none, .mv (.s 20)⟩] [] [1, 4, 9, 10, 11])
def c30_2 : ACode :=
  (.seq (.region false [⟨some 19, none, .ld true 7 (.s 7)⟩,
    ⟨none, none, .st 7 (.s 4) (.s 19)⟩,
    ⟨some 5, none, .cst (.t (.bool true))⟩] [] [4, 5]) .ret)
def c30_3 : ACode :=
  (.cond (.s 18) c30_2 .skip)
def c30_4 : ACode :=
  (.seq (.region false [⟨some 15, none, .fa 1 (.s 7)⟩,
    ⟨some 16, none, .ld false 1 (.s 15)⟩,
    ⟨some 17, none, .mv (.s 1)⟩,
    ⟨some 18, none, .bin .eql (.s 16) (.s 17)⟩] [] [1, 4, 7, 9, 10, 11, 18]) c30_3)
def c30_5 : ACode :=
  (.seq (.region false [⟨some 13, none, .ia 7 (.s 9) (.s 11)⟩,
    ⟨some 14, none, .ld true 7 (.s 13)⟩,
    ⟨some 7, none, .alloc [.t (.int .i64 0), .t (.str []), .nils, .nils, .nils, .nils, .nils]⟩,
    ⟨none, none, .st 7 (.s 7) (.s 14)⟩] [] [1, 4, 7, 9, 10, 11]) c30_4)
def c30_6 : ACode :=
  (.seq (.block 1 c30_5) c30_1)
def c30_7 : ACode :=
  (.seq (.cond (.s 12) .skip (.exit 0)) c30_6)
def c30_8 : ACode :=
  (.seq (.region false [⟨some 12, none, .bin .lss (.s 11) (.s 10)⟩] [] [1, 4, 9, 10, 11, 12]) c30_7)
def c30_9 : ACode :=
  (.loop c30_8)
def c30_10 : ACode :=
  (.block 0 c30_9)
def c30_11 : ACode :=
  (.seq (.seq (.region false [⟨some 8, none, .fa 0 (.s 2)⟩,
    ⟨some 9, none, .ld false 1 (.s 8)⟩,
    ⟨some 10, none, .len (.s 9)⟩,
    ⟨some 11, none, .cst (.t (.int .i64 0))⟩] [] [1, 4, 9, 10, 11]) c30_10) c30_0)
def c30 : ACode :=
  (.seq (.region false [⟨some 2, none, .box 1 (.s 0)⟩,
    ⟨some 4, none, .alloc [.t (.int .i64 0), .t (.str []), .nils, .nils, .nils, .nils, .nils]⟩,
    ⟨some 5, none, .cst (.t (.bool false))⟩] [] [1, 2, 4]) c30_11)
def r30 : List ARes := [.cell 4 true 7, .tmp 5]
def n30 : Nat := 22
/- 31 supergraph abstract.implements -/
def c31_0 : ACode :=
  (.seq (.region false [⟨some 5, none, .fa 2 (.s 2)⟩,
    ⟨some 6, none, .ld false 1 (.s 5)⟩,
    ⟨some 7, none, .mv (.s 1)⟩,
    ⟨some 8, none, .call 40 [(.s 6), (.s 7)]⟩,
    ⟨some 4, none, .mv (.s 8)⟩] [] [4]) .ret)
def c31 : ACode :=
  (.seq (.region false [⟨some 2, none, .box 7 (.s 0)⟩,
    ⟨some 4, none, .cst (.t (.bool false))⟩] [] [1, 2]) c31_0)
def r31 : List ARes := [.tmp 4]
def n31 : Nat := 9
/- 32 slices.IndexFunc[[]supergraph api.Spot,supergraph api.Spot] -/
def c32_0 : ACode :=
  (.seq (.region false [⟨some 4, none, .cst (.t (.int .i64 (-1)))⟩] [] [4]) .ret)
def c32_1 : ACode :=
  (.region false [⟨some 18, none, .bin .add (.s 8) (.c (.t (.int .i64 1)))⟩,
    ⟨some 8, none, .mv (.s 18)⟩] [] [0, 1, 7, 8])
def c32_2 : ACode :=
  (.seq (.region false [⟨some 17, none, .mv (.s 5)⟩,
    ⟨some 4, none, .mv (.s 17)⟩] [] [4]) .ret)
def c32_3 : ACode :=
  (.cond (.s 16) c32_2 .skip)
def c32_4 : ACode :=
  (.seq (.region false [⟨some 11, none, .mv (.s 1)⟩,
    ⟨some 12, none, .mv (.s 0)⟩,
    ⟨some 13, none, .mv (.s 5)⟩,
    ⟨some 14, none, .ia 3 (.s 12) (.s 13)⟩,
    ⟨some 15, none, .ld true 3 (.s 14)⟩,
    ⟨some 16, none, .callv (.s 11) [(.s 15)]⟩] [] [0, 1, 5, 7, 8, 16]) c32_3)
def c32_5 : ACode :=
  (.seq (.region false [⟨some 10, none, .mv (.s 8)⟩,
    ⟨some 5, none, .mv (.s 10)⟩] [] [0, 1, 5, 7, 8]) c32_4)
def c32_6 : ACode :=
  (.seq (.block 1 c32_5) c32_1)
def c32_7 : ACode :=
  (.seq (.cond (.s 9) .skip (.exit 0)) c32_6)
def c32_8 : ACode :=
  (.seq (.region false [⟨some 9, none, .bin .lss (.s 8) (.s 7)⟩] [] [0, 1, 7, 8, 9]) c32_7)
def c32_9 : ACode :=
  (.loop c32_8)
def c32_10 : ACode :=
  (.block 0 c32_9)
def c32_11 : ACode :=
  (.seq (.seq (.region false [⟨some 6, none, .mv (.s 0)⟩,
    ⟨some 7, none, .len (.s 6)⟩,
    ⟨some 8, none, .cst (.t (.int .i64 0))⟩] [] [0, 1, 7, 8]) c32_10) c32_0)
def c32 : ACode :=
  (.seq (.region false [⟨some 4, none, .cst (.t (.int .i64 0))⟩] [] [0, 1]) c32_11)
def r32 : List ARes := [.tmp 4]
def n32 : Nat := 19
/- 33 (*supergraph reach.numbers).read -/
def c33_0 : ACode :=
  (.seq (.region false [⟨some 63, none, .mv (.s 8)⟩,
    ⟨some 64, none, .mv (.s 9)⟩,
    ⟨some 65, none, .maxi (.s 63) (.s 64)⟩,
    ⟨some 66, none, .bin .add (.s 65) (.c (.t (.int .i64 1)))⟩,
    ⟨some 4, none, .mv (.s 66)⟩] [] [4]) .ret)
def c33_1 : ACode :=
  (.seq (.region false [⟨some 4, none, .cst (.t (.int .i64 0))⟩] [] [4]) .ret)
def c33_2 : ACode :=
  (.cond (.s 62) c33_1 .skip)
def c33_3 : ACode :=
  (.seq (.seq (.region false [⟨some 57, none, .mv (.s 8)⟩,
    ⟨some 58, none, .bin .eql (.s 57) (.c (.t (.int .i64 0)))⟩,
    ⟨some 59, none, .mv (.s 58)⟩,
    ⟨some 60, some (59, false), .mv (.s 9)⟩,
    ⟨some 61, some (59, false), .bin .eql (.s 60) (.c (.t (.int .i64 0)))⟩,
    ⟨some 62, none, .pick (.s 59) (.c (.t (.bool true))) (.s 61)⟩] [] [8, 9, 62]) c33_2) c33_0)
def c33_4 : ACode :=
  (.seq (.region true [⟨some 49, none, .mv (.s 0)⟩,
    ⟨some 50, none, .fa 2 (.s 3)⟩,
    ⟨some 51, none, .ld false 1 (.s 50)⟩,
    ⟨some 52, none, .call 41 [(.s 49), (.s 51)]⟩,
    ⟨some 53, none, .mv (.s 0)⟩,
    ⟨some 54, none, .fa 4 (.s 3)⟩,
    ⟨some 55, none, .ld false 1 (.s 54)⟩,
    ⟨some 56, none, .call 42 [(.s 53), (.s 55)]⟩,
    ⟨some 8, none, .mv (.s 52)⟩,
    ⟨some 9, none, .mv (.s 56)⟩] [[], [], [1], [0, 2], [], [], [5], [4, 6, 3], [3, 7, 0, 1, 2, 3], [7, 8, 0, 1, 2, 3, 4, 5, 6, 7, 8]] [8, 9]) c33_3)
def c33_5 : ACode :=
  (.seq (.region false [⟨some 43, none, .mv (.s 0)⟩,
    ⟨some 44, none, .fa 2 (.s 3)⟩,
    ⟨some 45, none, .ld false 1 (.s 44)⟩,
    ⟨some 46, none, .call 38 [(.s 43), (.s 45)]⟩,
    ⟨some 47, none, .nilck (.s 46)⟩,
    ⟨some 48, none, .ld false 1 (.s 47)⟩,
    ⟨some 4, none, .mv (.s 48)⟩] [] [4]) .ret)
def c33_6 : ACode :=
  (.cond (.s 42) c33_5 .skip)
def c33_7 : ACode :=
  (.seq (.seq (.region false [⟨some 39, none, .fa 4 (.s 3)⟩,
    ⟨some 40, none, .ld false 1 (.s 39)⟩,
    ⟨some 41, none, .len (.s 40)⟩,
    ⟨some 42, none, .bin .eql (.s 41) (.c (.t (.int .i64 0)))⟩] [] [0, 3, 42]) c33_6) c33_4)
def c33_8 : ACode :=
  (.seq (.region false [⟨some 38, none, .mv (.s 5)⟩,
    ⟨some 4, none, .mv (.s 38)⟩] [] [4]) .ret)
def c33_9 : ACode :=
  (.region false [⟨some 37, none, .bin .add (.s 17) (.c (.t (.int .i64 1)))⟩,
    ⟨some 17, none, .mv (.s 37)⟩] [] [3, 5, 15, 16, 17])
def c33_10 : ACode :=
  (.region false [⟨some 33, none, .mv (.s 5)⟩,
    ⟨some 34, none, .fa 1 (.s 7)⟩,
    ⟨some 35, none, .ld false 1 (.s 34)⟩,
    ⟨some 36, none, .call 37 [(.s 33), (.s 35)]⟩,
    ⟨some 5, none, .mv (.s 36)⟩] [] [3, 5, 15, 16, 17])
def c33_11 : ACode :=
  (.cond (.s 32) c33_10 .skip)
def c33_12 : ACode :=
  (.seq (.region false [⟨some 21, none, .fa 0 (.s 7)⟩,
    ⟨some 22, none, .ld false 1 (.s 21)⟩,
    ⟨some 23, none, .fa 2 (.s 3)⟩,
    ⟨some 24, none, .ld false 1 (.s 23)⟩,
    ⟨some 25, none, .bin .eql (.s 22) (.s 24)⟩,
    ⟨some 26, none, .mv (.s 25)⟩,
    ⟨some 27, some (26, true), .fa 2 (.s 7)⟩,
    ⟨some 28, some (26, true), .ld false 1 (.s 27)⟩,
    ⟨some 29, some (26, true), .fa 1 (.s 3)⟩,
    ⟨some 30, some (26, true), .ld false 1 (.s 29)⟩,
    ⟨some 31, some (26, true), .call 40 [(.s 28), (.s 30)]⟩,
    ⟨some 32, none, .pick (.s 26) (.s 31) (.c (.t (.bool false)))⟩] [] [3, 5, 7, 15, 16, 17, 32]) c33_11)
def c33_13 : ACode :=
  (.seq (.region false [⟨some 19, none, .ia 3 (.s 15) (.s 17)⟩,
    ⟨some 20, none, .ld true 3 (.s 19)⟩,
    ⟨some 7, none, .alloc [.t (.int .i64 0), .t (.int .i64 0), .nils]⟩,
    ⟨none, none, .st 3 (.s 7) (.s 20)⟩] [] [3, 5, 7, 15, 16, 17]) c33_12)
def c33_14 : ACode :=
  (.seq (.block 1 c33_13) c33_9)
def c33_15 : ACode :=
  (.seq (.cond (.s 18) .skip (.exit 0)) c33_14)
def c33_16 : ACode :=
  (.seq (.region false [⟨some 18, none, .bin .lss (.s 17) (.s 16)⟩] [] [3, 5, 15, 16, 17, 18]) c33_15)
def c33_17 : ACode :=
  (.loop c33_16)
def c33_18 : ACode :=
  (.block 0 c33_17)
def c33_19 : ACode :=
  (.seq (.seq (.region false [⟨some 12, none, .mv (.s 0)⟩,
    ⟨some 13, none, .nilck (.s 12)⟩,
    ⟨some 14, none, .fa 4 (.s 13)⟩,
    ⟨some 15, none, .ld false 1 (.s 14)⟩,
    ⟨some 16, none, .len (.s 15)⟩,
    ⟨some 17, none, .cst (.t (.int .i64 0))⟩] [] [3, 5, 15, 16, 17]) c33_18) c33_8)
def c33_20 : ACode :=
  (.seq (.region false [⟨some 5, none, .cst (.t (.int .i64 0))⟩] [] [0, 3, 5]) c33_19)
def c33_21 : ACode :=
  (.cond (.s 11) c33_20 .skip)
def c33_22 : ACode :=
  (.seq (.seq (.region false [⟨some 10, none, .fa 3 (.s 3)⟩,
    ⟨some 11, none, .ld false 1 (.s 10)⟩] [] [0, 3, 11]) c33_21) c33_7)
def c33 : ACode :=
  (.seq (.region false [⟨some 3, none, .box 6 (.s 1)⟩,
    ⟨some 4, none, .cst (.t (.int .i64 0))⟩] [] [0, 3]) c33_22)
def r33 : List ARes := [.tmp 4]
def n33 : Nat := 67
/- 34 slices.Clone[[]string,string] -/
def c34_0 : ACode :=
  (.seq (.region false [⟨some 5, none, .bsl true 1 [] []⟩,
    ⟨some 6, none, .mv (.s 0)⟩,
    ⟨some 7, none, .app 1 16 (.s 5) (.s 6)⟩,
    ⟨some 2, none, .mv (.s 7)⟩] [] [2]) .ret)
def c34_1 : ACode :=
  (.seq (.region false [⟨some 2, none, .cst (.nils)⟩] [] [2]) .ret)
def c34_2 : ACode :=
  (.cond (.s 4) c34_1 .skip)
def c34_3 : ACode :=
  (.seq (.seq (.region false [⟨some 3, none, .mv (.s 0)⟩,
    ⟨some 4, none, .nw (.eqn false (.s 3))⟩] [] [0, 4]) c34_2) c34_0)
def c34 : ACode :=
  (.seq (.region false [⟨some 2, none, .cst (.nils)⟩] [] [0]) c34_3)
def r34 : List ARes := [.tmp 2]
def n34 : Nat := 8
/- 35 (*supergraph need.walker).defines 1 -/
def c35_0 : ACode :=
  (.seq (.region false [⟨some 5, none, .fa 2 (.s 3)⟩,
    ⟨some 6, none, .ld false 1 (.s 5)⟩,
    ⟨some 7, none, .ld false 1 (.s 1)⟩,
    ⟨some 8, none, .bin .eql (.s 6) (.s 7)⟩,
    ⟨some 9, none, .mv (.s 8)⟩,
    ⟨some 10, some (9, true), .fa 0 (.s 3)⟩,
    ⟨some 11, some (9, true), .ld false 1 (.s 10)⟩,
    ⟨some 12, some (9, true), .ld false 1 (.s 2)⟩,
    ⟨some 13, some (9, true), .bin .eql (.s 11) (.s 12)⟩,
    ⟨some 14, none, .pick (.s 9) (.s 13) (.c (.t (.bool false)))⟩,
    ⟨some 4, none, .mv (.s 14)⟩] [] [4]) .ret)
def c35 : ACode :=
  (.seq (.region false [⟨some 3, none, .box 6 (.s 0)⟩,
    ⟨some 4, none, .cst (.t (.bool false))⟩] [] [1, 2, 3]) c35_0)
def r35 : List ARes := [.tmp 4]
def n35 : Nat := 15
/- 36 slices.IndexFunc[[]supergraph api.Join,supergraph api.Join] -/
def c36_0 : ACode :=
  (.seq (.region false [⟨some 4, none, .cst (.t (.int .i64 (-1)))⟩] [] [4]) .ret)
def c36_1 : ACode :=
  (.region false [⟨some 18, none, .bin .add (.s 8) (.c (.t (.int .i64 1)))⟩,
    ⟨some 8, none, .mv (.s 18)⟩] [] [0, 1, 7, 8])
def c36_2 : ACode :=
  (.seq (.region false [⟨some 17, none, .mv (.s 5)⟩,
    ⟨some 4, none, .mv (.s 17)⟩] [] [4]) .ret)
def c36_3 : ACode :=
  (.cond (.s 16) c36_2 .skip)
def c36_4 : ACode :=
  (.seq (.region false [⟨some 11, none, .mv (.s 1)⟩,
    ⟨some 12, none, .mv (.s 0)⟩,
    ⟨some 13, none, .mv (.s 5)⟩,
    ⟨some 14, none, .ia 6 (.s 12) (.s 13)⟩,
    ⟨some 15, none, .ld true 6 (.s 14)⟩,
    ⟨some 16, none, .callv (.s 11) [(.s 15)]⟩] [] [0, 1, 5, 7, 8, 16]) c36_3)
def c36_5 : ACode :=
  (.seq (.region false [⟨some 10, none, .mv (.s 8)⟩,
    ⟨some 5, none, .mv (.s 10)⟩] [] [0, 1, 5, 7, 8]) c36_4)
def c36_6 : ACode :=
  (.seq (.block 1 c36_5) c36_1)
def c36_7 : ACode :=
  (.seq (.cond (.s 9) .skip (.exit 0)) c36_6)
def c36_8 : ACode :=
  (.seq (.region false [⟨some 9, none, .bin .lss (.s 8) (.s 7)⟩] [] [0, 1, 7, 8, 9]) c36_7)
def c36_9 : ACode :=
  (.loop c36_8)
def c36_10 : ACode :=
  (.block 0 c36_9)
def c36_11 : ACode :=
  (.seq (.seq (.region false [⟨some 6, none, .mv (.s 0)⟩,
    ⟨some 7, none, .len (.s 6)⟩,
    ⟨some 8, none, .cst (.t (.int .i64 0))⟩] [] [0, 1, 7, 8]) c36_10) c36_0)
def c36 : ACode :=
  (.seq (.region false [⟨some 4, none, .cst (.t (.int .i64 0))⟩] [] [0, 1]) c36_11)
def r36 : List ARes := [.tmp 4]
def n36 : Nat := 19
/- 37 supergraph reach.lesser -/
def c37_0 : ACode :=
  (.seq (.region false [⟨some 17, none, .mv (.s 0)⟩,
    ⟨some 4, none, .mv (.s 17)⟩] [] [4]) .ret)
def c37_1 : ACode :=
  (.seq (.region false [⟨some 16, none, .mv (.s 1)⟩,
    ⟨some 4, none, .mv (.s 16)⟩] [] [4]) .ret)
def c37_2 : ACode :=
  (.cond (.s 15) c37_1 .skip)
def c37_3 : ACode :=
  (.seq (.seq (.region false [⟨some 5, none, .mv (.s 0)⟩,
    ⟨some 6, none, .bin .eql (.s 5) (.c (.t (.int .i64 0)))⟩,
    ⟨some 7, none, .mv (.s 6)⟩,
    ⟨some 8, some (7, false), .mv (.s 1)⟩,
    ⟨some 9, some (7, false), .bin .neq (.s 8) (.c (.t (.int .i64 0)))⟩,
    ⟨some 10, some (7, false), .mv (.s 9)⟩,
    ⟨some 11, some (10, true), .mv (.s 1)⟩,
    ⟨some 12, some (10, true), .mv (.s 0)⟩,
    ⟨some 13, some (10, true), .bin .lss (.s 11) (.s 12)⟩,
    ⟨some 14, some (7, false), .pick (.s 10) (.s 13) (.c (.t (.bool false)))⟩,
    ⟨some 15, none, .pick (.s 7) (.c (.t (.bool true))) (.s 14)⟩] [] [0, 1, 15]) c37_2) c37_0)
def c37 : ACode :=
  (.seq (.region false [⟨some 4, none, .cst (.t (.int .i64 0))⟩] [] [0, 1]) c37_3)
def r37 : List ARes := [.tmp 4]
def n37 : Nat := 18
/- 38 (*supergraph reach.numbers).at -/
def c38_0 : ACode :=
  (.seq (.region false [⟨some 5, none, .mv (.s 0)⟩,
    ⟨some 6, none, .nilck (.s 5)⟩,
    ⟨some 7, none, .fa 7 (.s 6)⟩,
    ⟨some 8, none, .ld false 1 (.s 7)⟩,
    ⟨some 9, none, .mv (.s 1)⟩,
    ⟨some 10, none, .bin .quo (.s 9) (.c (.t (.int .i64 8)))⟩,
    ⟨some 11, none, .mv (.s 1)⟩,
    ⟨some 12, none, .bin .rem (.s 11) (.c (.t (.int .i64 8)))⟩,
    ⟨some 13, none, .ia 8 (.s 8) (.s 10)⟩,
    ⟨some 14, none, .iarr 8 1 (.s 13) (.s 12)⟩,
    ⟨some 4, none, .mv (.s 14)⟩] [] [4]) .ret)
def c38 : ACode :=
  (.seq (.region false [⟨some 4, none, .cst (.t (.nilp))⟩] [] [0, 1]) c38_0)
def r38 : List ARes := [.tmp 4]
def n38 : Nat := 15
/- 39 (*supergraph reach.numbers).round -/
def c39_0 : ACode :=
  (.seq (.region false [⟨some 84, none, .mv (.s 3)⟩,
    ⟨some 2, none, .mv (.s 84)⟩] [] [2]) .ret)
def c39_1 : ACode :=
  (.region false [⟨some 83, none, .bin .add (.s 50) (.c (.t (.int .i64 1)))⟩,
    ⟨some 50, none, .mv (.s 83)⟩] [] [0, 3, 48, 49, 50])
def c39_2 : ACode :=
  (.region true [⟨some 74, none, .mv (.s 0)⟩,
    ⟨some 75, none, .nilck (.s 74)⟩,
    ⟨some 76, none, .fa 8 (.s 75)⟩,
    ⟨some 77, none, .ld false 1 (.s 76)⟩,
    ⟨some 78, none, .fa 1 (.s 8)⟩,
    ⟨some 79, none, .ld false 1 (.s 78)⟩,
    ⟨some 80, none, .mv (.s 9)⟩,
    ⟨some 81, none, .nw (.ment [.str] false (.t (.int .i64 0)) (.s 77) (.s 79))⟩,
    ⟨some 82, none, .ext (.s 81) 1⟩,
    ⟨none, none, .nw (.ests (.s 77) (.s 82) (.s 80))⟩,
    ⟨some 3, none, .cst (.t (.bool true))⟩] [[], [0], [1], [2], [], [4], [], [3, 5], [7], [3, 8, 6, 7, 0, 1, 2, 3, 4, 5, 6, 7], [9, 0, 1, 2, 3, 4, 5, 6, 7, 8, 9]] [0, 3, 48, 49, 50])
def c39_3 : ACode :=
  (.cond (.s 73) c39_2 .skip)
def c39_4 : ACode :=
  (.seq (.region true [⟨some 65, none, .mv (.s 9)⟩,
    ⟨some 66, none, .mv (.s 0)⟩,
    ⟨some 67, none, .nilck (.s 66)⟩,
    ⟨some 68, none, .fa 8 (.s 67)⟩,
    ⟨some 69, none, .ld false 1 (.s 68)⟩,
    ⟨some 70, none, .fa 1 (.s 8)⟩,
    ⟨some 71, none, .ld false 1 (.s 70)⟩,
    ⟨some 72, none, .nw (.lookup [.str] false (.t (.int .i64 0)) false (.s 69) (.s 71))⟩,
    ⟨some 73, none, .bin .neq (.s 65) (.s 72)⟩] [[], [], [1], [2], [3], [], [5], [4, 6], [0, 7]] [0, 3, 8, 9, 48, 49, 50, 73]) c39_3)
def c39_5 : ACode :=
  (.seq (.region true [⟨some 54, none, .mv (.s 0)⟩,
    ⟨some 55, none, .nilck (.s 54)⟩,
    ⟨some 56, none, .fa 8 (.s 55)⟩,
    ⟨some 57, none, .ld false 1 (.s 56)⟩,
    ⟨some 58, none, .fa 1 (.s 8)⟩,
    ⟨some 59, none, .ld false 1 (.s 58)⟩,
    ⟨some 60, none, .nw (.lookup [.str] false (.t (.int .i64 0)) false (.s 57) (.s 59))⟩,
    ⟨some 61, none, .mv (.s 0)⟩,
    ⟨some 62, none, .ld true 6 (.s 8)⟩,
    ⟨some 63, none, .call 33 [(.s 61), (.s 62)]⟩,
    ⟨some 64, none, .call 37 [(.s 60), (.s 63)]⟩,
    ⟨some 9, none, .mv (.s 64)⟩] [[], [0], [1], [2], [], [4], [3, 5], [], [], [7, 8], [6, 9, 9], [10, 10, 0, 1, 2, 3, 4, 5, 6, 7, 8, 9, 10]] [0, 3, 8, 9, 48, 49, 50]) c39_4)
def c39_6 : ACode :=
  (.seq (.region false [⟨some 52, none, .ia 6 (.s 48) (.s 50)⟩,
    ⟨some 53, none, .ld true 6 (.s 52)⟩,
    ⟨some 8, none, .alloc [.t (.str []), .t (.str []), .t (.int .i64 0), .t (.bool false), .nils, .nils]⟩,
    ⟨none, none, .st 6 (.s 8) (.s 53)⟩] [] [0, 3, 8, 48, 49, 50]) c39_5)
def c39_7 : ACode :=
  (.seq (.block 3 c39_6) c39_1)
def c39_8 : ACode :=
  (.seq (.cond (.s 51) .skip (.exit 2)) c39_7)
def c39_9 : ACode :=
  (.seq (.region false [⟨some 51, none, .bin .lss (.s 50) (.s 49)⟩] [] [0, 3, 48, 49, 50, 51]) c39_8)
def c39_10 : ACode :=
  (.loop c39_9)
def c39_11 : ACode :=
  (.block 2 c39_10)
def c39_12 : ACode :=
  (.seq (.seq (.region false [⟨some 45, none, .mv (.s 0)⟩,
    ⟨some 46, none, .nilck (.s 45)⟩,
    ⟨some 47, none, .fa 5 (.s 46)⟩,
    ⟨some 48, none, .ld false 1 (.s 47)⟩,
    ⟨some 49, none, .len (.s 48)⟩,
    ⟨some 50, none, .cst (.t (.int .i64 0))⟩] [] [0, 3, 48, 49, 50]) c39_11) c39_0)
def c39_13 : ACode :=
  (.region false [⟨some 44, none, .bin .add (.s 16) (.c (.t (.int .i64 1)))⟩,
    ⟨some 16, none, .mv (.s 44)⟩] [] [0, 3, 15, 16])
def c39_14 : ACode :=
  (.region false [⟨some 39, none, .mv (.s 0)⟩,
    ⟨some 40, none, .mv (.s 4)⟩,
    ⟨some 41, none, .call 38 [(.s 39), (.s 40)]⟩,
    ⟨some 42, none, .mv (.s 6)⟩,
    ⟨some 43, none, .nilck (.s 41)⟩,
    ⟨none, none, .st 1 (.s 43) (.s 42)⟩,
    ⟨some 3, none, .cst (.t (.bool true))⟩] [] [0, 3, 15, 16])
def c39_15 : ACode :=
  (.cond (.s 38) c39_14 .skip)
def c39_16 : ACode :=
  (.seq (.region false [⟨some 32, none, .mv (.s 6)⟩,
    ⟨some 33, none, .mv (.s 0)⟩,
    ⟨some 34, none, .mv (.s 4)⟩,
    ⟨some 35, none, .call 38 [(.s 33), (.s 34)]⟩,
    ⟨some 36, none, .nilck (.s 35)⟩,
    ⟨some 37, none, .ld false 1 (.s 36)⟩,
    ⟨some 38, none, .bin .neq (.s 32) (.s 37)⟩] [] [0, 3, 4, 6, 15, 16, 38]) c39_15)
def c39_17 : ACode :=
  (.seq (.region false [⟨some 24, none, .mv (.s 0)⟩,
    ⟨some 25, none, .mv (.s 4)⟩,
    ⟨some 26, none, .call 38 [(.s 24), (.s 25)]⟩,
    ⟨some 27, none, .nilck (.s 26)⟩,
    ⟨some 28, none, .ld false 1 (.s 27)⟩,
    ⟨some 29, none, .mv (.s 5)⟩,
    ⟨some 30, none, .bin .add (.s 29) (.c (.t (.int .i64 1)))⟩,
    ⟨some 31, none, .call 37 [(.s 28), (.s 30)]⟩,
    ⟨some 6, none, .mv (.s 31)⟩] [] [0, 3, 4, 6, 15, 16]) c39_16)
def c39_18 : ACode :=
  (.cond (.s 23) c39_17 .skip)
def c39_19 : ACode :=
  (.seq (.region false [⟨some 22, none, .mv (.s 5)⟩,
    ⟨some 23, none, .bin .gtr (.s 22) (.c (.t (.int .i64 0)))⟩] [] [0, 3, 4, 5, 15, 16, 23]) c39_18)
def c39_20 : ACode :=
  (.seq (.region false [⟨some 19, none, .mv (.s 0)⟩,
    ⟨some 20, none, .mv (.s 4)⟩,
    ⟨some 21, none, .call 41 [(.s 19), (.s 20)]⟩,
    ⟨some 5, none, .mv (.s 21)⟩] [] [0, 3, 4, 5, 15, 16]) c39_19)
def c39_21 : ACode :=
  (.seq (.region false [⟨some 18, none, .mv (.s 16)⟩,
    ⟨some 4, none, .mv (.s 18)⟩] [] [0, 3, 4, 15, 16]) c39_20)
def c39_22 : ACode :=
  (.seq (.block 1 c39_21) c39_13)
def c39_23 : ACode :=
  (.seq (.cond (.s 17) .skip (.exit 0)) c39_22)
def c39_24 : ACode :=
  (.seq (.region false [⟨some 17, none, .bin .lss (.s 16) (.s 15)⟩] [] [0, 3, 15, 16, 17]) c39_23)
def c39_25 : ACode :=
  (.loop c39_24)
def c39_26 : ACode :=
  (.block 0 c39_25)
def c39_27 : ACode :=
  (.seq (.seq (.region false [⟨some 10, none, .mv (.s 0)⟩,
    ⟨some 11, none, .nilck (.s 10)⟩,
    ⟨some 12, none, .fa 0 (.s 11)⟩,
    ⟨some 13, none, .fa 0 (.s 12)⟩,
    ⟨some 14, none, .ld false 1 (.s 13)⟩,
    ⟨some 15, none, .len (.s 14)⟩,
    ⟨some 16, none, .cst (.t (.int .i64 0))⟩] [] [0, 3, 15, 16]) c39_26) c39_12)
def c39_28 : ACode :=
  (.seq (.region false [⟨some 3, none, .cst (.t (.bool false))⟩] [] [0, 3]) c39_27)
def c39 : ACode :=
  (.seq (.region false [⟨some 2, none, .cst (.t (.bool false))⟩] [] [0]) c39_28)
def r39 : List ARes := [.tmp 2]
def n39 : Nat := 85
/- 40 slices.Contains[[]string,string] -/
def c40_0 : ACode :=
  (.seq (.region false [⟨some 5, none, .mv (.s 0)⟩,
    ⟨some 6, none, .mv (.s 1)⟩,
    ⟨some 7, none, .call 43 [(.s 5), (.s 6)]⟩,
    ⟨some 8, none, .bin .geq (.s 7) (.c (.t (.int .i64 0)))⟩,
    ⟨some 4, none, .mv (.s 8)⟩] [] [4]) .ret)
def c40 : ACode :=
  (.seq (.region false [⟨some 4, none, .cst (.t (.bool false))⟩] [] [0, 1]) c40_0)
def r40 : List ARes := [.tmp 4]
def n40 : Nat := 9
/- 41 (*supergraph reach.numbers).key -/
def c41_0 : ACode :=
  (.seq (.region false [⟨some 28, none, .mv (.s 5)⟩,
    ⟨some 4, none, .mv (.s 28)⟩] [] [4]) .ret)
def c41_1 : ACode :=
  (.region false [⟨some 27, none, .bin .add (.s 13) (.c (.t (.int .i64 1)))⟩,
    ⟨some 13, none, .mv (.s 27)⟩] [] [0, 1, 5, 11, 12, 13])
def c41_2 : ACode :=
  (.region false [⟨some 21, none, .mv (.s 5)⟩,
    ⟨some 22, none, .mv (.s 0)⟩,
    ⟨some 23, none, .fa 2 (.s 7)⟩,
    ⟨some 24, none, .ld false 1 (.s 23)⟩,
    ⟨some 25, none, .call 42 [(.s 22), (.s 24)]⟩,
    ⟨some 26, none, .call 37 [(.s 21), (.s 25)]⟩,
    ⟨some 5, none, .mv (.s 26)⟩] [] [0, 1, 5, 11, 12, 13])
def c41_3 : ACode :=
  (.cond (.s 20) c41_2 .skip)
def c41_4 : ACode :=
  (.seq (.region false [⟨some 17, none, .fa 1 (.s 7)⟩,
    ⟨some 18, none, .ld false 1 (.s 17)⟩,
    ⟨some 19, none, .mv (.s 1)⟩,
    ⟨some 20, none, .bin .eql (.s 18) (.s 19)⟩] [] [0, 1, 5, 7, 11, 12, 13, 20]) c41_3)
def c41_5 : ACode :=
  (.seq (.region false [⟨some 15, none, .ia 3 (.s 11) (.s 13)⟩,
    ⟨some 16, none, .ld true 3 (.s 15)⟩,
    ⟨some 7, none, .alloc [.t (.str []), .t (.int .i64 0), .nils]⟩,
    ⟨none, none, .st 3 (.s 7) (.s 16)⟩] [] [0, 1, 5, 7, 11, 12, 13]) c41_4)
def c41_6 : ACode :=
  (.seq (.block 1 c41_5) c41_1)
def c41_7 : ACode :=
  (.seq (.cond (.s 14) .skip (.exit 0)) c41_6)
def c41_8 : ACode :=
  (.seq (.region false [⟨some 14, none, .bin .lss (.s 13) (.s 12)⟩] [] [0, 1, 5, 11, 12, 13, 14]) c41_7)
def c41_9 : ACode :=
  (.loop c41_8)
def c41_10 : ACode :=
  (.block 0 c41_9)
def c41_11 : ACode :=
  (.seq (.seq (.region false [⟨some 8, none, .mv (.s 0)⟩,
    ⟨some 9, none, .nilck (.s 8)⟩,
    ⟨some 10, none, .fa 6 (.s 9)⟩,
    ⟨some 11, none, .ld false 1 (.s 10)⟩,
    ⟨some 12, none, .len (.s 11)⟩,
    ⟨some 13, none, .cst (.t (.int .i64 0))⟩] [] [0, 1, 5, 11, 12, 13]) c41_10) c41_0)
def c41_12 : ACode :=
  (.seq (.region false [⟨some 5, none, .cst (.t (.int .i64 0))⟩] [] [0, 1, 5]) c41_11)
def c41 : ACode :=
  (.seq (.region false [⟨some 4, none, .cst (.t (.int .i64 0))⟩] [] [0, 1]) c41_12)
def r41 : List ARes := [.tmp 4]
def n41 : Nat := 29
/- 42 (*supergraph reach.numbers).all -/
def c42_0 : ACode :=
  (.seq (.region false [⟨some 24, none, .mv (.s 5)⟩,
    ⟨some 4, none, .mv (.s 24)⟩] [] [4]) .ret)
def c42_1 : ACode :=
  (.region false [⟨some 23, none, .bin .add (.s 11) (.c (.t (.int .i64 1)))⟩,
    ⟨some 11, none, .mv (.s 23)⟩] [] [0, 5, 9, 10, 11])
def c42_2 : ACode :=
  (.region false [⟨some 20, none, .mv (.s 5)⟩,
    ⟨some 21, none, .mv (.s 8)⟩,
    ⟨some 22, none, .maxi (.s 20) (.s 21)⟩,
    ⟨some 5, none, .mv (.s 22)⟩] [] [0, 5, 9, 10, 11])
def c42_3 : ACode :=
  (.seq (.region false [⟨some 4, none, .cst (.t (.int .i64 0))⟩] [] [4]) .ret)
def c42_4 : ACode :=
  (.cond (.s 19) c42_3 .skip)
def c42_5 : ACode :=
  (.seq (.seq (.region false [⟨some 18, none, .mv (.s 8)⟩,
    ⟨some 19, none, .bin .eql (.s 18) (.c (.t (.int .i64 0)))⟩] [] [0, 5, 8, 9, 10, 11, 19]) c42_4) c42_2)
def c42_6 : ACode :=
  (.seq (.region false [⟨some 15, none, .mv (.s 0)⟩,
    ⟨some 16, none, .mv (.s 7)⟩,
    ⟨some 17, none, .call 29 [(.s 15), (.s 16)]⟩,
    ⟨some 8, none, .mv (.s 17)⟩] [] [0, 5, 8, 9, 10, 11]) c42_5)
def c42_7 : ACode :=
  (.seq (.region false [⟨some 13, none, .ia 1 (.s 9) (.s 11)⟩,
    ⟨some 14, none, .ld false 1 (.s 13)⟩,
    ⟨some 7, none, .mv (.s 14)⟩] [] [0, 5, 7, 9, 10, 11]) c42_6)
def c42_8 : ACode :=
  (.seq (.block 1 c42_7) c42_1)
def c42_9 : ACode :=
  (.seq (.cond (.s 12) .skip (.exit 0)) c42_8)
def c42_10 : ACode :=
  (.seq (.region false [⟨some 12, none, .bin .lss (.s 11) (.s 10)⟩] [] [0, 5, 9, 10, 11, 12]) c42_9)
def c42_11 : ACode :=
  (.loop c42_10)
def c42_12 : ACode :=
  (.block 0 c42_11)
def c42_13 : ACode :=
  (.seq (.seq (.region false [⟨some 9, none, .mv (.s 1)⟩,
    ⟨some 10, none, .len (.s 9)⟩,
    ⟨some 11, none, .cst (.t (.int .i64 0))⟩] [] [0, 5, 9, 10, 11]) c42_12) c42_0)
def c42_14 : ACode :=
  (.seq (.region false [⟨some 5, none, .cst (.t (.int .i64 0))⟩] [] [0, 1, 5]) c42_13)
def c42 : ACode :=
  (.seq (.region false [⟨some 4, none, .cst (.t (.int .i64 0))⟩] [] [0, 1]) c42_14)
def r42 : List ARes := [.tmp 4]
def n42 : Nat := 25
/- 43 slices.Index[[]string,string] -/
def c43_0 : ACode :=
  (.seq (.region false [⟨some 4, none, .cst (.t (.int .i64 (-1)))⟩] [] [4]) .ret)
def c43_1 : ACode :=
  (.region false [⟨some 18, none, .bin .add (.s 8) (.c (.t (.int .i64 1)))⟩,
    ⟨some 8, none, .mv (.s 18)⟩] [] [0, 1, 7, 8])
def c43_2 : ACode :=
  (.seq (.region false [⟨some 17, none, .mv (.s 5)⟩,
    ⟨some 4, none, .mv (.s 17)⟩] [] [4]) .ret)
def c43_3 : ACode :=
  (.cond (.s 16) c43_2 .skip)
def c43_4 : ACode :=
  (.seq (.region false [⟨some 11, none, .mv (.s 1)⟩,
    ⟨some 12, none, .mv (.s 0)⟩,
    ⟨some 13, none, .mv (.s 5)⟩,
    ⟨some 14, none, .ia 1 (.s 12) (.s 13)⟩,
    ⟨some 15, none, .ld false 1 (.s 14)⟩,
    ⟨some 16, none, .bin .eql (.s 11) (.s 15)⟩] [] [0, 1, 5, 7, 8, 16]) c43_3)
def c43_5 : ACode :=
  (.seq (.region false [⟨some 10, none, .mv (.s 8)⟩,
    ⟨some 5, none, .mv (.s 10)⟩] [] [0, 1, 5, 7, 8]) c43_4)
def c43_6 : ACode :=
  (.seq (.block 1 c43_5) c43_1)
def c43_7 : ACode :=
  (.seq (.cond (.s 9) .skip (.exit 0)) c43_6)
def c43_8 : ACode :=
  (.seq (.region false [⟨some 9, none, .bin .lss (.s 8) (.s 7)⟩] [] [0, 1, 7, 8, 9]) c43_7)
def c43_9 : ACode :=
  (.loop c43_8)
def c43_10 : ACode :=
  (.block 0 c43_9)
def c43_11 : ACode :=
  (.seq (.seq (.region false [⟨some 6, none, .mv (.s 0)⟩,
    ⟨some 7, none, .len (.s 6)⟩,
    ⟨some 8, none, .cst (.t (.int .i64 0))⟩] [] [0, 1, 7, 8]) c43_10) c43_0)
def c43 : ACode :=
  (.seq (.region false [⟨some 4, none, .cst (.t (.int .i64 0))⟩] [] [0, 1]) c43_11)
def r43 : List ARes := [.tmp 4]
def n43 : Nat := 19

end Go.GB


/-
  R26A: contracts of chapter 26's functions: the numbers' methods.
-/
namespace Go.GB.C26
open Go.GB
set_option linter.unusedSimpArgs false
set_option linter.unusedVariables false
set_option maxRecDepth 100000
structure Pr (P : Program) : Prop where
  mixed : P.follows .mixedOrders = true
  i17 : fnInfo P 17 = some (n17, c17.bare, r17)
  i23 : fnInfo P 23 = some (n23, c23.bare, r23)
  i16 : fnInfo P 16 = some (n16, c16.bare, r16)
  i28 : fnInfo P 28 = some (n28, c28.bare, r28)
  i38 : fnInfo P 38 = some (n38, c38.bare, r38)
  i29 : fnInfo P 29 = some (n29, c29.bare, r29)
  i33 : fnInfo P 33 = some (n33, c33.bare, r33)
  i34 : fnInfo P 34 = some (n34, c34.bare, r34)
  i26 : fnInfo P 26 = some (n26, c26.bare, r26)
  i27 : fnInfo P 27 = some (n27, c27.bare, r27)
  i37 : fnInfo P 37 = some (n37, c37.bare, r37)
  i39 : fnInfo P 39 = some (n39, c39.bare, r39)
  i40 : fnInfo P 40 = some (n40, c40.bare, r40)
  i41 : fnInfo P 41 = some (n41, c41.bare, r41)
  i42 : fnInfo P 42 = some (n42, c42.bare, r42)
  i36 : fnInfo P 36 = some (n36, c36.bare, r36)
  i43 : fnInfo P 43 = some (n43, c43.bare, r43)
variable {P : Program}

abbrev Str := List UInt8
def sE (s : Str) : List T := [.str s]
def iE (n : Int) : T := .int .i64 n
structure Join where
  ty : Str
  field : Str
  graph : Int
  ext : Bool
  req : List Str
  prov : List Str
def Join.enc (j : Join) : List T := [.str j.ty, .str j.field, .int .i64 j.graph, .bool j.ext, .lst (j.req.map sE), .lst (j.prov.map sE)]
structure KeyO where
  ty : Str
  graph : Int
  fields : List Str
def KeyO.enc (k : KeyO) : List T := [.str k.ty, .int .i64 k.graph, .lst (k.fields.map sE)]
structure Spot where
  graph : Int
  depth : Int
  prov : List Str
def Spot.enc (x : Spot) : List T := [.int .i64 x.graph, .int .i64 x.depth, .lst (x.prov.map sE)]
structure Super where
  graphs : List Str
  doc : T
  keys : List KeyO
  joins : List Join
def Super.enc (s : Super) : List T := [.lst (s.graphs.map sE), s.doc, .lst (s.keys.map KeyO.enc), .lst (s.joins.map Join.enc)]

theorem sE_ok : KeyEnc [.str] sE := ⟨fun _ => rfl, fun x y h => by simpa [sE, keyEq, T.eqb] using h, fun x => by simp [sE, keyEq, T.eqb]⟩

def lesser (a b : Int) : Int := if (a == 0 || (b != 0 && decide (b < a))) = true then b else a
theorem lesser_ok (H : Pr P) (a b : Int) : FnOk P 37 [.t (.int .i64 a), .t (.int .i64 b)] ⟨[], 0⟩ { v := .t (.int .i64 (lesser a b)) } := by
  refine FnOk.run H.i37 H.mixed rfl rfl ?_
  refine fR rfl ?_
  refine Run.cond rfl rfl (fun h => ?_) (fun h => ?_)
  · refine fR rfl ?_
    refine Run.fin rfl (EndOk.go ?_); exact .t (by simp only [lesser, h, if_true])
  · refine fR rfl ?_
    refine Run.fin rfl (EndOk.go ?_); exact .t (by simp only [lesser, h]; simp)

/-- where a text stands -/
def indexS (s : Str) : List Str → Int → Int
  | [], _ => -1
  | x :: r, i => if s = x then i else indexS s r (i + 1)
theorem index_ok (H : Pr P) (l : List Str) (hl : l.length ≤ 9223372036854775807) (s : Str) : FnOk P 43 [.t (.lst (l.map sE)), .t (.str s)] ⟨[], 0⟩ { v := .t (.int .i64 (indexS s l 0)) } := by
  refine FnOk.run H.i43 H.mixed rfl rfl ?_
  refine fR rfl ?_
  refine lM rfl rfl rfl ?_
  refine fM rfl ?_
  refine rList l (fun i (_ : Unit) => { env := [(0, .t (.lst (l.map sE))), (1, .t (.str s)), (7, .t (.int .i64 l.length)), (8, .t (.int .i64 i))], s := ⟨[], 0⟩ }) (fun r i _ => indexS s l 0 = indexS s r i) 0 () rfl rfl rfl rfl rfl ?_ ?_
  · intro _ hinv
    refine fR rfl ?_
    refine Run.condF rfl rfl (by simp) ?_
    refine fR rfl ?_
    refine Run.fin rfl (EndOk.go ?_); exact .t (by simp [hinv, indexS])
  · intro i x r _ h1 hi hd hinv ih
    refine fR rfl ?_
    refine Run.condT rfl rfl (by simp; omega) ?_
    refine fR rfl ?_
    refine Mid.elemMap rfl rfl rfl h1 rfl rfl ?_
    refine fM rfl ?_
    refine Run.cond rfl rfl (fun h => ?_) (fun h => ?_)
    · refine fR rfl ?_
      refine Run.fin rfl (EndOk.go ?_)
      have : s = x := by simpa using h
      exact .t (by rw [hinv]; simp [indexS, this])
    · refine fR rfl ?_
      refine aL rfl rfl rfl rfl rfl ?_
      refine fM rfl ?_
      have : ¬ s = x := by simpa using h
      exact rWeak 0 rfl (ih () (by rw [hinv]; simp [indexS, this])) rfl rfl rfl

theorem index_mem (s : Str) : ∀ (l : List Str) (i : Int), 0 ≤ i → (decide (indexS s l i ≥ 0)) = decide (s ∈ l)
  | [], i, _ => by simp [indexS]
  | x :: r, i, hi => by
    simp only [indexS]
    by_cases h : s = x
    · subst h; simp [hi]
    · simp only [h, if_false, index_mem s r (i + 1) (by omega)]; simp [h]
theorem contains_ok (H : Pr P) (l : List Str) (hl : l.length ≤ 9223372036854775807) (s : Str) : FnOk P 40 [.t (.lst (l.map sE)), .t (.str s)] ⟨[], 0⟩ { v := .t (.bool (decide (s ∈ l))) } := by
  refine FnOk.run H.i40 H.mixed rfl rfl ?_
  refine fR rfl ?_
  refine Mid.call (index_ok H l hl s) rfl rfl rfl rfl ?_
  refine fM rfl ?_
  refine Run.fin rfl (EndOk.go ?_); exact .t (by rw [← index_mem s l 0 (by omega)])

/-- the store of the numbers -/
def nCells (s : Super) (sp : List Spot) (js : List Join) (ks : List KeyO) (nb : Nat) : List V :=
  [.t (.lst (s.graphs.map sE)), .t s.doc, .t (.lst (s.keys.map KeyO.enc)), .t (.lst (s.joins.map Join.enc)), .t (.lst (sp.map Spot.enc)), .t (.lst (js.map Join.enc)), .t (.lst (ks.map KeyO.enc)), .slc 2 0 nb 8, .mp 1]
def nSto (s : Super) (sp : List Spot) (js : List Join) (ks : List KeyO) (nb : Nat) (F : List (Str × Int)) (A : List Int) : List (Nat × AObj) :=
  [(0, .cells (nCells s sp js ks nb)), (1, .map false (mE sE iE F) none), (2, .cells (cE iE A))]
theorem nSto_bd {s : Super} {sp : List Spot} {js : List Join} {ks : List KeyO} {nb : Nat} {F : List (Str × Int)} {A : List Int} : stoBd 3 (nSto s sp js ks nb F A) = true := by
  simp [nSto, stoBd, nCells, AObj.bd_mE, AObj.bd_cE]; simp [AObj.bd, V.bds, V.bd]

section
variable {s : Super} {sp : List Spot} {js : List Join} {ks : List KeyO} {nb : Nat} {F : List (Str × Int)} {A : List Int}

theorem at_ok (H : Pr P) (g : Nat) (hg : g < 8 * nb) (hb : nb < 1000) : FnOk P 38 [.ptr 0 0, .t (.int .i64 g)] ⟨nSto s sp js ks nb F A, 3⟩ { v := .ptr 2 g, rd := true } := by
  refine FnOk.run H.i38 H.mixed rfl rfl ?_
  refine fR rfl ?_
  refine Mid.quoN rfl rfl rfl rfl (by omega) (by omega) rfl ?_
  refine fM rfl ?_
  refine Mid.remN rfl rfl rfl rfl (by omega) rfl ?_
  refine Mid.iaS rfl rfl (by omega) rfl ?_
  refine Mid.iarrS rfl rfl (by omega) rfl ?_
  refine fM rfl ?_
  refine Run.fin rfl (EndOk.sameX rfl (ex := []) rfl rfl nSto_bd (.le (.eq (congrArg (V.ptr 2) (by omega : 0 + g / 8 * 8 + g % 8 * 1 = g)) (by rfl))))
end
end Go.GB.C26


/-
  R26B: contracts of chapter 26's functions: level, all, key.
-/
namespace Go.GB.C26
open Go.GB
set_option linter.unusedSimpArgs false
set_option linter.unusedVariables false
set_option maxRecDepth 100000
variable {P : Program}

def Join.ok (nb : Nat) (j : Join) : Prop := (0 ≤ j.graph ∧ j.graph < 8 * nb) ∧ j.req.length ≤ 100000 ∧ j.prov.length ≤ 100000
def KeyO.ok (k : KeyO) : Prop := k.fields.length ≤ 100000
def Spot.ok (x : Spot) : Prop := x.prov.length ≤ 9223372036854775807
/-- bounds of the numbers -/
structure NOk (s : Super) (sp : List Spot) (js : List Join) (ks : List KeyO) (nb : Nat) (A : List Int) : Prop where
  hnb : nb < 1000
  gr : s.graphs.length ≤ 8 * nb
  lenA : A.length = 8 * nb
  spL : sp.length ≤ 100000
  jsL : js.length ≤ 100000
  ksL : ks.length ≤ 100000
  spO : ∀ x ∈ sp, x.ok
  jsO : ∀ j ∈ js, j.ok nb
  ksO : ∀ k ∈ ks, k.ok

def tyN : Str := [95, 95, 116, 121, 112, 101, 110, 97, 109, 101]
def foldG (A : List Int) : Nat → Nat → Int → Int
  | _, 0, b => b
  | i, c + 1, b => foldG A (i + 1) c (lesser b (A.getD i 0))
def levelP (n : Nat) (F : List (Str × Int)) (A : List Int) (f : Str) : Int :=
  if f = tyN then foldG A 0 n ((kget f F).getD 0) else (kget f F).getD 0
def allP (n : Nat) (F : List (Str × Int)) (A : List Int) : List Str → Int → Int
  | [], m => m
  | f :: r, m => if levelP n F A f = 0 then 0 else allP n F A r (if levelP n F A f > m then levelP n F A f else m)
def keyP (n : Nat) (F : List (Str × Int)) (A : List Int) (g : Int) : List KeyO → Int → Int
  | [], b => b
  | k :: r, b => keyP n F A g r (if k.graph = g then lesser b (allP n F A k.fields 0) else b)

section
variable {s : Super} {sp : List Spot} {js : List Join} {ks : List KeyO} {nb : Nat} {F : List (Str × Int)} {A : List Int}

theorem level_ok (H : Pr P) (hN : NOk s sp js ks nb A) (f : Str) : FnOk P 29 [.ptr 0 0, .t (.str f)] ⟨nSto s sp js ks nb F A, 3⟩ { v := .t (.int .i64 (levelP s.graphs.length F A f)), rd := true } := by
  have h1 := hN.hnb
  have h2 := hN.gr
  have h3 := hN.lenA
  refine FnOk.run H.i29 H.mixed rfl rfl ?_
  refine fR rfl ?_
  refine Mid.lookT (f) rfl rfl rfl rfl rfl (sE_ok) rfl ?_
  refine fM rfl ?_
  refine Run.cond rfl rfl (fun hf => ?_) (fun hf => ?_)
  · refine fR rfl ?_
    refine lM rfl rfl rfl ?_
    refine fM rfl ?_
    refine rList s.graphs (fun i (b : Int) => { env := [(0, .ptr 0 0), (5, .t (.int .i64 b)), (20, .t (.int .i64 s.graphs.length)), (21, .t (.int .i64 i))], s := ⟨nSto s sp js ks nb F A, 3⟩ }) (fun r i b => levelP s.graphs.length F A f = foldG A i r.length b) 3 ((kget f F).getD 0) rfl (by simp [levelP, (by simpa [tyN] using hf : f = tyN)]) rfl rfl rfl ?_ ?_
    · intro b hinv
      refine fR rfl ?_
      refine Run.condF rfl rfl (by simp) ?_
      refine fR rfl ?_
      refine Run.fin rfl (EndOk.sameX rfl rfl rfl (by first | exact rfl | exact nSto_bd | exact tSto_bd) (.t ((by rw [hinv]; rfl))))
    · intro i x r b h1 hi hd hinv ih
      refine fR rfl ?_
      refine Run.condT rfl rfl (by simp; omega) ?_
      refine fR rfl ?_
      refine Mid.callS (at_ok H i (by omega) hN.hnb) rfl rfl (by first | exact rfl | exact nSto_bd | exact tSto_bd) rfl ?_
      refine p0 rfl ?_
      refine Mid.ldE rfl rfl ((List.getElem?_eq_getElem (by omega) : A[i]? = some A[i])) rfl ?_
      skip
      refine Mid.call (lesser_ok H b A[i]) rfl rfl rfl rfl ?_
      refine fM rfl ?_
      refine aL rfl rfl rfl rfl rfl ?_
      refine fM rfl ?_
      exact rWeak 3 rfl (ih (lesser b A[i]) (by rw [hinv]; simp [foldG, List.getD_eq_getElem?_getD, show i < A.length by omega])) rfl rfl rfl
  · refine fR rfl ?_
    have hne : ¬ f = tyN := by
      intro h; rw [h] at hf; revert hf; decide
    refine Run.fin rfl (EndOk.sameX rfl rfl rfl (by first | exact rfl | exact nSto_bd | exact tSto_bd) (.t ((by simp [levelP, hne, iE]))))

theorem all_ok (H : Pr P) (hN : NOk s sp js ks nb A) (l : List Str) (hl : l.length ≤ 100000) : FnOk P 42 [.ptr 0 0, .t (.lst (l.map sE))] ⟨nSto s sp js ks nb F A, 3⟩ { v := .t (.int .i64 (allP s.graphs.length F A l 0)), rd := true } := by
  refine FnOk.run H.i42 H.mixed rfl rfl ?_
  refine fR rfl ?_
  refine lM rfl rfl rfl ?_
  refine fM rfl ?_
  refine rList l (fun i (b : Int) => { env := [(0, .ptr 0 0), (5, .t (.int .i64 b)), (9, .t (.lst (l.map sE))), (10, .t (.int .i64 l.length)), (11, .t (.int .i64 i))], s := ⟨nSto s sp js ks nb F A, 3⟩ }) (fun r i b => allP s.graphs.length F A l 0 = allP s.graphs.length F A r b) 3 0 rfl rfl rfl rfl rfl ?_ ?_
  · intro b hinv
    refine fR rfl ?_
    refine Run.condF rfl rfl (by simp) ?_
    refine fR rfl ?_
    refine Run.fin rfl (EndOk.sameX rfl rfl rfl (by first | exact rfl | exact nSto_bd | exact tSto_bd) (.t ((by rw [hinv]; rfl))))
  · intro i x r b h1 hi hd hinv ih
    refine fR rfl ?_
    refine Run.condT rfl rfl (by simp; omega) ?_
    refine fR rfl ?_
    refine Mid.elemMap rfl rfl rfl h1 rfl rfl ?_
    refine fM rfl ?_
    refine Mid.callS (level_ok H hN x) rfl rfl (by first | exact rfl | exact nSto_bd | exact tSto_bd) rfl ?_
    refine fM rfl ?_
    refine Run.cond rfl rfl (fun h0 => ?_) (fun h0 => ?_)
    · refine fR rfl ?_
      have h0' : levelP s.graphs.length F A x = 0 := by simpa using h0
      refine Run.fin rfl (EndOk.sameX rfl rfl rfl (by first | exact rfl | exact nSto_bd | exact tSto_bd) (.t ((by rw [hinv]; simp [allP, h0']))))
    · refine fR rfl ?_
      refine aL rfl rfl rfl rfl rfl ?_
      refine fM rfl ?_
      have h0' : ¬ levelP s.graphs.length F A x = 0 := by simpa using h0
      exact rWeak 3 rfl (ih (if levelP s.graphs.length F A x > b then levelP s.graphs.length F A x else b) (by rw [hinv]; simp only [allP, h0', if_false])) rfl rfl rfl

theorem key_ok (H : Pr P) (hN : NOk s sp js ks nb A) (g : Int) : FnOk P 41 [.ptr 0 0, .t (.int .i64 g)] ⟨nSto s sp js ks nb F A, 3⟩ { v := .t (.int .i64 (keyP s.graphs.length F A g ks 0)), rd := true } := by
  have h2 := hN.ksL
  refine FnOk.run H.i41 H.mixed rfl rfl ?_
  refine fR rfl ?_
  refine lM rfl rfl rfl ?_
  refine fM rfl ?_
  refine rList ks (fun i (b : Int) => { env := [(0, .ptr 0 0), (1, .t (.int .i64 g)), (5, .t (.int .i64 b)), (11, .t (.lst (ks.map KeyO.enc))), (12, .t (.int .i64 ks.length)), (13, .t (.int .i64 i))], s := ⟨nSto s sp js ks nb F A, 3⟩ }) (fun r i b => keyP s.graphs.length F A g ks 0 = keyP s.graphs.length F A g r b) 3 0 rfl rfl rfl rfl rfl ?_ ?_
  · intro b hinv
    refine fR rfl ?_
    refine Run.condF rfl rfl (by simp) ?_
    refine fR rfl ?_
    refine Run.fin rfl (EndOk.sameX rfl rfl rfl (by first | exact rfl | exact nSto_bd | exact tSto_bd) (.t ((by rw [hinv]; rfl))))
  · intro i x r b h1 hi hd hinv ih
    refine fR rfl ?_
    refine Run.condT rfl rfl (by simp; omega) ?_
    refine fR rfl ?_
    refine Mid.elemMap rfl rfl rfl h1 rfl rfl ?_
    refine fM rfl ?_
    refine Run.cond rfl rfl (fun hg => ?_) (fun hg => ?_)
    · refine fR rfl ?_
      have hg' : x.graph = g := by simpa using hg
      refine Mid.callRd [0, 1, 2] (all_ok (F := F) H hN x.fields (hN.ksO x (List.mem_of_getElem? h1))) rfl rfl rfl rfl nSto_bd (by repeat' (first | exact trivial | exact rfl | refine And.intro ?_ ?_ | exact (congrArg some (AObj.ren_mE _ _ _ _ _ _)).symm | exact (congrArg some (AObj.ren_cE _ _ _)).symm)) rfl ?_
      skip
      refine Mid.call (lesser_ok H b (allP s.graphs.length F A x.fields 0)) rfl rfl rfl rfl ?_
      refine fM rfl ?_
      refine aL rfl rfl rfl rfl rfl ?_
      refine fM rfl ?_
      exact rWeak 3 rfl (ih (lesser b (allP s.graphs.length F A x.fields 0)) (by rw [hinv]; simp only [keyP, hg', if_true])) rfl rfl rfl
    · refine fR rfl ?_
      refine aL rfl rfl rfl rfl rfl ?_
      refine fM rfl ?_
      have hg' : ¬ x.graph = g := by simpa using hg
      exact rWeak 3 rfl (ih b (by rw [hinv]; simp only [keyP, hg', if_false])) rfl rfl rfl
end
end Go.GB.C26


/-
  R26C: contracts of chapter 26's functions: read, round.
-/
namespace Go.GB.C26
open Go.GB
set_option linter.unusedSimpArgs false
set_option linter.unusedVariables false
set_option maxRecDepth 100000
variable {P : Program}

def spotP (j : Join) : List Spot → Int → Int
  | [], b => b
  | x :: r, b => spotP j r (if (x.graph == j.graph && decide (j.field ∈ x.prov)) = true then lesser b x.depth else b)
def up (k m : Int) : Int := IntKind.i64.wrap ((if m > k then m else k) + 1)
def readP (n : Nat) (sp : List Spot) (ks : List KeyO) (F : List (Str × Int)) (A : List Int) (j : Join) : Int :=
  if j.ext = true then spotP j sp 0
  else if j.req.length = 0 then A.getD j.graph.toNat 0
  else if (keyP n F A j.graph ks 0 == 0 || allP n F A j.req 0 == 0) = true then 0
  else up (keyP n F A j.graph ks 0) (allP n F A j.req 0)

section
variable {s : Super} {sp : List Spot} {js : List Join} {ks : List KeyO} {nb : Nat} {F : List (Str × Int)} {A : List Int}

theorem read_ok (H : Pr P) (hN : NOk s sp js ks nb A) (j : Join) (hj : j.ok nb) : FnOk P 33 [.ptr 0 0, .agg [.t (.str j.ty), .t (.str j.field), .t (.int .i64 j.graph), .t (.bool j.ext), .t (.lst (j.req.map sE)), .t (.lst (j.prov.map sE))]] ⟨nSto s sp js ks nb F A, 3⟩ { v := .t (.int .i64 (readP s.graphs.length sp ks F A j)), rd := true } := by
  have h2 := hN.spL
  have h3 := hN.lenA
  have h4 := hN.hnb
  obtain ⟨⟨hg0, hg1⟩, hq, hp⟩ := hj
  refine FnOk.run H.i33 H.mixed rfl rfl ?_
  refine fR rfl ?_
  refine Run.cond rfl rfl (fun he => ?_) (fun he => ?_)
  · refine fR rfl ?_
    refine lM rfl rfl rfl ?_
    refine fM rfl ?_
    refine rList sp (fun i (b : Int) => { env := [(3, .ptr 3 0), (5, .t (.int .i64 b)), (15, .t (.lst (sp.map Spot.enc))), (16, .t (.int .i64 sp.length)), (17, .t (.int .i64 i))], s := ⟨nSto s sp js ks nb F A ++ [(3, .cells [.t (.str j.ty), .t (.str j.field), .t (.int .i64 j.graph), .t (.bool j.ext), .t (.lst (j.req.map sE)), .t (.lst (j.prov.map sE))])], 4⟩ }) (fun r i b => readP s.graphs.length sp ks F A j = spotP j r b) 4 0 rfl (by simp [readP, he]) rfl rfl rfl ?_ ?_
    · intro b hinv
      refine fR rfl ?_
      refine Run.condF rfl rfl (by simp) ?_
      refine fR rfl ?_
      refine Run.fin rfl (EndOk.sameX rfl rfl rfl (by first | exact rfl | exact nSto_bd | exact tSto_bd) (.t ((by rw [hinv]; rfl))))
    · intro i x r b h1 hi hd hinv ih
      refine fR rfl ?_
      refine Run.condT rfl rfl (by simp; omega) ?_
      refine fR rfl ?_
      refine Mid.elemMap rfl rfl rfl h1 rfl rfl ?_
      refine fM rfl ?_
      refine caG rfl rfl (fun hg => ⟨_, rfl, contains_ok H x.prov (hN.spO x (List.mem_of_getElem? h1)) j.field, rfl⟩) rfl rfl ?_
      refine fM rfl ?_
      refine Run.cond rfl rfl (fun hc => ?_) (fun hc => ?_)
      · refine fR rfl ?_
        refine Mid.call (lesser_ok H b x.depth) rfl rfl rfl rfl ?_
        refine fM rfl ?_
        refine aL rfl rfl rfl rfl rfl ?_
        refine fM rfl ?_
        exact rWeak 4 rfl (ih (lesser b x.depth) (by rw [hinv]; simp only [spotP, hc, if_true])) rfl rfl rfl
      · refine fR rfl ?_
        refine aL rfl rfl rfl rfl rfl ?_
        refine fM rfl ?_
        exact rWeak 4 rfl (ih b (by rw [hinv]; simp only [spotP, hc]; simp)) rfl rfl rfl
  · refine fR rfl ?_
    refine lM rfl rfl rfl ?_
    refine fM rfl ?_
    refine Run.cond rfl rfl (fun hr => ?_) (fun hr => ?_)
    · refine fR rfl ?_
      obtain ⟨g, hg⟩ := Int.eq_ofNat_of_zero_le hg0
      rw [hg]
      refine Mid.callRd [0, 1, 2] (at_ok (s := s) (sp := sp) (js := js) (ks := ks) (F := F) (A := A) H g (by omega) hN.hnb) rfl rfl rfl rfl nSto_bd (by repeat' (first | exact trivial | exact rfl | refine And.intro ?_ ?_ | exact (congrArg some (AObj.ren_mE _ _ _ _ _ _)).symm | exact (congrArg some (AObj.ren_cE _ _ _)).symm)) rfl ?_
      refine p0 rfl ?_
      refine Mid.ldE rfl rfl ((List.getElem?_eq_getElem (by omega) : A[g]? = some A[g])) rfl ?_
      refine fM rfl ?_
      have hr' : j.req.length = 0 := by simpa using hr
      refine Run.fin rfl (EndOk.sameX rfl rfl rfl (by first | exact rfl | exact nSto_bd | exact tSto_bd) (.t ((by simp [readP, he, hr', hg, iE, List.getD_eq_getElem?_getD, show g < A.length by omega]))))
    · refine fR rfl ?_
      have hr' : ¬ j.req.length = 0 := by simpa using hr
      refine Mid.callRd [0, 1, 2] (key_ok (F := F) H hN j.graph) rfl rfl rfl rfl nSto_bd (by repeat' (first | exact trivial | exact rfl | refine And.intro ?_ ?_ | exact (congrArg some (AObj.ren_mE _ _ _ _ _ _)).symm | exact (congrArg some (AObj.ren_cE _ _ _)).symm)) rfl ?_
      refine fM rfl ?_
      refine Mid.callRd [0, 1, 2] (all_ok (F := F) H hN j.req hq) rfl rfl rfl rfl nSto_bd (by repeat' (first | exact trivial | exact rfl | refine And.intro ?_ ?_ | exact (congrArg some (AObj.ren_mE _ _ _ _ _ _)).symm | exact (congrArg some (AObj.ren_cE _ _ _)).symm)) rfl ?_
      refine fM rfl ?_
      refine Run.cond rfl rfl (fun hz => ?_) (fun hz => ?_)
      · refine fR rfl ?_
        refine Run.fin rfl (EndOk.sameX rfl rfl rfl (by first | exact rfl | exact nSto_bd | exact tSto_bd) (.t ((by simp only [readP, he, hr', hz]; simp))))
      · refine fR rfl ?_
        refine p0 rfl ?_
        refine fM rfl ?_
        refine Run.fin rfl (EndOk.sameX rfl rfl rfl (by first | exact rfl | exact nSto_bd | exact tSto_bd) (.t ((by simp only [readP, he, hr', hz, up]; simp))))
end
end Go.GB.C26


/-
  R26D: contracts of chapter 26's functions: round.
-/
namespace Go.GB.C26
open Go.GB
set_option linter.unusedSimpArgs false
set_option linter.unusedVariables false
set_option maxRecDepth 100000
set_option maxHeartbeats 1000000
variable {P : Program}

def gR (n : Nat) (F : List (Str × Int)) (ks : List KeyO) : Nat → Nat → List Int → Bool → List Int × Bool
  | _, 0, A, ch => (A, ch)
  | i, c + 1, A, ch =>
    if keyP n F A i ks 0 > 0 then
      if lesser (A.getD i 0) (IntKind.i64.wrap (keyP n F A i ks 0 + 1)) ≠ A.getD i 0 then gR n F ks (i + 1) c (A.set i (lesser (A.getD i 0) (IntKind.i64.wrap (keyP n F A i ks 0 + 1)))) true
      else gR n F ks (i + 1) c A ch
    else gR n F ks (i + 1) c A ch
def jR (n : Nat) (sp : List Spot) (ks : List KeyO) (A : List Int) : List Join → List (Str × Int) → Bool → List (Str × Int) × Bool
  | [], F, ch => (F, ch)
  | j :: r, F, ch =>
    if lesser ((kget j.field F).getD 0) (readP n sp ks F A j) ≠ (kget j.field F).getD 0 then jR n sp ks A r (kset j.field (lesser ((kget j.field F).getD 0) (readP n sp ks F A j)) F) true
    else jR n sp ks A r F ch
def roundP (n : Nat) (sp : List Spot) (js : List Join) (ks : List KeyO) (F : List (Str × Int)) (A : List Int) : List (Str × Int) × List Int × Bool :=
  ((jR n sp ks (gR n F ks 0 n A false).1 js F (gR n F ks 0 n A false).2).1, (gR n F ks 0 n A false).1, (jR n sp ks (gR n F ks 0 n A false).1 js F (gR n F ks 0 n A false).2).2)

section
variable {s : Super} {sp : List Spot} {js : List Join} {ks : List KeyO} {nb : Nat} {F : List (Str × Int)} {A : List Int}

theorem NOk.set (hN : NOk s sp js ks nb A) (i : Nat) (x : Int) : NOk s sp js ks nb (A.set i x) :=
  { hN with lenA := by rw [List.length_set]; exact hN.lenA }

theorem gR_ok (hN : NOk s sp js ks nb A) : ∀ (c i : Nat) (A : List Int) (ch : Bool), NOk s sp js ks nb A → NOk s sp js ks nb (gR s.graphs.length F ks i c A ch).1
  | 0, i, A, ch, h => h
  | c + 1, i, A, ch, h => by
    simp only [gR]
    split
    · split
      · exact gR_ok hN c _ _ _ (h.set _ _)
      · exact gR_ok hN c _ _ _ h
    · exact gR_ok hN c _ _ _ h

theorem round_ok (H : Pr P) (hN : NOk s sp js ks nb A) : FnOk P 39 [.ptr 0 0] ⟨nSto s sp js ks nb F A, 3⟩
    { v := .t (.bool (roundP s.graphs.length sp js ks F A).2.2), ob := [(1, .map false (mE sE iE (roundP s.graphs.length sp js ks F A).1) none), (2, .cells (cE iE (roundP s.graphs.length sp js ks F A).2.1))], rd := true } := by
  have h2 := hN.hnb
  have h3 := hN.gr
  have h4 := hN.jsL
  refine FnOk.run H.i39 H.mixed rfl rfl ?_
  refine fR rfl ?_
  refine lM rfl rfl rfl ?_
  refine fM rfl ?_
  refine rList s.graphs (fun i (b : List Int × Bool) => { env := [(0, .ptr 0 0), (3, .t (.bool b.2)), (15, .t (.int .i64 s.graphs.length)), (16, .t (.int .i64 i))], s := ⟨nSto s sp js ks nb F b.1, 3⟩ }) (fun r i b => NOk s sp js ks nb b.1 ∧ gR s.graphs.length F ks 0 s.graphs.length A false = gR s.graphs.length F ks i r.length b.1 b.2) 3 (A, false) rfl ⟨hN, rfl⟩ rfl rfl rfl ?_ ?_
  · rintro ⟨A', ch⟩ ⟨hN', hinv⟩
    refine fR rfl ?_
    refine Run.condF rfl rfl (by simp) ?_
    refine fR rfl ?_
    refine lM rfl rfl rfl ?_
    refine fM rfl ?_
    refine rList js (fun i (b : List (Str × Int) × Bool) => { env := [(0, .ptr 0 0), (3, .t (.bool b.2)), (48, .t (.lst (js.map Join.enc))), (49, .t (.int .i64 js.length)), (50, .t (.int .i64 i))], s := ⟨nSto s sp js ks nb b.1 A', 3⟩ }) (fun r i b => jR s.graphs.length sp ks A' js F ch = jR s.graphs.length sp ks A' r b.1 b.2) 3 (F, ch) rfl rfl rfl rfl rfl ?_ ?_
    · rintro ⟨F', ch'⟩ hinv'
      refine fR rfl ?_
      refine Run.condF rfl rfl (by simp) ?_
      refine fR rfl ?_
      have e1 : gR s.graphs.length F ks 0 s.graphs.length A false = (A', ch) := by rw [hinv]; rfl
      have e2 : roundP s.graphs.length sp js ks F A = (F', A', ch') := by
        have : jR s.graphs.length sp ks A' js F ch = (F', ch') := by rw [hinv']; rfl
        simp only [roundP, e1, this]
      rw [e2]
      refine Run.fin rfl (EndOk.chg rfl rfl (.t rfl) ?_)
      exact (by repeat' (first | exact trivial | exact LeX.t | exact LeX.top | exact LeX.nilOwn (Nat.le_of_ble_eq_true rfl) (Nat.le_of_ble_eq_true rfl) | exact LeX.ownT | exact LeX.nilT | exact LeX.same rfl | exact LeX.tEq (by simp) | exact LeX.ownEq (by simp) (Nat.le_of_ble_eq_true rfl) | exact LeX.tEq (by congr 1 <;> omega) | exact Or.inr ⟨Nat.le_of_ble_eq_true rfl, Nat.le_of_ble_eq_true rfl, rfl⟩ | refine Or.inl ⟨Nat.le_of_ble_eq_true rfl, _, rfl, ?_⟩ | refine LeO.cells ?_ | exact LeO.arr rfl | exact LeO.arr (by simp) | exact LeO.mE (by first | rfl | simp) (by first | exact Or.inl rfl | exact Or.inr rfl) | exact LeO.cE (by first | rfl | simp) | exact LeXs.cE (by first | rfl | simp) | refine LeO.map (by first | rfl | simp) ?_ (by first | exact Or.inl rfl | exact Or.inr rfl) | refine LeXs.cons ?_ ?_ | exact LeXs.nil | refine And.intro ?_ ?_))
    · rintro i x r ⟨F', ch'⟩ h1 hi hd hinv' ih
      refine fR rfl ?_
      refine Run.condT rfl rfl (by simp; omega) ?_
      refine fR rfl ?_
      refine Mid.elemMap rfl rfl rfl h1 rfl rfl ?_
      refine fM rfl ?_
      refine Mid.lookT (x.field) rfl rfl rfl rfl rfl (sE_ok) rfl ?_
      refine fM rfl ?_
      refine Mid.callRd [0, 1, 2] (read_ok (F := F') H hN' x (hN.jsO x (List.mem_of_getElem? h1))) rfl rfl rfl rfl nSto_bd (by repeat' (first | exact trivial | exact rfl | refine And.intro ?_ ?_ | exact (congrArg some (AObj.ren_mE _ _ _ _ _ _)).symm | exact (congrArg some (AObj.ren_cE _ _ _)).symm)) rfl ?_
      skip
      refine Mid.call (lesser_ok H ((kget x.field F').getD 0) (readP s.graphs.length sp ks F' A' x)) rfl rfl rfl rfl ?_
      refine fM rfl ?_
      refine Mid.lookT (x.field) rfl rfl rfl rfl rfl (sE_ok) rfl ?_
      refine fM rfl ?_
      refine Run.cond rfl rfl (fun hc => ?_) (fun hc => ?_)
      · refine Run.learn (q := 1) rfl rfl (fun cl bs hl hn hlt => ?_)
        refine fR rfl ?_
        refine Mid.entT (x.field) rfl rfl (by simpa [mE] using hl) hn hlt rfl rfl (sE_ok) (fun zs zc zb hf => ?_)
        refine fM rfl ?_
        refine Mid.estT _ rfl rfl rfl rfl hf rfl ?_
        refine fM rfl ?_
        refine aL rfl rfl rfl rfl rfl ?_
        refine fM rfl ?_
        have hc' : lesser ((kget x.field F').getD 0) (readP s.graphs.length sp ks F' A' x) ≠ (kget x.field F').getD 0 := by simpa [iE] using hc
        exact rWeak 3 rfl (ih (kset x.field (lesser ((kget x.field F').getD 0) (readP s.graphs.length sp ks F' A' x)) F', true) (by rw [hinv']; simp only [jR, hc', if_true]; simp [hc'])) rfl rfl rfl
      · refine fR rfl ?_
        refine aL rfl rfl rfl rfl rfl ?_
        refine fM rfl ?_
        have hc' : lesser ((kget x.field F').getD 0) (readP s.graphs.length sp ks F' A' x) = (kget x.field F').getD 0 := by simpa [iE] using hc
        exact rWeak 3 rfl (ih (F', ch') (by rw [hinv']; simp [jR, hc'])) rfl rfl rfl
  · rintro i x r ⟨A', ch⟩ h1 hi hd ⟨hN', hinv⟩ ih
    refine fR rfl ?_
    refine Run.condT rfl rfl (by simp; omega) ?_
    refine fR rfl ?_
    refine Mid.callS (key_ok (F := F) H hN' i) rfl rfl (by first | exact rfl | exact nSto_bd | exact tSto_bd) rfl ?_
    refine fM rfl ?_
    have hiA : i < A'.length := by
      have := hN'.lenA
      simp only at this
      omega
    have hgd : A'[i]? = some (A'.getD i 0) := by rw [List.getD_eq_getElem?_getD, List.getElem?_eq_getElem hiA]; rfl
    refine Run.cond rfl rfl (fun hk => ?_) (fun hk => ?_)
    · have hk' : keyP s.graphs.length F A' i ks 0 > 0 := by simpa using hk
      refine fR rfl ?_
      refine Mid.callS (at_ok H i (by omega) hN.hnb) rfl rfl (by first | exact rfl | exact nSto_bd | exact tSto_bd) rfl ?_
      refine p0 rfl ?_
      refine Mid.ldE rfl rfl (hgd) rfl ?_
      refine fM rfl ?_
      refine p0 rfl ?_
      refine Mid.call (lesser_ok H (A'.getD i 0) (IntKind.i64.wrap (keyP s.graphs.length F A' i ks 0 + 1))) rfl rfl rfl rfl ?_
      refine fM rfl ?_
      refine Mid.callS (at_ok H i (by omega) hN.hnb) rfl rfl (by first | exact rfl | exact nSto_bd | exact tSto_bd) rfl ?_
      refine p0 rfl ?_
      refine Mid.ldE rfl rfl (hgd) rfl ?_
      refine fM rfl ?_
      refine Run.cond rfl rfl (fun hc => ?_) (fun hc => ?_)
      · refine fR rfl ?_
        refine Mid.callS (at_ok H i (by omega) hN.hnb) rfl rfl (by first | exact rfl | exact nSto_bd | exact tSto_bd) rfl ?_
        refine p0 rfl ?_
        refine p0 rfl ?_
        refine Mid.stE rfl rfl (hiA) rfl rfl ?_
        refine fM rfl ?_
        refine aL rfl rfl rfl rfl rfl ?_
        refine fM rfl ?_
        have hc' : lesser (A'.getD i 0) (IntKind.i64.wrap (keyP s.graphs.length F A' i ks 0 + 1)) ≠ A'.getD i 0 := by simpa [iE] using hc
        exact rWeak 3 rfl (ih (A'.set i (lesser (A'.getD i 0) (IntKind.i64.wrap (keyP s.graphs.length F A' i ks 0 + 1))), true) ⟨hN'.set _ _, by rw [hinv]; simp only [List.length_cons, gR, hk', if_true]; rw [if_pos hc']⟩) rfl rfl rfl
      · refine fR rfl ?_
        refine aL rfl rfl rfl rfl rfl ?_
        refine fM rfl ?_
        have hc' : lesser (A'.getD i 0) (IntKind.i64.wrap (keyP s.graphs.length F A' i ks 0 + 1)) = A'.getD i 0 := by simpa [iE] using hc
        exact rWeak 3 rfl (ih (A', ch) ⟨hN', by rw [hinv]; simp only [List.length_cons, gR, hk', if_true]; rw [if_neg (fun h => h hc')]⟩) rfl rfl rfl
    · refine fR rfl ?_
      refine aL rfl rfl rfl rfl rfl ?_
      refine fM rfl ?_
      have hk' : ¬ keyP s.graphs.length F A' i ks 0 > 0 := by simpa using hk
      exact rWeak 3 rfl (ih (A', ch) ⟨hN', by rw [hinv]; simp [gR, hk']⟩) rfl rfl rfl
end
end Go.GB.C26


/-
  R26E: contracts of chapter 26's functions: solve.
-/
namespace Go.GB.C26
open Go.GB
set_option linter.unusedSimpArgs false
set_option linter.unusedVariables false
set_option maxRecDepth 100000
set_option maxHeartbeats 1000000
variable {P : Program}

/-- 'at' while the spots grow -/
theorem at_ok2 (H : Pr P) {a0 a1 a2 a3 : T} {sp : List Spot} {F : List (Str × Int)} {A : List Int} {nb : Nat} (g : Nat) (hg : g < 8 * nb) (hb : nb < 1000) :
    FnOk P 38 [.ptr 0 0, .t (.int .i64 g)] ⟨[(0, .cells [.t a0, .t a1, .t a2, .t a3, .own 3 3 (sp.map Spot.enc), .nils, .nils, .slc 2 0 nb 8, .mp 1]), (1, .map false (mE sE iE F) none), (2, .cells (cE iE A)), (3, .arr sp.length)], 4⟩ { v := .ptr 2 g, rd := true } := by
  refine FnOk.run H.i38 H.mixed rfl rfl ?_
  refine fR rfl ?_
  refine Mid.quoN rfl rfl rfl rfl (by omega) (by omega) rfl ?_
  refine fM rfl ?_
  refine Mid.remN rfl rfl rfl rfl (by omega) rfl ?_
  refine Mid.iaS rfl rfl (by omega) rfl ?_
  refine Mid.iarrS rfl rfl (by omega) rfl ?_
  refine fM rfl ?_
  refine Run.fin rfl (EndOk.sameX rfl (ex := []) rfl rfl (by simp [stoBd, AObj.bd_mE, AObj.bd_cE]; simp [AObj.bd, V.bds, V.bd]) (.le (.eq (congrArg (V.ptr 2) (by omega : 0 + g / 8 * 8 + g % 8 * 1 = g)) (by rfl))))

def inb (n : Nat) (x : Spot) : Bool := decide (x.graph ≥ 0) && decide (x.graph < n) && decide (x.depth ≥ 1) && decide (x.depth ≤ 1099511627776)
def spots0 (n : Nat) : List Spot → List Spot → List Int → List Spot × List Int
  | [], sp, A => (sp, A)
  | x :: r, sp, A => if inb n x = true then spots0 n r (sp ++ [x]) (A.set x.graph.toNat (lesser (A.getD x.graph.toNat 0) x.depth)) else spots0 n r sp A
def lvE (p : Str × Int) : List T := [.str p.1, .int .i64 p.2, .int .i64 0]
def bE (b : Bool) : T := .bool b
theorem lvE_ok : KeyEnc [.str, .int .i64, .int .i64] lvE :=
  ⟨fun _ => rfl, fun x y h => by simp [lvE, keyEq, T.eqb] at h; exact Prod.ext h.1 h.2, fun x => by simp [lvE, keyEq, T.eqb]⟩
def inj (n : Nat) (name : Str) (seen : List ((Str × Int) × Bool)) (j : Join) : Bool := (j.ty == name) && decide (j.graph ≥ 0) && decide (j.graph < n) && !((kget (j.field, j.graph) seen).getD false)
def joins0 (n : Nat) (name : Str) : List Join → List Join → List ((Str × Int) × Bool) → List Join
  | [], js, _ => js
  | j :: r, js, seen => if inj n name seen j = true then joins0 n name r (js ++ [j]) (kset (j.field, j.graph) true seen) else joins0 n name r js seen
def ink (n : Nat) (name : Str) (k : KeyO) : Bool := (k.ty == name) && decide (k.graph ≥ 0) && decide (k.graph < n)
def keys0 (n : Nat) (name : Str) : List KeyO → List KeyO → List KeyO
  | [], ks => ks
  | k :: r, ks => if ink n name k = true then keys0 n name r (ks ++ [k]) else keys0 n name r ks

def iterP (n : Nat) (sp : List Spot) (js : List Join) (ks : List KeyO) : Nat → List (Str × Int) → List Int → List (Str × Int) × List Int
  | 0, F, A => (F, A)
  | f + 1, F, A => if (roundP n sp js ks F A).2.2 = true then iterP n sp js ks f (roundP n sp js ks F A).1 (roundP n sp js ks F A).2.1 else ((roundP n sp js ks F A).1, (roundP n sp js ks F A).2.1)
def stops (n : Nat) (sp : List Spot) (js : List Join) (ks : List KeyO) : Nat → List (Str × Int) → List Int → Prop
  | 0, _, _ => False
  | f + 1, F, A => (roundP n sp js ks F A).2.2 = true → stops n sp js ks f (roundP n sp js ks F A).1 (roundP n sp js ks F A).2.1

theorem solve_ok (H : Pr P) (s : Super) (name : Str) (here sp : List Spot) (js : List Join) (ks : List KeyO) (A0 A1 : List Int) (F1 : List (Str × Int)) (fuel : Nat) (h1 : s.graphs.length ≤ 2000) (h2 : here.length ≤ 100000) (h3 : s.joins.length ≤ 100000) (h4 : s.keys.length ≤ 100000)
    (e1 : spots0 s.graphs.length here [] (List.replicate (s.graphs.length / 8 + 1) (List.replicate 8 0)).flatten = (sp, A0)) (e2 : joins0 s.graphs.length name s.joins [] [] = js) (e3 : keys0 s.graphs.length name s.keys [] = ks)
    (hN : NOk s sp js ks (s.graphs.length / 8 + 1) A0) (hst : stops s.graphs.length sp js ks fuel [] A0) (e4 : iterP s.graphs.length sp js ks fuel [] A0 = (F1, A1)) :
    FnOk P 28 [.agg [.t (.lst (s.graphs.map sE)), .t s.doc, .t (.lst (s.keys.map KeyO.enc)), .t (.lst (s.joins.map Join.enc))], .t (.str name), .t (.lst (here.map Spot.enc))] ⟨[], 0⟩ { v := .ptr 3 0, ob := [(1, .map false (mE sE iE F1) none), (2, .cells (cE iE A1)), (3, .cells (nCells s sp js ks (s.graphs.length / 8 + 1)))], n := 4 } := by
  refine FnOk.run H.i28 H.mixed rfl rfl ?_
  refine fR rfl ?_
  refine Mid.mkmapT sE iE rfl ?_
  refine fM rfl ?_
  refine lM rfl rfl rfl ?_
  refine Mid.quoN rfl rfl rfl rfl (by omega) (by omega) rfl ?_
  refine aL rfl rfl rfl rfl rfl ?_
  refine Mid.makeE (List.replicate 8 0) rfl (by omega) (by omega) rfl rfl rfl ?_
  refine fM rfl ?_
  refine lM rfl rfl rfl ?_
  refine fM rfl ?_
  refine rList here (fun i (b : List Spot × List Int) => { env := [(1, .t (.str name)), (3, .ptr 0 0), (7, .ptr 3 0), (26, .t (.lst (here.map Spot.enc))), (27, .t (.int .i64 here.length)), (28, .t (.int .i64 i))], s := ⟨[(0, .cells [.t (.lst (s.graphs.map sE)), .t s.doc, .t (.lst (s.keys.map KeyO.enc)), .t (.lst (s.joins.map Join.enc))]), (1, .map false (mE sE iE []) none), (2, .cells (cE iE b.2)), (3, .cells [.t (.lst (s.graphs.map sE)), .t s.doc, .t (.lst (s.keys.map KeyO.enc)), .t (.lst (s.joins.map Join.enc)), .own 4 3 (b.1.map Spot.enc), .nils, .nils, .slc 2 0 (s.graphs.length / 8 + 1) 8, .mp 1]), (4, .arr b.1.length)], 5⟩ }) (fun r i b => b.1.length ≤ i ∧ b.2.length = 8 * (s.graphs.length / 8 + 1) ∧ spots0 s.graphs.length r b.1 b.2 = (sp, A0)) 4 ([], (List.replicate (s.graphs.length / 8 + 1) (List.replicate 8 0)).flatten) rfl ⟨by simp, by simp; omega, e1⟩ rfl rfl rfl ?_ ?_
  · rintro ⟨sp', A'⟩ ⟨_, _, hinv⟩
    simp only [spots0] at hinv
    cases hinv
    refine fR rfl ?_
    refine Run.condF rfl rfl (by simp) ?_
    refine fR rfl ?_
    refine Mid.mkmapT lvE bE rfl ?_
    refine fM rfl ?_
    refine lM rfl rfl rfl ?_
    refine fM rfl ?_
    refine rList s.joins (fun i (b : List Join × List ((Str × Int) × Bool)) => { env := [(1, .t (.str name)), (3, .ptr 0 0), (7, .ptr 3 0), (10, .mp 5), (80, .t (.lst (s.joins.map Join.enc))), (81, .t (.int .i64 s.joins.length)), (82, .t (.int .i64 i))], s := ⟨[(0, .cells [.t (.lst (s.graphs.map sE)), .t s.doc, .t (.lst (s.keys.map KeyO.enc)), .t (.lst (s.joins.map Join.enc))]), (1, .map false (mE sE iE []) none), (2, .cells (cE iE A0)), (3, .cells [.t (.lst (s.graphs.map sE)), .t s.doc, .t (.lst (s.keys.map KeyO.enc)), .t (.lst (s.joins.map Join.enc)), .t (.lst (sp.map Spot.enc)), .own 6 6 (b.1.map Join.enc), .nils, .slc 2 0 (s.graphs.length / 8 + 1) 8, .mp 1]), (5, .map true (mE lvE bE b.2) none), (6, .arr b.1.length)], 7⟩ }) (fun r i b => b.1.length ≤ i ∧ joins0 s.graphs.length name r b.1 b.2 = js) 6 ([], []) rfl ⟨by simp, e2⟩ rfl rfl rfl ?_ ?_
    · rintro ⟨js', seen⟩ ⟨_, hinv⟩
      simp only [joins0] at hinv
      subst hinv
      refine fR rfl ?_
      refine Run.condF rfl rfl (by simp) ?_
      refine fR rfl ?_
      refine lM rfl rfl rfl ?_
      refine fM rfl ?_
      refine rList s.keys (fun i (b : List KeyO) => { env := [(1, .t (.str name)), (3, .ptr 0 0), (7, .ptr 3 0), (128, .t (.lst (s.keys.map KeyO.enc))), (129, .t (.int .i64 s.keys.length)), (130, .t (.int .i64 i))], s := ⟨[(0, .cells [.t (.lst (s.graphs.map sE)), .t s.doc, .t (.lst (s.keys.map KeyO.enc)), .t (.lst (s.joins.map Join.enc))]), (1, .map false (mE sE iE []) none), (2, .cells (cE iE A0)), (3, .cells [.t (.lst (s.graphs.map sE)), .t s.doc, .t (.lst (s.keys.map KeyO.enc)), .t (.lst (s.joins.map Join.enc)), .t (.lst (sp.map Spot.enc)), .t (.lst (js'.map Join.enc)), .own 5 3 (b.map KeyO.enc), .slc 2 0 (s.graphs.length / 8 + 1) 8, .mp 1]), (5, .arr b.length)], 6⟩ }) (fun r i b => b.length ≤ i ∧ keys0 s.graphs.length name r b = ks) 5 [] rfl ⟨by simp, e3⟩ rfl rfl rfl ?_ ?_
      · rintro ks' ⟨_, hinv⟩
        simp only [keys0] at hinv
        subst hinv
        refine fR rfl ?_
        refine Run.condF rfl rfl (by simp) ?_
        skip
        refine rLoopM (β := Nat × List (Str × Int) × List Int) (fun b => { env := [(7, .ptr 3 0)], s := ⟨[(1, .map false (mE sE iE b.2.1) none), (2, .cells (cE iE b.2.2)), (3, .cells (nCells s sp js' ks' (s.graphs.length / 8 + 1)))], 4⟩ })
          (fun b => NOk s sp js' ks' (s.graphs.length / 8 + 1) b.2.2 ∧ stops s.graphs.length sp js' ks' b.1 b.2.1 b.2.2 ∧ iterP s.graphs.length sp js' ks' b.1 b.2.1 b.2.2 = (F1, A1)) (fun b => b.1) 4 (fuel, [], A0) rfl ⟨hN, hst, e4⟩ rfl rfl rfl ?_ (he := (by repeat' (first | exact trivial | exact LeX.t | exact LeX.top | exact LeX.nilOwn (Nat.le_of_ble_eq_true rfl) (Nat.le_of_ble_eq_true rfl) | exact LeX.ownT | exact LeX.nilT | exact LeX.same rfl | exact LeX.tEq (by simp) | exact LeX.ownEq (by simp) (Nat.le_of_ble_eq_true rfl) | exact LeX.tEq (by congr 1 <;> omega) | exact Or.inr ⟨Nat.le_of_ble_eq_true rfl, Nat.le_of_ble_eq_true rfl, rfl⟩ | refine Or.inl ⟨Nat.le_of_ble_eq_true rfl, _, rfl, ?_⟩ | refine LeO.cells ?_ | exact LeO.arr rfl | exact LeO.arr (by simp) | exact LeO.mE (by first | rfl | simp) (by first | exact Or.inl rfl | exact Or.inr rfl) | exact LeO.cE (by first | rfl | simp) | exact LeXs.cE (by first | rfl | simp) | refine LeO.map (by first | rfl | simp) ?_ (by first | exact Or.inl rfl | exact Or.inr rfl) | refine LeXs.cons ?_ ?_ | exact LeXs.nil | refine And.intro ?_ ?_))) (hs := (by repeat' (first | exact trivial | exact LeX.t | exact LeX.top | exact LeX.nilOwn (Nat.le_of_ble_eq_true rfl) (Nat.le_of_ble_eq_true rfl) | exact LeX.ownT | exact LeX.nilT | exact LeX.same rfl | exact LeX.tEq (by simp) | exact LeX.ownEq (by simp) (Nat.le_of_ble_eq_true rfl) | exact LeX.tEq (by congr 1 <;> omega) | exact Or.inr ⟨Nat.le_of_ble_eq_true rfl, Nat.le_of_ble_eq_true rfl, rfl⟩ | refine Or.inl ⟨Nat.le_of_ble_eq_true rfl, _, rfl, ?_⟩ | refine LeO.cells ?_ | exact LeO.arr rfl | exact LeO.arr (by simp) | exact LeO.mE (by first | rfl | simp) (by first | exact Or.inl rfl | exact Or.inr rfl) | exact LeO.cE (by first | rfl | simp) | exact LeXs.cE (by first | rfl | simp) | refine LeO.map (by first | rfl | simp) ?_ (by first | exact Or.inl rfl | exact Or.inr rfl) | refine LeXs.cons ?_ ?_ | exact LeXs.nil | refine And.intro ?_ ?_)))
        rintro ⟨f, F', A'⟩ ⟨hN', hs', hi'⟩ ih
        cases f with
        | zero => exact hs'.elim
        | succ f =>
          simp only [stops] at hs'
          simp only [iterP] at hi'
          refine fR rfl ?_
          refine Mid.callR [3, 1, 2] (round_ok (F := F') H hN') rfl rfl rfl rfl nSto_bd (by repeat' (first | exact trivial | exact rfl | refine And.intro ?_ ?_ | exact (congrArg some (AObj.ren_mE _ _ _ _ _ _)).symm | exact (congrArg some (AObj.ren_cE _ _ _)).symm)) rfl rfl (ob' := [(1, .map false (mE sE iE (roundP s.graphs.length sp js' ks' F' A').1) none), (2, .cells (cE iE (roundP s.graphs.length sp js' ks' F' A').2.1))]) ((by simp only [renOb, AObj.ren_mE, AObj.ren_cE]; rfl)) rfl rfl ?_
          refine fM rfl ?_
          refine Run.cond rfl rfl (fun hc => ?_) (fun hc => ?_)
          · skip
            rw [if_pos hc] at hi'
            have hN2 : NOk s sp js' ks' (s.graphs.length / 8 + 1) (roundP s.graphs.length sp js' ks' F' A').2.1 := gR_ok hN' _ _ _ _ hN'
            exact rWeak 4 rfl (ih (f, (roundP s.graphs.length sp js' ks' F' A').1, (roundP s.graphs.length sp js' ks' F' A').2.1) (by simp) ⟨hN2, hs' hc, hi'⟩) rfl rfl rfl
          · refine fR rfl ?_
            rw [if_neg (by rw [hc]; simp)] at hi'
            cases hi'
            refine Run.fin rfl (EndOk.chg rfl rfl ?_ ?_)
            · exact .le (.same rfl)
            · exact (by repeat' (first | exact trivial | exact LeX.t | exact LeX.top | exact LeX.nilOwn (Nat.le_of_ble_eq_true rfl) (Nat.le_of_ble_eq_true rfl) | exact LeX.ownT | exact LeX.nilT | exact LeX.same rfl | exact LeX.tEq (by simp) | exact LeX.ownEq (by simp) (Nat.le_of_ble_eq_true rfl) | exact LeX.tEq (by congr 1 <;> omega) | exact Or.inr ⟨Nat.le_of_ble_eq_true rfl, Nat.le_of_ble_eq_true rfl, rfl⟩ | refine Or.inl ⟨Nat.le_of_ble_eq_true rfl, _, rfl, ?_⟩ | refine LeO.cells ?_ | exact LeO.arr rfl | exact LeO.arr (by simp) | exact LeO.mE (by first | rfl | simp) (by first | exact Or.inl rfl | exact Or.inr rfl) | exact LeO.cE (by first | rfl | simp) | exact LeXs.cE (by first | rfl | simp) | refine LeO.map (by first | rfl | simp) ?_ (by first | exact Or.inl rfl | exact Or.inr rfl) | refine LeXs.cons ?_ ?_ | exact LeXs.nil | refine And.intro ?_ ?_))
      · rintro i x r ks' hi1 hi hd ⟨hl, hinv⟩ ih
        refine fR rfl ?_
        refine Run.condT rfl rfl (by simp; omega) ?_
        refine fR rfl ?_
        refine Mid.elemMap rfl rfl rfl hi1 rfl rfl ?_
        refine fM rfl ?_
        refine lMG rfl rfl rfl rfl ?_
        refine fM rfl ?_
        refine Run.cond rfl rfl (fun hc => ?_) (fun hc => ?_)
        · have hc2 : ink s.graphs.length name x = true := hc
          refine fR rfl ?_
          refine apM KeyO.enc ks' [x] rfl rfl rfl rfl rfl ?_
          refine fM rfl ?_
          refine aL rfl rfl rfl rfl rfl ?_
          refine fM rfl ?_
          exact rWeak 6 rfl (ih (ks' ++ [x]) ⟨by simp; omega, by rw [← hinv]; simp only [keys0, hc2, if_true]⟩) rfl rfl rfl
        · refine fR rfl ?_
          refine aL rfl rfl rfl rfl rfl ?_
          refine fM rfl ?_
          have hc2 : ink s.graphs.length name x = false := hc
          exact rWeak 6 rfl (ih ks' ⟨by omega, by rw [← hinv]; simp [keys0, hc2]⟩) rfl rfl rfl
    · rintro i x r ⟨js', seen⟩ hi1 hi hd ⟨hl, hinv⟩ ih
      have hl' : js'.length ≤ i := hl
      refine fR rfl ?_
      refine Run.condT rfl rfl (by simp; omega) ?_
      refine fR rfl ?_
      refine Mid.elemMap rfl rfl rfl hi1 rfl rfl ?_
      refine fM rfl ?_
      refine lMG rfl rfl rfl rfl ?_
      refine fM rfl ?_
      refine Mid.lookTG ((x.field, x.graph)) rfl rfl rfl rfl rfl rfl (lvE_ok) (by (repeat' (first | exact trivial | exact Bool.not_or_self _ | exact grd1 _ | exact grd2 _ | exact grd3 _ _ | exact grd4 _ _ | refine And.intro ?_ ?_ | exact rfl | (simp; done) | (simp <;> omega))); done) (by (repeat' (first | exact trivial | exact Bool.not_or_self _ | exact grd1 _ | exact grd2 _ | exact grd3 _ _ | exact grd4 _ _ | refine And.intro ?_ ?_ | exact rfl | (simp; done) | (simp <;> omega))); done) rfl ?_
      refine fM rfl ?_
      refine Run.cond rfl rfl (fun hc => ?_) (fun hc => ?_)
      · have hc2 : inj s.graphs.length name seen x = true := hc
        refine fR rfl ?_
        refine Mid.mapT ((x.field, x.graph)) rfl rfl rfl rfl (lvE_ok) rfl ?_
        refine fM rfl ?_
        refine apM Join.enc js' [x] rfl rfl rfl rfl rfl ?_
        refine fM rfl ?_
        refine aL rfl rfl rfl rfl rfl ?_
        refine fM rfl ?_
        exact rWeak 7 rfl (ih (js' ++ [x], kset (x.field, x.graph) true seen) ⟨by simp; omega, by rw [← hinv]; simp only [joins0, hc2, if_true]⟩) rfl rfl rfl
      · refine fR rfl ?_
        refine aL rfl rfl rfl rfl rfl ?_
        refine fM rfl ?_
        have hc2 : inj s.graphs.length name seen x = false := hc
        exact rWeak 7 rfl (ih (js', seen) ⟨by simp only; omega, by rw [← hinv]; simp [joins0, hc2]⟩) rfl rfl rfl
  · rintro i ⟨gr, dp, pv⟩ r ⟨sp', A'⟩ hi1 hi hd ⟨hl, hA, hinv⟩ ih
    have hl' : sp'.length ≤ i := hl
    have hA' : A'.length = 8 * (s.graphs.length / 8 + 1) := hA
    refine fR rfl ?_
    refine Run.condT rfl rfl (by simp; omega) ?_
    refine fR rfl ?_
    refine Mid.elemMap rfl rfl rfl hi1 rfl rfl ?_
    refine fM rfl ?_
    refine lMG rfl rfl rfl rfl ?_
    refine fM rfl ?_
    refine Run.cond rfl rfl (fun hc => ?_) (fun hc => ?_)
    · have hc2 : inb s.graphs.length ⟨gr, dp, pv⟩ = true := hc
      have hg : 0 ≤ gr ∧ gr < s.graphs.length := by
        simp [inb] at hc2; omega
      obtain ⟨g, rfl⟩ := Int.eq_ofNat_of_zero_le hg.1
      have hiA : g < A'.length := by omega
      have hgd : A'[g]? = some (A'.getD g 0) := by rw [List.getD_eq_getElem?_getD, List.getElem?_eq_getElem hiA]; rfl
      refine fR rfl ?_
      refine apM Spot.enc sp' [⟨(g : Int), dp, pv⟩] rfl rfl rfl rfl rfl ?_
      refine fM rfl ?_
      refine Mid.callRd [3, 1, 2, 4] (at_ok2 (a0 := .lst (s.graphs.map sE)) (a1 := s.doc) (a2 := .lst (s.keys.map KeyO.enc)) (a3 := .lst (s.joins.map Join.enc)) (sp := sp' ++ [⟨(g : Int), dp, pv⟩]) (F := []) (A := A') (nb := s.graphs.length / 8 + 1) H g (by omega) (by omega)) rfl rfl rfl rfl (by simp [stoBd, AObj.bd_mE, AObj.bd_cE]; simp [AObj.bd, V.bds, V.bd]) (by repeat' (first | exact trivial | exact rfl | refine And.intro ?_ ?_ | exact (congrArg some (AObj.ren_mE _ _ _ _ _ _)).symm | exact (congrArg some (AObj.ren_cE _ _ _)).symm)) rfl ?_
      refine fM rfl ?_
      refine Mid.callRd [3, 1, 2, 4] (at_ok2 (a0 := .lst (s.graphs.map sE)) (a1 := s.doc) (a2 := .lst (s.keys.map KeyO.enc)) (a3 := .lst (s.joins.map Join.enc)) (sp := sp' ++ [⟨(g : Int), dp, pv⟩]) (F := []) (A := A') (nb := s.graphs.length / 8 + 1) H g (by omega) (by omega)) rfl rfl rfl rfl (by simp [stoBd, AObj.bd_mE, AObj.bd_cE]; simp [AObj.bd, V.bds, V.bd]) (by repeat' (first | exact trivial | exact rfl | refine And.intro ?_ ?_ | exact (congrArg some (AObj.ren_mE _ _ _ _ _ _)).symm | exact (congrArg some (AObj.ren_cE _ _ _)).symm)) rfl ?_
      refine p0 rfl ?_
      refine Mid.ldE rfl rfl (hgd) rfl ?_
      refine fM rfl ?_
      refine Mid.call (lesser_ok H (A'.getD g 0) dp) rfl rfl rfl rfl ?_
      refine p0 rfl ?_
      refine Mid.stE rfl rfl (hiA) rfl rfl ?_
      refine fM rfl ?_
      refine aL rfl rfl rfl rfl rfl ?_
      refine fM rfl ?_
      exact rWeak 5 rfl (ih (sp' ++ [⟨(g : Int), dp, pv⟩], A'.set g (lesser (A'.getD g 0) dp)) ⟨by simp; omega, by simpa using hA', by rw [← hinv]; simp only [spots0, hc2, if_true]; rfl⟩) rfl rfl rfl
    · refine fR rfl ?_
      refine aL rfl rfl rfl rfl rfl ?_
      refine fM rfl ?_
      have hc2 : inb s.graphs.length ⟨gr, dp, pv⟩ = false := hc
      exact rWeak 5 rfl (ih (sp', A') ⟨by simp only; omega, hA, by rw [← hinv]; simp [spots0, hc2]⟩) rfl rfl rfl
end Go.GB.C26


/-
  R26F: contracts of chapter 26's functions: what is handed out of the numbers.
-/
namespace Go.GB.C26
open Go.GB
set_option linter.unusedSimpArgs false
set_option linter.unusedVariables false
set_option maxRecDepth 100000
set_option maxHeartbeats 1000000
variable {P : Program}

/-- what 'solve' finds -/
structure Sol (s : Super) (name : Str) (here sp : List Spot) (js : List Join) (ks : List KeyO) (F1 : List (Str × Int)) (A1 : List Int) : Prop where
  h1 : s.graphs.length ≤ 2000
  h2 : here.length ≤ 100000
  h3 : s.joins.length ≤ 100000
  h4 : s.keys.length ≤ 100000
  e2 : joins0 s.graphs.length name s.joins [] [] = js
  e3 : keys0 s.graphs.length name s.keys [] = ks
  ex : ∃ A0 fuel, spots0 s.graphs.length here [] (List.replicate (s.graphs.length / 8 + 1) (List.replicate 8 0)).flatten = (sp, A0) ∧ NOk s sp js ks (s.graphs.length / 8 + 1) A0 ∧ stops s.graphs.length sp js ks fuel [] A0 ∧ iterP s.graphs.length sp js ks fuel [] A0 = (F1, A1)
  hN : NOk s sp js ks (s.graphs.length / 8 + 1) A1

def Super.v (s : Super) : V := .agg [.t (.lst (s.graphs.map sE)), .t s.doc, .t (.lst (s.keys.map KeyO.enc)), .t (.lst (s.joins.map Join.enc))]

section
variable {s : Super} {name : Str} {here sp : List Spot} {js : List Join} {ks : List KeyO} {F : List (Str × Int)} {A : List Int}

theorem solve_ok1 (H : Pr P) (h : Sol s name here sp js ks F A) : FnOk P 28 [s.v, .t (.str name), .t (.lst (here.map Spot.enc))] ⟨[], 0⟩ { v := .ptr 3 0, ob := [(1, .map false (mE sE iE F) none), (2, .cells (cE iE A)), (3, .cells (nCells s sp js ks (s.graphs.length / 8 + 1)))], n := 4 } := by
  obtain ⟨A0, fuel, g1, g2, g3, g4⟩ := h.ex
  exact solve_ok H s name here sp js ks A0 A F fuel h.h1 h.h2 h.h3 h.h4 g1 h.e2 h.e3 g2 g3 g4

def nC4 (s : Super) (sp : List Spot) (js : List Join) (ks : List KeyO) : List V :=
  [.t (.lst (s.graphs.map sE)), .t s.doc, .t (.lst (s.keys.map KeyO.enc)), .t (.lst (s.joins.map Join.enc)), .t (.lst (sp.map Spot.enc)), .t (.lst (js.map Join.enc)), .t (.lst (ks.map KeyO.enc)), .slc 3 0 (s.graphs.length / 8 + 1) 8, .mp 2]

theorem get_ok (H : Pr P) (h : Sol s name here sp js ks F A) (f : Str) : FnOk P 17 [s.v, .t (.str name), .t (.lst (here.map Spot.enc)), .t (.str f)] ⟨[], 0⟩ { v := .tup [.t (.int .i64 (levelP s.graphs.length F A f)), .t (.bool (decide (levelP s.graphs.length F A f > 0)))] } := by
  refine FnOk.run H.i17 H.mixed rfl rfl ?_
  refine fR rfl ?_
  refine Mid.callR [] (solve_ok1 H h) rfl rfl rfl rfl rfl (by repeat' (first | exact trivial | exact rfl | refine And.intro ?_ ?_ | exact (congrArg some (AObj.ren_mE _ _ _ _ _ _)).symm | exact (congrArg some (AObj.ren_cE _ _ _)).symm)) rfl rfl (ob' := [(2, .map false (mE sE iE F) none), (3, .cells (cE iE A)), (4, .cells (nC4 s sp js ks))]) ((by simp only [renOb, AObj.ren_mE, AObj.ren_cE]; rfl)) rfl rfl ?_
  refine fM rfl ?_
  refine Mid.callRd [4, 2, 3] (level_ok (F := F) H h.hN f) rfl rfl rfl rfl nSto_bd (by repeat' (first | exact trivial | exact rfl | refine And.intro ?_ ?_ | exact (congrArg some (AObj.ren_mE _ _ _ _ _ _)).symm | exact (congrArg some (AObj.ren_cE _ _ _)).symm)) rfl ?_
  refine fM rfl ?_
  refine Run.fin rfl (EndOk.go ?_); exact .tup2 (.t rfl) (.t rfl)

end
end Go.GB.C26


/-
  R26G: contracts of chapter 26's functions: Levels.
-/
namespace Go.GB.C26
open Go.GB
set_option linter.unusedSimpArgs false
set_option linter.unusedVariables false
set_option maxRecDepth 100000
set_option maxHeartbeats 1000000
variable {P : Program}

structure Level where
  field : Str
  graph : Int
  depth : Int
def Level.enc (l : Level) : List T := [.str l.field, .int .i64 l.graph, .int .i64 l.depth]
section
variable {s : Super} {name : Str} {here sp : List Spot} {js : List Join} {ks : List KeyO} {F : List (Str × Int)} {A : List Int}

end
end Go.GB.C26


/-
  R26T: contracts of chapter 26's functions: Clone, Child, Roots.
-/
namespace Go.GB.C26
open Go.GB
set_option linter.unusedSimpArgs false
set_option linter.unusedVariables false
set_option maxRecDepth 100000
set_option maxHeartbeats 1000000
variable {P : Program}

theorem clone_ok (H : Pr P) (l : List Str) (hl : l.length ≤ 100000) : FnOk P 34 [.t (.lst (l.map sE))] ⟨[], 0⟩ { v := .t (.lst (l.map sE)) } := by
  refine FnOk.run H.i34 H.mixed rfl rfl ?_
  refine fR rfl ?_
  refine p0 rfl ?_
  refine fM rfl ?_
  refine Run.condU rfl rfl (fun h => ?_) (fun _ => ?_)
  · have hn : l = [] := by
      cases l with
      | nil => rfl
      | cons x r =>
        have := h (sE x) (by simp)
        simp [sE] at this
    subst hn
    refine fR rfl ?_
    refine Run.fin rfl (EndOk.go ?_); exact .nil rfl
  · refine fR rfl ?_
    refine apN sE l rfl rfl rfl ?_ (h1 := by omega) (h2 := by omega)
    refine fM rfl ?_
    refine Run.fin rfl (EndOk.go ?_); exact .own (by simp)

def childP (n : Nat) (sp : List Spot) (ks : List KeyO) (F : List (Str × Int)) (A : List Int) (f : Str) (g : Int) : List Join → List Spot → List Spot
  | [], acc => acc
  | j :: r, acc => childP n sp ks F A f g r (if (!(j.field == f) || !(j.graph == g) || j.ext) = true then acc else if readP n sp ks F A j > 0 then acc ++ [⟨g, readP n sp ks F A j, j.prov⟩] else acc)
def childG (n : Nat) (sp : List Spot) (js : List Join) (ks : List KeyO) (F : List (Str × Int)) (A : List Int) (f : Str) : Nat → Nat → List Spot → List Spot
  | _, 0, acc => acc
  | i, c + 1, acc => childG n sp js ks F A f (i + 1) c (childP n sp ks F A f i js acc)

section
variable {s : Super} {name : Str} {here sp : List Spot} {js : List Join} {ks : List KeyO} {F : List (Str × Int)} {A : List Int}

end

def rootJ (name : Str) (g : Int) (j : Join) : Bool := (j.ty == name) && (j.graph == g)
def idxJ (p : Join → Bool) : Int → List Join → Int
  | _, [] => -1
  | i, b :: l => if p b then i else idxJ p (i + 1) l
theorem idxJ_ge (p : Join → Bool) : ∀ (l : List Join) (i : Int), 0 ≤ i → decide (idxJ p i l ≥ 0) = l.any p
  | [], i, h => by simp [idxJ]
  | b :: l, i, h => by
    have ih := idxJ_ge p l (i + 1) (by omega)
    by_cases hp : p b = true
    · simp [idxJ, hp, h]
    · simp only [idxJ, List.any_cons, hp]
      simpa using ih

theorem roots1_ok (H : Pr P) (j : Join) (name : Str) (g : Int) : FnOk P 27 [.agg [.t (.str j.ty), .t (.str j.field), .t (.int .i64 j.graph), .t (.bool j.ext), .t (.lst (j.req.map sE)), .t (.lst (j.prov.map sE))], .ptr 0 0, .ptr 1 0] ⟨[(0, .cells [.t (.str name)]), (1, .cells [.t (.int .i64 g)])], 2⟩ { v := .t (.bool (rootJ name g j)), rd := true } := by
  refine FnOk.run H.i27 H.mixed rfl rfl ?_
  refine fR rfl ?_
  refine Run.fin rfl (EndOk.sameX rfl rfl rfl (by first | exact rfl | exact nSto_bd | exact tSto_bd) (.t (rfl)))
theorem indexFunc_ok (H : Pr P) (l : List Join) (hl : l.length ≤ 100000) (name : Str) (g : Int) : FnOk P 36 [.t (.lst (l.map Join.enc)), .fn 27 [(0, 0), (1, 0)]] ⟨[(0, .cells [.t (.str name)]), (1, .cells [.t (.int .i64 g)])], 2⟩ { v := .t (.int .i64 (idxJ (rootJ name g) 0 l)), rd := true } := by
  refine FnOk.run H.i36 H.mixed rfl rfl ?_
  refine fR rfl ?_
  refine lM rfl rfl rfl ?_
  refine fM rfl ?_
  refine rList l (fun i (_ : Unit) => { env := [(0, .t (.lst (l.map Join.enc))), (1, .fn 27 [(0, 0), (1, 0)]), (7, .t (.int .i64 l.length)), (8, .t (.int .i64 i))], s := ⟨[(0, .cells [.t (.str name)]), (1, .cells [.t (.int .i64 g)])], 2⟩ }) (fun r i _ => idxJ (rootJ name g) 0 l = idxJ (rootJ name g) i r) 2 () rfl rfl rfl rfl rfl ?_ ?_
  · intro _ hinv
    refine fR rfl ?_
    refine Run.condF rfl rfl (by simp) ?_
    refine fR rfl ?_
    refine Run.fin rfl (EndOk.sameX rfl rfl rfl (by first | exact rfl | exact nSto_bd | exact tSto_bd) (.t ((by rw [hinv]; rfl))))
  · intro i x r _ h1 hi hd hinv ih
    refine fR rfl ?_
    refine Run.condT rfl rfl (by simp; omega) ?_
    refine fR rfl ?_
    refine Mid.elemMap rfl rfl rfl h1 rfl rfl ?_
    refine fM rfl ?_
    refine Mid.callvS rfl (roots1_ok H x name g) rfl rfl rfl rfl ?_
    refine fM rfl ?_
    refine Run.cond rfl rfl (fun hc => ?_) (fun hc => ?_)
    · refine fR rfl ?_
      refine Run.fin rfl (EndOk.sameX rfl rfl rfl (by first | exact rfl | exact nSto_bd | exact tSto_bd) (.t ((by rw [hinv]; simp [idxJ, hc]))))
    · refine fR rfl ?_
      refine aL rfl rfl rfl rfl rfl ?_
      refine fM rfl ?_
      exact rWeak 2 rfl (ih () (by rw [hinv]; simp [idxJ, hc])) rfl rfl rfl
theorem containsFunc_ok (H : Pr P) (l : List Join) (hl : l.length ≤ 100000) (name : Str) (g : Int) : FnOk P 26 [.t (.lst (l.map Join.enc)), .fn 27 [(0, 0), (1, 0)]] ⟨[(0, .cells [.t (.str name)]), (1, .cells [.t (.int .i64 g)])], 2⟩ { v := .t (.bool (l.any (rootJ name g))), rd := true } := by
  refine FnOk.run H.i26 H.mixed rfl rfl ?_
  refine fR rfl ?_
  refine Mid.callS (indexFunc_ok H l hl name g) rfl rfl (by first | exact rfl | exact nSto_bd | exact tSto_bd) rfl ?_
  refine fM rfl ?_
  refine Run.fin rfl (EndOk.sameX rfl rfl rfl (by first | exact rfl | exact nSto_bd | exact tSto_bd) (.t ((by rw [← idxJ_ge (rootJ name g) l 0 (by omega)]))))

def rootsP (name : Str) (js : List Join) : Nat → Nat → List Spot → List Spot
  | _, 0, acc => acc
  | i, c + 1, acc => rootsP name js (i + 1) c (if js.any (rootJ name i) = true then acc ++ [⟨i, 1, []⟩] else acc)
theorem roots_ok (H : Pr P) (s : Super) (name : Str) (h1 : s.graphs.length ≤ 2000) (h3 : s.joins.length ≤ 100000) : FnOk P 16 [s.v, .t (.str name)] ⟨[], 0⟩ { v := .t (.lst ((rootsP name s.joins 0 s.graphs.length []).map Spot.enc)) } := by
  refine FnOk.run H.i16 H.mixed rfl rfl ?_
  refine fR rfl ?_
  refine lM rfl rfl rfl ?_
  refine fM rfl ?_
  refine rList s.graphs (fun i (B : List Spot) => { env := [(2, .ptr 0 0), (3, .ptr 1 0), (5, .own 2 3 (B.map Spot.enc)), (9, .t (.int .i64 s.graphs.length)), (10, .t (.int .i64 i))], s := ⟨[(0, .cells [.t (.lst (s.graphs.map sE)), .t s.doc, .t (.lst (s.keys.map KeyO.enc)), .t (.lst (s.joins.map Join.enc))]), (1, .cells [.t (.str name)]), (2, .arr B.length)], 3⟩ }) (fun r i B => B.length ≤ i ∧ rootsP name s.joins 0 s.graphs.length [] = rootsP name s.joins i r.length B) 2 [] rfl ⟨by simp, rfl⟩ rfl rfl rfl ?_ ?_
  · rintro B ⟨_, hinv⟩
    refine fR rfl ?_
    refine Run.condF rfl rfl (by simp) ?_
    refine fR rfl ?_
    refine Run.fin rfl (EndOk.go ?_)
    exact .own (by rw [hinv]; rfl)
  · rintro i x r B hi1 hi hd ⟨hl, hinv⟩ ih
    refine fR rfl ?_
    refine Run.condT rfl rfl (by simp; omega) ?_
    refine fR rfl ?_
    refine Mid.callRd [1, 3] (containsFunc_ok H s.joins h3 name i) rfl rfl rfl rfl (by simp [stoBd]; simp [AObj.bd, V.bds, V.bd]) (by repeat' (first | exact trivial | exact rfl | refine And.intro ?_ ?_ | exact (congrArg some (AObj.ren_mE _ _ _ _ _ _)).symm | exact (congrArg some (AObj.ren_cE _ _ _)).symm)) rfl ?_
    refine fM rfl ?_
    refine Run.cond rfl rfl (fun hc => ?_) (fun hc => ?_)
    · refine fR rfl ?_
      refine apM Spot.enc B [(⟨(i : Int), 1, []⟩ : Spot)] rfl rfl rfl rfl rfl ?_
      refine fM rfl ?_
      refine aL rfl rfl rfl rfl rfl ?_
      refine fM rfl ?_
      exact rWeak 3 rfl (ih (B ++ [⟨(i : Int), 1, []⟩]) ⟨by simp; omega, by rw [hinv]; simp only [List.length_cons, rootsP]; rw [if_pos hc]⟩) rfl rfl rfl
    · refine fR rfl ?_
      refine aL rfl rfl rfl rfl rfl ?_
      refine fM rfl ?_
      exact rWeak 3 rfl (ih B ⟨by omega, by rw [hinv]; simp only [List.length_cons, rootsP]; rw [if_neg (by rw [hc]; simp)]⟩) rfl rfl rfl
end Go.GB.C26


/-
  D11A: contracts of chapter 11's functions: finding definitions and fields, lists of names.
-/
namespace Go.GB.C11
open Go.GB
set_option linter.unusedSimpArgs false
set_option linter.unusedVariables false
set_option maxRecDepth 100000
set_option maxHeartbeats 2000000
structure Pr (P : Program) : Prop where
  mixed : P.follows .mixedOrders = true
  i20 : fnInfo P 20 = some (n20, c20.bare, r20)
  i40 : fnInfo P 40 = some (n40, c40.bare, r40)
  i30 : fnInfo P 30 = some (n30, c30.bare, r30)
  i31 : fnInfo P 31 = some (n31, c31.bare, r31)
  i43 : fnInfo P 43 = some (n43, c43.bare, r43)
  i19 : fnInfo P 19 = some (n19, c19.bare, r19)
variable {P : Program}

def findDef (n : Str) : List Def → Option Def
  | [] => none
  | d :: r => if (d.name == n) = true then some d else findDef n r
theorem findDef_mem {n : Str} : ∀ {l : List Def} {d : Def}, findDef n l = some d → d ∈ l
  | [], d, h => by simp [findDef] at h
  | x :: r, d, h => by
    simp only [findDef] at h
    split at h
    · cases h; exact List.mem_cons_self ..
    · exact List.mem_cons_of_mem _ (findDef_mem h)
theorem find_ok (H : Pr P) (ds : List Def) (hl : ds.length ≤ 140737488355328) (n : Str) : FnOk P 30 [docV ds, .t (.str n)] ⟨[], 0⟩ { v := .tup [((findDef n ds).getD Def.zero).v, .t (.bool (findDef n ds).isSome)] } := by
  refine FnOk.run H.i30 H.mixed rfl rfl ?_
  refine fR rfl ?_
  refine lM rfl rfl rfl ?_
  refine fM rfl ?_
  refine rList ds (fun i (_ : Unit) => { env := [(1, .t (.str n)), (4, .ptr 1 0), (9, .t (.lst (ds.map Def.enc))), (10, .t (.int .i64 ds.length)), (11, .t (.int .i64 i))], s := ⟨[(1, .cells [.t (.int .i64 0), .t (.str []), .nils, .nils, .nils, .nils, .nils])], 2⟩ }) (fun r i _ => findDef n ds = findDef n r) 2 () rfl rfl rfl rfl rfl ?_ ?_
  · intro _ hinv
    refine fR rfl ?_
    refine Run.condF rfl rfl (by simp) ?_
    refine fR rfl ?_
    have e : findDef n ds = none := by rw [hinv]; rfl
    rw [e]
    refine Run.fin rfl (EndOk.go ?_); exact .tup2 (.agg (.cons (.t rfl) (.cons (.t rfl) (.cons (.nil rfl) (.cons (.nil rfl) (.cons (.nil rfl) (.cons (.nil rfl) (.cons (.nil rfl) .nil)))))))) (.t rfl)
  · intro i x r _ h1 hi hd hinv ih
    refine fR rfl ?_
    refine Run.condT rfl rfl (by simp; omega) ?_
    refine fR rfl ?_
    refine Mid.elemMap rfl rfl rfl h1 rfl rfl ?_
    refine fM rfl ?_
    refine Run.cond rfl rfl (fun h => ?_) (fun h => ?_)
    · refine fR rfl ?_
      have e : findDef n ds = some x := by rw [hinv]; simp only [findDef]; rw [if_pos h]
      rw [e]
      refine Run.fin rfl (EndOk.go ?_); exact .tup2 (.le (.same rfl)) (.t rfl)
    · refine fR rfl ?_
      refine aL rfl rfl rfl rfl rfl ?_
      refine fM rfl ?_
      have h' : ¬ (x.name == n) = true := by rw [h]; simp
      exact rWeak 2 rfl (ih () (by rw [hinv]; simp only [findDef]; rw [if_neg h'])) rfl rfl rfl

def indexS (s : Str) : List Str → Int → Int
  | [], _ => -1
  | x :: r, i => if (s == x) = true then i else indexS s r (i + 1)
theorem index_ok (H : Pr P) (l : List Str) (hl : l.length ≤ 140737488355328) (s : Str) : FnOk P 43 [.t (.lst (l.map sE)), .t (.str s)] ⟨[], 0⟩ { v := .t (.int .i64 (indexS s l 0)) } := by
  refine FnOk.run H.i43 H.mixed rfl rfl ?_
  refine fR rfl ?_
  refine lM rfl rfl rfl ?_
  refine fM rfl ?_
  refine rList l (fun i (_ : Unit) => { env := [(0, .t (.lst (l.map sE))), (1, .t (.str s)), (7, .t (.int .i64 l.length)), (8, .t (.int .i64 i))], s := ⟨[], 0⟩ }) (fun r i _ => indexS s l 0 = indexS s r i) 0 () rfl rfl rfl rfl rfl ?_ ?_
  · intro _ hinv
    refine fR rfl ?_
    refine Run.condF rfl rfl (by simp) ?_
    refine fR rfl ?_
    refine Run.fin rfl (EndOk.go ?_); exact .t (by rw [hinv]; simp [indexS])
  · intro i x r _ h1 hi hd hinv ih
    refine fR rfl ?_
    refine Run.condT rfl rfl (by simp; omega) ?_
    refine fR rfl ?_
    refine Mid.elemMap rfl rfl rfl h1 rfl rfl ?_
    refine fM rfl ?_
    refine Run.cond rfl rfl (fun h => ?_) (fun h => ?_)
    · refine fR rfl ?_
      refine Run.fin rfl (EndOk.go ?_); exact .t (by rw [hinv]; simp only [indexS]; rw [if_pos h])
    · refine fR rfl ?_
      refine aL rfl rfl rfl rfl rfl ?_
      refine fM rfl ?_
      have h' : ¬ (s == x) = true := by rw [h]; simp
      exact rWeak 0 rfl (ih () (by rw [hinv]; simp only [indexS]; rw [if_neg h']; rfl)) rfl rfl rfl

theorem index_mem (s : Str) : ∀ (l : List Str) (i : Int), 0 ≤ i → (decide (indexS s l i ≥ 0)) = decide (s ∈ l)
  | [], i, _ => by simp [indexS]
  | x :: r, i, hi => by
    by_cases h : s = x
    · subst h; simp [indexS, hi]
    · have h' : ¬ (s == x) = true := by simpa using h
      have e : indexS s (x :: r) i = indexS s r (i + 1) := by simp only [indexS]; rw [if_neg h']
      rw [e, index_mem s r (i + 1) (by omega)]; simp [h]

theorem contains_ok (H : Pr P) (l : List Str) (hl : l.length ≤ 140737488355328) (s : Str) : FnOk P 40 [.t (.lst (l.map sE)), .t (.str s)] ⟨[], 0⟩ { v := .t (.bool (decide (s ∈ l))) } := by
  refine FnOk.run H.i40 H.mixed rfl rfl ?_
  refine fR rfl ?_
  refine Mid.call (index_ok H l hl s) rfl rfl rfl rfl ?_
  refine fM rfl ?_
  refine Run.fin rfl (EndOk.go ?_); exact .t (by rw [← index_mem s l 0 (by omega)])

end Go.GB.C11


/-
  D11B: contracts of chapter 11's functions: Possible.
-/
namespace Go.GB.C11
open Go.GB
set_option linter.unusedSimpArgs false
set_option linter.unusedVariables false
set_option maxRecDepth 100000
set_option maxHeartbeats 2000000
variable {P : Program}

theorem bne_b (a b : Int) : (a != b) = !(a == b) := rfl
def memF (l : List Member) (n : Str) : Bool := l.any fun m => m.name == n
theorem implements_ok (H : Pr P) (t : Def) (ht : t.Ok) (n : Str) : FnOk P 31 [t.v, .t (.str n)] ⟨[], 0⟩ { v := .t (.bool (decide (n ∈ t.implements))) } := by
  refine FnOk.run H.i31 H.mixed rfl rfl ?_
  refine fR rfl ?_
  refine Mid.call (contains_ok H t.implements ht.il n) rfl rfl rfl rfl ?_
  refine fM rfl ?_
  refine Run.fin rfl (EndOk.go ?_); exact .t rfl

/-- no definition ahead has that name -/
def firstF (pre : List Def) (n : Str) : Bool := !(pre.any fun x => x.name == n)
/-- a possible type of a type -/
def isP (t : Def) (nm : Str) (o : Def) : Bool := (t.kind == 1 && o.name == nm) || (t.kind == 2 && decide (nm ∈ o.implements)) || (t.kind == 3 && memF t.members o.name)
/-- the possible types, by the reference -/
def posL (t : Def) (nm : Str) : List Def → List Def → List Str
  | _, [] => []
  | pre, o :: r => if (o.kind == 1 && firstF pre o.name && isP t nm o) = true then o.name :: posL t nm (pre ++ [o]) r else posL t nm (pre ++ [o]) r
def posF (ds : List Def) (nm : Str) : List Str :=
  match findDef nm ds with
  | none => []
  | some t => posL t nm [] ds
theorem docFind {ds : List Def} (hD : DocOk ds) (n : Str) : ((findDef n ds).getD Def.zero).Ok := by
  cases h : findDef n ds with
  | none => exact Def.zero_ok
  | some t => exact hD.d t (findDef_mem h)
end Go.GB.C11

