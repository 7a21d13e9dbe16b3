/-
  YtkhekeacdnhkpaaP3: lemmas of this proof (part 3). No conditions.
-/
import Derived.Test.YtkhekeacdnhkpaaP2

/-
  C11Code: the code of some functions as abstract code (printed by program).
-/
namespace Go.GB.C11
open Go.GB
/- 12 supergraph supergraphlaw11.AbstractPossible -/
/- 13 supergraph supergraphlaw11.AbstractSub -/
/- 14 supergraph supergraphlaw11.AbstractOrder -/
/- 15 supergraph supergraphlaw11.AbstractFields -/
/- 29 supergraph supergraphref10.Large -/
def c29_0 : ACode :=
  (.seq (.region false [⟨some 69, none, .mv (.s 3)⟩,
    ⟨some 70, none, .bin .gtr (.s 69) (.c (.t (.int .i64 1000)))⟩,
    ⟨some 2, none, .mv (.s 70)⟩] [] [2]) .ret)
def c29_1 : ACode :=
  (.region false [⟨some 16, none, .mv (.s 4)⟩,
    ⟨some 17, none, .bin .add (.s 16) (.c (.t (.int .i64 1)))⟩,
    ⟨some 4, none, .mv (.s 17)⟩] [] [1, 3, 4])
def c29_2 : ACode :=
  (.region false [⟨some 50, none, .mv (.s 6)⟩,
    ⟨some 51, none, .bin .add (.s 50) (.c (.t (.int .i64 1)))⟩,
    ⟨some 6, none, .mv (.s 51)⟩] [] [1, 3, 4, 5, 6])
def c29_3 : ACode :=
  (.region true [⟨some 52, none, .mv (.s 3)⟩,
    ⟨some 53, none, .fa 4 (.s 5)⟩,
    ⟨some 54, none, .ld false 1 (.s 53)⟩,
    ⟨some 55, none, .mv (.s 6)⟩,
    ⟨some 56, none, .ia 5 (.s 54) (.s 55)⟩,
    ⟨some 57, none, .fa 1 (.s 56)⟩,
    ⟨some 58, none, .ld false 1 (.s 57)⟩,
    ⟨some 59, none, .len (.s 58)⟩,
    ⟨some 60, none, .fa 4 (.s 5)⟩,
    ⟨some 61, none, .ld false 1 (.s 60)⟩,
    ⟨some 62, none, .mv (.s 6)⟩,
    ⟨some 63, none, .ia 5 (.s 61) (.s 62)⟩,
    ⟨some 64, none, .fa 4 (.s 63)⟩,
    ⟨some 65, none, .ld false 1 (.s 64)⟩,
    ⟨some 66, none, .len (.s 65)⟩,
    ⟨some 67, none, .bin .add (.s 59) (.s 66)⟩,
    ⟨some 68, none, .bin .add (.s 52) (.s 67)⟩,
    ⟨some 3, none, .mv (.s 68)⟩] [[], [], [1], [], [2, 3], [4], [5], [6], [], [8], [], [9, 10], [11], [12], [13], [7, 14], [0, 15], [16, 0, 1, 2, 3, 4, 5, 6, 7, 8, 9, 10, 11, 12, 13, 14, 15, 16]] [1, 3, 4, 5, 6])
def c29_4 : ACode :=
  (.seq (.block 3 c29_3) c29_2)
def c29_5 : ACode :=
  (.cond (.s 49) .skip (.exit 2))
def c29_6 : ACode :=
  (.seq (.seq (.region false [⟨some 45, none, .mv (.s 6)⟩,
    ⟨some 46, none, .fa 4 (.s 5)⟩,
    ⟨some 47, none, .ld false 1 (.s 46)⟩,
    ⟨some 48, none, .len (.s 47)⟩,
    ⟨some 49, none, .bin .lss (.s 45) (.s 48)⟩] [] [1, 3, 4, 5, 6, 49]) c29_5) c29_4)
def c29_7 : ACode :=
  (.loop c29_6)
def c29_8 : ACode :=
  (.block 2 c29_7)
def c29_9 : ACode :=
  (.seq (.region false [⟨some 6, none, .cst (.t (.int .i64 0))⟩] [] [1, 3, 4, 5, 6]) c29_8)
def c29_10 : ACode :=
  (.seq (.region false [⟨some 23, none, .mv (.s 3)⟩,
    ⟨some 24, none, .fa 4 (.s 5)⟩,
    ⟨some 25, none, .ld false 1 (.s 24)⟩,
    ⟨some 26, none, .len (.s 25)⟩,
    ⟨some 27, none, .bin .add (.c (.t (.int .i64 1))) (.s 26)⟩,
    ⟨some 28, none, .fa 5 (.s 5)⟩,
    ⟨some 29, none, .ld false 1 (.s 28)⟩,
    ⟨some 30, none, .len (.s 29)⟩,
    ⟨some 31, none, .bin .add (.s 27) (.s 30)⟩,
    ⟨some 32, none, .fa 6 (.s 5)⟩,
    ⟨some 33, none, .ld false 1 (.s 32)⟩,
    ⟨some 34, none, .len (.s 33)⟩,
    ⟨some 35, none, .bin .add (.s 31) (.s 34)⟩,
    ⟨some 36, none, .fa 3 (.s 5)⟩,
    ⟨some 37, none, .ld false 1 (.s 36)⟩,
    ⟨some 38, none, .len (.s 37)⟩,
    ⟨some 39, none, .bin .add (.s 35) (.s 38)⟩,
    ⟨some 40, none, .fa 2 (.s 5)⟩,
    ⟨some 41, none, .ld false 1 (.s 40)⟩,
    ⟨some 42, none, .len (.s 41)⟩,
    ⟨some 43, none, .bin .add (.s 39) (.s 42)⟩,
    ⟨some 44, none, .bin .add (.s 23) (.s 43)⟩,
    ⟨some 3, none, .mv (.s 44)⟩] [] [1, 3, 4, 5]) c29_9)
def c29_11 : ACode :=
  (.seq (.region false [⟨some 18, none, .fa 0 (.s 1)⟩,
    ⟨some 19, none, .ld false 1 (.s 18)⟩,
    ⟨some 20, none, .mv (.s 4)⟩,
    ⟨some 21, none, .ia 7 (.s 19) (.s 20)⟩,
    ⟨some 22, none, .ld true 7 (.s 21)⟩,
    ⟨some 5, none, .alloc [.t (.int .i64 0), .t (.str []), .nils, .nils, .nils, .nils, .nils]⟩,
    ⟨none, none, .st 7 (.s 5) (.s 22)⟩] [] [1, 3, 4, 5]) c29_10)
def c29_12 : ACode :=
  (.seq (.block 1 c29_11) c29_1)
def c29_13 : ACode :=
  (.cond (.s 15) .skip (.exit 0))
def c29_14 : ACode :=
  (.seq (.seq (.region false [⟨some 11, none, .mv (.s 4)⟩,
    ⟨some 12, none, .fa 0 (.s 1)⟩,
    ⟨some 13, none, .ld false 1 (.s 12)⟩,
    ⟨some 14, none, .len (.s 13)⟩,
    ⟨some 15, none, .bin .lss (.s 11) (.s 14)⟩] [] [1, 3, 4, 15]) c29_13) c29_12)
def c29_15 : ACode :=
  (.loop c29_14)
def c29_16 : ACode :=
  (.block 0 c29_15)
def c29_17 : ACode :=
  (.seq (.seq (.region false [⟨some 4, none, .cst (.t (.int .i64 0))⟩] [] [1, 3, 4]) c29_16) c29_0)
def c29_18 : ACode :=
  (.seq (.region false [⟨some 3, none, .cst (.t (.int .i64 0))⟩] [] [1, 3]) c29_17)
def c29_19 : ACode :=
  (.seq (.region false [⟨some 2, none, .cst (.t (.bool true))⟩] [] [2]) .ret)
def c29_20 : ACode :=
  (.cond (.s 10) c29_19 .skip)
def c29_21 : ACode :=
  (.seq (.seq (.region false [⟨some 7, none, .fa 0 (.s 1)⟩,
    ⟨some 8, none, .ld false 1 (.s 7)⟩,
    ⟨some 9, none, .len (.s 8)⟩,
    ⟨some 10, none, .bin .gtr (.s 9) (.c (.t (.int .i64 70)))⟩] [] [1, 10]) c29_20) c29_18)
def c29 : ACode :=
  (.seq (.region false [⟨some 1, none, .box 1 (.s 0)⟩,
    ⟨some 2, none, .cst (.t (.bool false))⟩] [] [1]) c29_21)
def r29 : List ARes := [.tmp 2]
def n29 : Nat := 71
/- 31 supergraph abstract.Is -/
/- 40 supergraph supergraphref10.Faults -/
def c40_0 : ACode :=
  (.seq (.region false [⟨some 4, none, .cst (.t (.bool true))⟩] [] [4]) .ret)
def c40_1 : ACode :=
  (.region false [⟨some 15, none, .mv (.s 5)⟩,
    ⟨some 16, none, .bin .add (.s 15) (.c (.t (.int .i64 1)))⟩,
    ⟨some 5, none, .mv (.s 16)⟩] [] [0, 1, 5])
def c40_2 : ACode :=
  (.seq (.region false [⟨some 4, none, .cst (.t (.bool false))⟩] [] [4]) .ret)
def c40_3 : ACode :=
  (.cond (.s 25) c40_2 .skip)
def c40_4 : ACode :=
  (.seq (.region true [⟨some 17, none, .mv (.s 0)⟩,
    ⟨some 18, none, .mv (.s 5)⟩,
    ⟨some 19, none, .ia 2 (.s 17) (.s 18)⟩,
    ⟨some 20, none, .ld true 2 (.s 19)⟩,
    ⟨some 21, none, .mv (.s 1)⟩,
    ⟨some 22, none, .mv (.s 5)⟩,
    ⟨some 23, none, .ia 2 (.s 21) (.s 22)⟩,
    ⟨some 24, none, .ld true 2 (.s 23)⟩,
    ⟨some 25, none, .nw (.eqst true [.int .i64, .str] (.s 20) (.s 24))⟩] [[], [], [0, 1], [2], [], [], [4, 5], [6], [3, 7]] [0, 1, 5, 25]) c40_3)
def c40_5 : ACode :=
  (.seq (.block 1 c40_4) c40_1)
def c40_6 : ACode :=
  (.cond (.s 14) .skip (.exit 0))
def c40_7 : ACode :=
  (.seq (.seq (.region false [⟨some 11, none, .mv (.s 5)⟩,
    ⟨some 12, none, .mv (.s 0)⟩,
    ⟨some 13, none, .len (.s 12)⟩,
    ⟨some 14, none, .bin .lss (.s 11) (.s 13)⟩] [] [0, 1, 5, 14]) c40_6) c40_5)
def c40_8 : ACode :=
  (.loop c40_7)
def c40_9 : ACode :=
  (.block 0 c40_8)
def c40_10 : ACode :=
  (.seq (.seq (.region false [⟨some 5, none, .cst (.t (.int .i64 0))⟩] [] [0, 1, 5]) c40_9) c40_0)
def c40_11 : ACode :=
  (.seq (.region false [⟨some 4, none, .cst (.t (.bool false))⟩] [] [4]) .ret)
def c40_12 : ACode :=
  (.cond (.s 10) c40_11 .skip)
def c40_13 : ACode :=
  (.seq (.seq (.region false [⟨some 6, none, .mv (.s 0)⟩,
    ⟨some 7, none, .len (.s 6)⟩,
    ⟨some 8, none, .mv (.s 1)⟩,
    ⟨some 9, none, .len (.s 8)⟩,
    ⟨some 10, none, .bin .neq (.s 7) (.s 9)⟩] [] [0, 1, 10]) c40_12) c40_10)
def c40 : ACode :=
  (.seq (.region false [⟨some 4, none, .cst (.t (.bool false))⟩] [] [0, 1]) c40_13)
def r40 : List ARes := [.tmp 4]
def n40 : Nat := 26
/- 44 supergraph supergraphlaw11.knows -/
/- 45 supergraph supergraphref11.Strings -/
/- 46 supergraph abstract.Possible -/
def c46_0 : ACode :=
  (.seq (.region false [⟨some 112, none, .mv (.s 15)⟩,
    ⟨some 4, none, .mv (.s 112)⟩] [] [4]) .ret)
def c46_1 : ACode :=
  (.region false [⟨some 111, none, .bin .add (.s 95) (.c (.t (.int .i64 1)))⟩,
    ⟨some 95, none, .mv (.s 111)⟩] [] [7, 15, 93, 94, 95])
def c46_2 : ACode :=
  (.region false [⟨some 108, none, .mv (.s 7)⟩,
    ⟨some 109, none, .fa 1 (.s 17)⟩,
    ⟨some 110, none, .ld false 1 (.s 109)⟩,
    ⟨none, none, .nw (.mdel [.str] false (.s 108) (.s 110))⟩] [] [7, 15, 93, 94, 95])
def c46_3 : ACode :=
  (.seq (.region false [⟨some 103, none, .mv (.s 15)⟩,
    ⟨some 104, none, .fa 1 (.s 17)⟩,
    ⟨some 105, none, .ld false 1 (.s 104)⟩,
    ⟨some 106, none, .bsl false 1 [[.str []]] [(0, (.s 105))]⟩,
    ⟨some 107, none, .app 1 16 (.s 103) (.s 106)⟩,
    ⟨some 15, none, .mv (.s 107)⟩] [] [7, 15, 17, 93, 94, 95]) c46_2)
def c46_4 : ACode :=
  (.cond (.s 102) c46_3 .skip)
def c46_5 : ACode :=
  (.seq (.region false [⟨some 99, none, .mv (.s 7)⟩,
    ⟨some 100, none, .fa 1 (.s 17)⟩,
    ⟨some 101, none, .ld false 1 (.s 100)⟩,
    ⟨some 102, none, .nw (.lookup [.str] false (.t (.bool false)) false (.s 99) (.s 101))⟩] [] [7, 15, 17, 93, 94, 95, 102]) c46_4)
def c46_6 : ACode :=
  (.seq (.region false [⟨some 97, none, .ia 7 (.s 93) (.s 95)⟩,
    ⟨some 98, none, .ld true 7 (.s 97)⟩,
    ⟨some 17, none, .alloc [.t (.int .i64 0), .t (.str []), .nils, .nils, .nils, .nils, .nils]⟩,
    ⟨none, none, .st 7 (.s 17) (.s 98)⟩] [] [7, 15, 17, 93, 94, 95]) c46_5)
def c46_7 : ACode :=
  (.seq (.block 8 c46_6) c46_1)
def c46_8 : ACode :=
  (.seq (.cond (.s 96) .skip (.exit 7)) c46_7)
def c46_9 : ACode :=
  (.seq (.region false [⟨some 96, none, .bin .lss (.s 95) (.s 94)⟩] [] [7, 15, 93, 94, 95, 96]) c46_8)
def c46_10 : ACode :=
  (.loop c46_9)
def c46_11 : ACode :=
  (.block 7 c46_10)
def c46_12 : ACode :=
  (.seq (.seq (.region false [⟨some 92, none, .fa 0 (.s 2)⟩,
    ⟨some 93, none, .ld false 1 (.s 92)⟩,
    ⟨some 94, none, .len (.s 93)⟩,
    ⟨some 95, none, .cst (.t (.int .i64 0))⟩] [] [7, 15, 93, 94, 95]) c46_11) c46_0)
def c46_13 : ACode :=
  (.seq (.region false [⟨some 15, none, .cst (.nils)⟩] [] [2, 7, 15]) c46_12)
def c46_14 : ACode :=
  (.region false [⟨some 90, none, .mv (.s 7)⟩,
    ⟨some 91, none, .mv (.s 12)⟩,
    ⟨none, none, .nw (.mdel [.str] false (.s 90) (.s 91))⟩] [] [1, 2, 5, 7, 61])
def c46_15 : ACode :=
  (.cond (.s 89) c46_14 .skip)
def c46_16 : ACode :=
  (.seq (.region false [⟨some 72, none, .mv (.s 14)⟩,
    ⟨some 73, none, .un .not (.s 72)⟩,
    ⟨some 74, none, .mv (.s 73)⟩,
    ⟨some 75, some (74, false), .fa 0 (.s 13)⟩,
    ⟨some 76, some (74, false), .ld false 1 (.s 75)⟩,
    ⟨some 77, some (74, false), .bin .neq (.s 76) (.c (.t (.int .i64 1)))⟩,
    ⟨some 78, none, .pick (.s 74) (.c (.t (.bool true))) (.s 77)⟩,
    ⟨some 79, none, .mv (.s 78)⟩,
    ⟨some 80, some (79, false), .fa 0 (.s 5)⟩,
    ⟨some 81, some (79, false), .ld false 1 (.s 80)⟩,
    ⟨some 82, some (79, false), .bin .eql (.s 81) (.c (.t (.int .i64 2)))⟩,
    ⟨some 83, some (79, false), .mv (.s 82)⟩,
    ⟨some 84, some (83, true), .ld true 7 (.s 13)⟩,
    ⟨some 85, some (83, true), .mv (.s 1)⟩,
    ⟨some 86, some (83, true), .call 88 [(.s 84), (.s 85)]⟩,
    ⟨some 87, some (83, true), .un .not (.s 86)⟩,
    ⟨some 88, some (79, false), .pick (.s 83) (.s 87) (.c (.t (.bool false)))⟩,
    ⟨some 89, none, .pick (.s 79) (.c (.t (.bool true))) (.s 88)⟩] [] [1, 2, 5, 7, 12, 61, 89]) c46_15)
def c46_17 : ACode :=
  (.seq (.region false [⟨some 67, none, .ld true 1 (.s 2)⟩,
    ⟨some 68, none, .mv (.s 12)⟩,
    ⟨some 69, none, .call 87 [(.s 67), (.s 68)]⟩,
    ⟨some 66, none, .mv (.s 69)⟩,
    ⟨some 70, none, .ext (.s 66) 0⟩,
    ⟨some 71, none, .ext (.s 66) 1⟩,
    ⟨some 13, none, .alloc [.t (.int .i64 0), .t (.str []), .nils, .nils, .nils, .nils, .nils]⟩,
    ⟨none, none, .st 7 (.s 13) (.s 70)⟩,
    ⟨some 14, none, .mv (.s 71)⟩] [] [1, 2, 5, 7, 12, 13, 14, 61]) c46_16)
def c46_18 : ACode :=
  (.seq (.region false [⟨some 64, none, .nw (.ient (.s 61))⟩,
    ⟨some 65, none, .ext (.s 64) 0⟩,
    ⟨some 12, none, .mv (.s 65)⟩] [] [1, 2, 5, 7, 12, 61]) c46_17)
def c46_19 : ACode :=
  (.block 6 c46_18)
def c46_20 : ACode :=
  (.seq (.cond (.s 63) .skip (.exit 5)) c46_19)
def c46_21 : ACode :=
  (.seq (.region false [⟨some 62, none, .nw (.nxt (.s 61))⟩,
    ⟨some 63, none, .ext (.s 62) 0⟩] [] [1, 2, 5, 7, 61, 63]) c46_20)
def c46_22 : ACode :=
  (.loop c46_21)
def c46_23 : ACode :=
  (.block 5 c46_22)
def c46_24 : ACode :=
  (.seq (.seq (.region false [⟨some 60, none, .mv (.s 7)⟩,
    ⟨some 61, none, .mrange (.s 60)⟩] [] [1, 2, 5, 7, 61]) c46_23) c46_13)
def c46_25 : ACode :=
  (.region false [⟨some 29, none, .mv (.s 7)⟩,
    ⟨some 30, none, .mv (.s 1)⟩,
    ⟨none, none, .nw (.mupd [.str] false (.s 29) (.s 30) (.c (.t (.bool true))))⟩] [] [1, 2, 5, 7])
def c46_26 : ACode :=
  (.region false [⟨some 46, none, .bin .add (.s 36) (.c (.t (.int .i64 1)))⟩,
    ⟨some 36, none, .mv (.s 46)⟩] [] [1, 2, 5, 7, 34, 35, 36])
def c46_27 : ACode :=
  (.region false [⟨some 43, none, .mv (.s 7)⟩,
    ⟨some 44, none, .fa 1 (.s 9)⟩,
    ⟨some 45, none, .ld false 1 (.s 44)⟩,
    ⟨none, none, .nw (.mupd [.str] false (.s 43) (.s 45) (.c (.t (.bool true))))⟩] [] [1, 2, 5, 7, 34, 35, 36])
def c46_28 : ACode :=
  (.cond (.s 42) c46_27 .skip)
def c46_29 : ACode :=
  (.seq (.region false [⟨some 40, none, .ld true 7 (.s 9)⟩,
    ⟨some 41, none, .mv (.s 1)⟩,
    ⟨some 42, none, .call 88 [(.s 40), (.s 41)]⟩] [] [1, 2, 5, 7, 9, 34, 35, 36, 42]) c46_28)
def c46_30 : ACode :=
  (.seq (.region false [⟨some 38, none, .ia 7 (.s 34) (.s 36)⟩,
    ⟨some 39, none, .ld true 7 (.s 38)⟩,
    ⟨some 9, none, .alloc [.t (.int .i64 0), .t (.str []), .nils, .nils, .nils, .nils, .nils]⟩,
    ⟨none, none, .st 7 (.s 9) (.s 39)⟩] [] [1, 2, 5, 7, 9, 34, 35, 36]) c46_29)
def c46_31 : ACode :=
  (.seq (.block 2 c46_30) c46_26)
def c46_32 : ACode :=
  (.seq (.cond (.s 37) .skip (.exit 1)) c46_31)
def c46_33 : ACode :=
  (.seq (.region false [⟨some 37, none, .bin .lss (.s 36) (.s 35)⟩] [] [1, 2, 5, 7, 34, 35, 36, 37]) c46_32)
def c46_34 : ACode :=
  (.loop c46_33)
def c46_35 : ACode :=
  (.block 1 c46_34)
def c46_36 : ACode :=
  (.seq (.region false [⟨some 33, none, .fa 0 (.s 2)⟩,
    ⟨some 34, none, .ld false 1 (.s 33)⟩,
    ⟨some 35, none, .len (.s 34)⟩,
    ⟨some 36, none, .cst (.t (.int .i64 0))⟩] [] [1, 2, 5, 7, 34, 35, 36]) c46_35)
def c46_37 : ACode :=
  (.region false [⟨some 59, none, .bin .add (.s 52) (.c (.t (.int .i64 1)))⟩,
    ⟨some 52, none, .mv (.s 59)⟩] [] [1, 2, 5, 7, 50, 51, 52])
def c46_38 : ACode :=
  (.region false [⟨some 56, none, .mv (.s 7)⟩,
    ⟨some 57, none, .fa 0 (.s 11)⟩,
    ⟨some 58, none, .ld false 1 (.s 57)⟩,
    ⟨none, none, .nw (.mupd [.str] false (.s 56) (.s 58) (.c (.t (.bool true))))⟩] [] [1, 2, 5, 7, 50, 51, 52])
def c46_39 : ACode :=
  (.seq (.region false [⟨some 54, none, .ia 2 (.s 50) (.s 52)⟩,
    ⟨some 55, none, .ld true 2 (.s 54)⟩,
    ⟨some 11, none, .alloc [.t (.str []), .nils]⟩,
    ⟨none, none, .st 2 (.s 11) (.s 55)⟩] [] [1, 2, 5, 7, 11, 50, 51, 52]) c46_38)
def c46_40 : ACode :=
  (.seq (.block 4 c46_39) c46_37)
def c46_41 : ACode :=
  (.seq (.cond (.s 53) .skip (.exit 3)) c46_40)
def c46_42 : ACode :=
  (.seq (.region false [⟨some 53, none, .bin .lss (.s 52) (.s 51)⟩] [] [1, 2, 5, 7, 50, 51, 52, 53]) c46_41)
def c46_43 : ACode :=
  (.loop c46_42)
def c46_44 : ACode :=
  (.block 3 c46_43)
def c46_45 : ACode :=
  (.seq (.region false [⟨some 49, none, .fa 5 (.s 5)⟩,
    ⟨some 50, none, .ld false 1 (.s 49)⟩,
    ⟨some 51, none, .len (.s 50)⟩,
    ⟨some 52, none, .cst (.t (.int .i64 0))⟩] [] [1, 2, 5, 7, 50, 51, 52]) c46_44)
def c46_46 : ACode :=
  (.cond (.s 47) c46_45 .skip)
def c46_47 : ACode :=
  (.seq (.region false [⟨some 48, none, .bin .eql (.s 26) (.c (.t (.int .i64 3)))⟩,
    ⟨some 47, none, .mv (.s 48)⟩] [] [1, 2, 5, 7, 47]) c46_46)
def c46_48 : ACode :=
  (.cond (.s 31) c46_36 c46_47)
def c46_49 : ACode :=
  (.seq (.region false [⟨some 32, none, .bin .eql (.s 26) (.c (.t (.int .i64 2)))⟩,
    ⟨some 31, none, .mv (.s 32)⟩] [] [1, 2, 5, 7, 26, 31]) c46_48)
def c46_50 : ACode :=
  (.cond (.s 27) c46_25 c46_49)
def c46_51 : ACode :=
  (.seq (.region false [⟨some 28, none, .bin .eql (.s 26) (.c (.t (.int .i64 1)))⟩,
    ⟨some 27, none, .mv (.s 28)⟩] [] [1, 2, 5, 7, 26, 27]) c46_50)
def c46_52 : ACode :=
  (.block 0 c46_51)
def c46_53 : ACode :=
  (.seq (.seq (.region false [⟨some 25, none, .fa 0 (.s 5)⟩,
    ⟨some 26, none, .ld false 1 (.s 25)⟩] [] [1, 2, 5, 7, 26]) c46_52) c46_24)
def c46_54 : ACode :=
  (.seq (.region false [⟨some 24, none, .mkmap false false⟩,
    ⟨some 7, none, .mv (.s 24)⟩] [] [1, 2, 5, 7]) c46_53)
def c46_55 : ACode :=
  (.seq (.region false [⟨some 19, none, .ld true 1 (.s 2)⟩,
    ⟨some 20, none, .mv (.s 1)⟩,
    ⟨some 21, none, .call 87 [(.s 19), (.s 20)]⟩,
    ⟨some 18, none, .mv (.s 21)⟩,
    ⟨some 22, none, .ext (.s 18) 0⟩,
    ⟨some 23, none, .ext (.s 18) 1⟩,
    ⟨some 5, none, .alloc [.t (.int .i64 0), .t (.str []), .nils, .nils, .nils, .nils, .nils]⟩,
    ⟨none, none, .st 7 (.s 5) (.s 22)⟩,
    ⟨some 6, none, .mv (.s 23)⟩] [] [1, 2, 5]) c46_54)
def c46 : ACode :=
  (.seq (.region false [⟨some 2, none, .box 1 (.s 0)⟩,
    ⟨some 4, none, .cst (.nils)⟩] [] [1, 2]) c46_55)
def r46 : List ARes := [.tmp 4]
def n46 : Nat := 113
/- 47 supergraph supergraphref11.Possible -/
def c47_0 : ACode :=
  (.seq (.region false [⟨some 80, none, .mv (.s 5)⟩,
    ⟨some 4, none, .mv (.s 80)⟩] [] [4]) .ret)
def c47_1 : ACode :=
  (.region false [⟨some 25, none, .mv (.s 8)⟩,
    ⟨some 26, none, .bin .add (.s 25) (.c (.t (.int .i64 1)))⟩,
    ⟨some 8, none, .mv (.s 26)⟩] [] [1, 2, 5, 6, 7, 8])
def c47_2 : ACode :=
  (.region false [⟨some 75, none, .mv (.s 5)⟩,
    ⟨some 76, none, .fa 1 (.s 9)⟩,
    ⟨some 77, none, .ld false 1 (.s 76)⟩,
    ⟨some 78, none, .bsl false 1 [[.str []]] [(0, (.s 77))]⟩,
    ⟨some 79, none, .app 1 16 (.s 75) (.s 78)⟩,
    ⟨some 5, none, .mv (.s 79)⟩] [] [1, 2, 5, 6, 7, 8])
def c47_3 : ACode :=
  (.cond (.s 74) c47_2 .skip)
def c47_4 : ACode :=
  (.seq (.region false [⟨some 74, none, .mv (.s 10)⟩] [] [1, 2, 5, 6, 7, 8, 9, 74]) c47_3)
def c47_5 : ACode :=
  (.seq (.region false [⟨some 62, none, .mv (.s 10)⟩,
    ⟨some 63, none, .mv (.s 62)⟩,
    ⟨some 64, some (63, false), .fa 0 (.s 6)⟩,
    ⟨some 65, some (63, false), .ld false 1 (.s 64)⟩,
    ⟨some 66, some (63, false), .bin .eql (.s 65) (.c (.t (.int .i64 3)))⟩,
    ⟨some 67, some (63, false), .mv (.s 66)⟩,
    ⟨some 68, some (67, true), .ld true 7 (.s 6)⟩,
    ⟨some 69, some (67, true), .fa 1 (.s 9)⟩,
    ⟨some 70, some (67, true), .ld false 1 (.s 69)⟩,
    ⟨some 71, some (67, true), .call 91 [(.s 68), (.s 70)]⟩,
    ⟨some 72, some (63, false), .pick (.s 67) (.s 71) (.c (.t (.bool false)))⟩,
    ⟨some 73, none, .pick (.s 63) (.c (.t (.bool true))) (.s 72)⟩,
    ⟨some 10, none, .mv (.s 73)⟩] [] [1, 2, 5, 6, 7, 8, 9, 10]) c47_4)
def c47_6 : ACode :=
  (.seq (.region false [⟨some 50, none, .mv (.s 10)⟩,
    ⟨some 51, none, .mv (.s 50)⟩,
    ⟨some 52, some (51, false), .fa 0 (.s 6)⟩,
    ⟨some 53, some (51, false), .ld false 1 (.s 52)⟩,
    ⟨some 54, some (51, false), .bin .eql (.s 53) (.c (.t (.int .i64 2)))⟩,
    ⟨some 55, some (51, false), .mv (.s 54)⟩,
    ⟨some 56, some (55, true), .fa 2 (.s 9)⟩,
    ⟨some 57, some (55, true), .ld false 1 (.s 56)⟩,
    ⟨some 58, some (55, true), .mv (.s 1)⟩,
    ⟨some 59, some (55, true), .call 90 [(.s 57), (.s 58)]⟩,
    ⟨some 60, some (51, false), .pick (.s 55) (.s 59) (.c (.t (.bool false)))⟩,
    ⟨some 61, none, .pick (.s 51) (.c (.t (.bool true))) (.s 60)⟩,
    ⟨some 10, none, .mv (.s 61)⟩] [] [1, 2, 5, 6, 7, 8, 9, 10]) c47_5)
def c47_7 : ACode :=
  (.seq (.region false [⟨some 41, none, .fa 0 (.s 6)⟩,
    ⟨some 42, none, .ld false 1 (.s 41)⟩,
    ⟨some 43, none, .bin .eql (.s 42) (.c (.t (.int .i64 1)))⟩,
    ⟨some 44, none, .mv (.s 43)⟩,
    ⟨some 45, some (44, true), .fa 1 (.s 9)⟩,
    ⟨some 46, some (44, true), .ld false 1 (.s 45)⟩,
    ⟨some 47, some (44, true), .mv (.s 1)⟩,
    ⟨some 48, some (44, true), .bin .eql (.s 46) (.s 47)⟩,
    ⟨some 49, none, .pick (.s 44) (.s 48) (.c (.t (.bool false)))⟩,
    ⟨some 10, none, .mv (.s 49)⟩] [] [1, 2, 5, 6, 7, 8, 9, 10]) c47_6)
def c47_8 : ACode :=
  (.cond (.s 40) (.exit 1) .skip)
def c47_9 : ACode :=
  (.seq (.seq (.region false [⟨some 32, none, .fa 0 (.s 9)⟩,
    ⟨some 33, none, .ld false 1 (.s 32)⟩,
    ⟨some 34, none, .bin .neq (.s 33) (.c (.t (.int .i64 1)))⟩,
    ⟨some 35, none, .mv (.s 34)⟩,
    ⟨some 36, some (35, false), .ld true 1 (.s 2)⟩,
    ⟨some 37, some (35, false), .mv (.s 8)⟩,
    ⟨some 38, some (35, false), .call 89 [(.s 36), (.s 37)]⟩,
    ⟨some 39, some (35, false), .un .not (.s 38)⟩,
    ⟨some 40, none, .pick (.s 35) (.c (.t (.bool true))) (.s 39)⟩] [] [1, 2, 5, 6, 7, 8, 9, 40]) c47_8) c47_7)
def c47_10 : ACode :=
  (.seq (.region false [⟨some 27, none, .fa 0 (.s 2)⟩,
    ⟨some 28, none, .ld false 1 (.s 27)⟩,
    ⟨some 29, none, .mv (.s 8)⟩,
    ⟨some 30, none, .ia 7 (.s 28) (.s 29)⟩,
    ⟨some 31, none, .ld true 7 (.s 30)⟩,
    ⟨some 9, none, .alloc [.t (.int .i64 0), .t (.str []), .nils, .nils, .nils, .nils, .nils]⟩,
    ⟨none, none, .st 7 (.s 9) (.s 31)⟩] [] [1, 2, 5, 6, 7, 8, 9]) c47_9)
def c47_11 : ACode :=
  (.seq (.block 1 c47_10) c47_1)
def c47_12 : ACode :=
  (.cond (.s 24) .skip (.exit 0))
def c47_13 : ACode :=
  (.seq (.seq (.region false [⟨some 17, none, .mv (.s 8)⟩,
    ⟨some 18, none, .fa 0 (.s 2)⟩,
    ⟨some 19, none, .ld false 1 (.s 18)⟩,
    ⟨some 20, none, .len (.s 19)⟩,
    ⟨some 21, none, .bin .lss (.s 17) (.s 20)⟩,
    ⟨some 22, none, .mv (.s 21)⟩,
    ⟨some 23, some (22, true), .mv (.s 7)⟩,
    ⟨some 24, none, .pick (.s 22) (.s 23) (.c (.t (.bool false)))⟩] [] [1, 2, 5, 6, 7, 8, 24]) c47_12) c47_11)
def c47_14 : ACode :=
  (.loop c47_13)
def c47_15 : ACode :=
  (.block 0 c47_14)
def c47_16 : ACode :=
  (.seq (.seq (.region false [⟨some 8, none, .cst (.t (.int .i64 0))⟩] [] [1, 2, 5, 6, 7, 8]) c47_15) c47_0)
def c47_17 : ACode :=
  (.seq (.region false [⟨some 12, none, .ld true 1 (.s 2)⟩,
    ⟨some 13, none, .mv (.s 1)⟩,
    ⟨some 14, none, .call 57 [(.s 12), (.s 13)]⟩,
    ⟨some 11, none, .mv (.s 14)⟩,
    ⟨some 15, none, .ext (.s 11) 0⟩,
    ⟨some 16, none, .ext (.s 11) 1⟩,
    ⟨some 6, none, .alloc [.t (.int .i64 0), .t (.str []), .nils, .nils, .nils, .nils, .nils]⟩,
    ⟨none, none, .st 7 (.s 6) (.s 15)⟩,
    ⟨some 7, none, .mv (.s 16)⟩] [] [1, 2, 5, 6, 7]) c47_16)
def c47_18 : ACode :=
  (.seq (.region false [⟨some 5, none, .cst (.nils)⟩] [] [1, 2, 5]) c47_17)
def c47 : ACode :=
  (.seq (.region false [⟨some 2, none, .box 1 (.s 0)⟩,
    ⟨some 4, none, .cst (.nils)⟩] [] [1, 2]) c47_18)
def r47 : List ARes := [.tmp 4]
def n47 : Nat := 81
/- 48 supergraph supergraphref11.Is -/
def c48_0 : ACode :=
  (.seq (.region false [⟨some 7, none, .ld true 1 (.s 3)⟩,
    ⟨some 8, none, .mv (.s 2)⟩,
    ⟨some 9, none, .call 47 [(.s 7), (.s 8)]⟩,
    ⟨some 10, none, .mv (.s 1)⟩,
    ⟨some 11, none, .call 90 [(.s 9), (.s 10)]⟩,
    ⟨some 6, none, .mv (.s 11)⟩] [] [6]) .ret)
def c48 : ACode :=
  (.seq (.region false [⟨some 3, none, .box 1 (.s 0)⟩,
    ⟨some 6, none, .cst (.t (.bool false))⟩] [] [1, 2, 3]) c48_0)
def r48 : List ARes := [.tmp 6]
def n48 : Nat := 12
/- 49 supergraph abstract.Overlap -/
def c49_0 : ACode :=
  (.seq (.region false [⟨some 11, none, .ld true 1 (.s 3)⟩,
    ⟨some 12, none, .mv (.s 1)⟩,
    ⟨some 13, none, .call 46 [(.s 11), (.s 12)]⟩,
    ⟨some 14, none, .mkfn 93 [(.s 7)]⟩,
    ⟨some 15, none, .call 92 [(.s 13), (.s 14)]⟩,
    ⟨some 6, none, .mv (.s 15)⟩] [] [6]) .ret)
def c49_1 : ACode :=
  (.seq (.region false [⟨some 8, none, .ld true 1 (.s 3)⟩,
    ⟨some 9, none, .mv (.s 2)⟩,
    ⟨some 10, none, .call 46 [(.s 8), (.s 9)]⟩,
    ⟨some 7, none, .alloc [.nils]⟩,
    ⟨none, none, .st 1 (.s 7) (.s 10)⟩] [] [1, 3, 7]) c49_0)
def c49 : ACode :=
  (.seq (.region false [⟨some 3, none, .box 1 (.s 0)⟩,
    ⟨some 6, none, .cst (.t (.bool false))⟩] [] [1, 2, 3]) c49_1)
def r49 : List ARes := [.tmp 6]
def n49 : Nat := 16
/- 50 supergraph supergraphref11.Overlap -/
/- 51 supergraph supergraphref05.Right -/
def c51_0 : ACode :=
  (.seq (.region false [⟨some 2, none, .cst (.t (.bool true))⟩] [] [2]) .ret)
def c51_1 : ACode :=
  (.region false [⟨some 19, none, .mv (.s 3)⟩,
    ⟨some 20, none, .bin .add (.s 19) (.c (.t (.int .i64 1)))⟩,
    ⟨some 3, none, .mv (.s 20)⟩] [] [1, 3])
def c51_2 : ACode :=
  (.seq (.region false [⟨some 2, none, .cst (.t (.bool false))⟩] [] [2]) .ret)
def c51_3 : ACode :=
  (.cond (.s 53) c51_2 .skip)
def c51_4 : ACode :=
  (.seq (.region false [⟨some 35, none, .mv (.s 3)⟩,
    ⟨some 36, none, .bin .gtr (.s 35) (.c (.t (.int .i64 0)))⟩,
    ⟨some 37, none, .mv (.s 36)⟩,
    ⟨some 38, some (37, true), .fa 1 (.s 1)⟩,
    ⟨some 39, some (37, true), .ld false 1 (.s 38)⟩,
    ⟨some 40, some (37, true), .mv (.s 3)⟩,
    ⟨some 41, some (37, true), .ia 1 (.s 39) (.s 40)⟩,
    ⟨some 42, some (37, true), .ld false 1 (.s 41)⟩,
    ⟨some 43, some (37, true), .bin .eql (.s 42) (.c (.t (.int .i64 1)))⟩,
    ⟨some 44, none, .pick (.s 37) (.s 43) (.c (.t (.bool false)))⟩,
    ⟨some 45, none, .mv (.s 44)⟩,
    ⟨some 46, some (45, true), .fa 1 (.s 1)⟩,
    ⟨some 47, some (45, true), .ld false 1 (.s 46)⟩,
    ⟨some 48, some (45, true), .mv (.s 3)⟩,
    ⟨some 49, some (45, true), .bin .sub (.s 48) (.c (.t (.int .i64 1)))⟩,
    ⟨some 50, some (45, true), .ia 1 (.s 47) (.s 49)⟩,
    ⟨some 51, some (45, true), .ld false 1 (.s 50)⟩,
    ⟨some 52, some (45, true), .bin .eql (.s 51) (.c (.t (.int .i64 1)))⟩,
    ⟨some 53, none, .pick (.s 45) (.s 52) (.c (.t (.bool false)))⟩] [] [1, 3, 53]) c51_3)
def c51_5 : ACode :=
  (.seq (.region false [⟨some 2, none, .cst (.t (.bool false))⟩] [] [2]) .ret)
def c51_6 : ACode :=
  (.cond (.s 34) c51_5 .skip)
def c51_7 : ACode :=
  (.seq (.seq (.region false [⟨some 21, none, .fa 1 (.s 1)⟩,
    ⟨some 22, none, .ld false 1 (.s 21)⟩,
    ⟨some 23, none, .mv (.s 3)⟩,
    ⟨some 24, none, .ia 1 (.s 22) (.s 23)⟩,
    ⟨some 25, none, .ld false 1 (.s 24)⟩,
    ⟨some 26, none, .bin .neq (.s 25) (.c (.t (.int .i64 1)))⟩,
    ⟨some 27, none, .mv (.s 26)⟩,
    ⟨some 28, some (27, true), .fa 1 (.s 1)⟩,
    ⟨some 29, some (27, true), .ld false 1 (.s 28)⟩,
    ⟨some 30, some (27, true), .mv (.s 3)⟩,
    ⟨some 31, some (27, true), .ia 1 (.s 29) (.s 30)⟩,
    ⟨some 32, some (27, true), .ld false 1 (.s 31)⟩,
    ⟨some 33, some (27, true), .bin .neq (.s 32) (.c (.t (.int .i64 2)))⟩,
    ⟨some 34, none, .pick (.s 27) (.s 33) (.c (.t (.bool false)))⟩] [] [1, 3, 34]) c51_6) c51_4)
def c51_8 : ACode :=
  (.seq (.block 1 c51_7) c51_1)
def c51_9 : ACode :=
  (.cond (.s 18) .skip (.exit 0))
def c51_10 : ACode :=
  (.seq (.seq (.region false [⟨some 14, none, .mv (.s 3)⟩,
    ⟨some 15, none, .fa 1 (.s 1)⟩,
    ⟨some 16, none, .ld false 1 (.s 15)⟩,
    ⟨some 17, none, .len (.s 16)⟩,
    ⟨some 18, none, .bin .lss (.s 14) (.s 17)⟩] [] [1, 3, 18]) c51_9) c51_8)
def c51_11 : ACode :=
  (.loop c51_10)
def c51_12 : ACode :=
  (.block 0 c51_11)
def c51_13 : ACode :=
  (.seq (.seq (.region false [⟨some 3, none, .cst (.t (.int .i64 0))⟩] [] [1, 3]) c51_12) c51_0)
def c51_14 : ACode :=
  (.seq (.region false [⟨some 2, none, .cst (.t (.bool false))⟩] [] [2]) .ret)
def c51_15 : ACode :=
  (.cond (.s 13) c51_14 .skip)
def c51_16 : ACode :=
  (.seq (.seq (.region false [⟨some 4, none, .fa 0 (.s 1)⟩,
    ⟨some 5, none, .ld false 1 (.s 4)⟩,
    ⟨some 6, none, .call 94 [(.s 5)]⟩,
    ⟨some 7, none, .un .not (.s 6)⟩,
    ⟨some 8, none, .mv (.s 7)⟩,
    ⟨some 9, some (8, false), .fa 1 (.s 1)⟩,
    ⟨some 10, some (8, false), .ld false 1 (.s 9)⟩,
    ⟨some 11, some (8, false), .len (.s 10)⟩,
    ⟨some 12, some (8, false), .bin .gtr (.s 11) (.c (.t (.int .i64 24)))⟩,
    ⟨some 13, none, .pick (.s 8) (.c (.t (.bool true))) (.s 12)⟩] [] [1, 13]) c51_15) c51_13)
def c51 : ACode :=
  (.seq (.region false [⟨some 1, none, .box 2 (.s 0)⟩,
    ⟨some 2, none, .cst (.t (.bool false))⟩] [] [1]) c51_16)
def r51 : List ARes := [.tmp 2]
def n51 : Nat := 54
/- 52 supergraph abstract.Sub -/
/- 53 supergraph supergraphref11.Sub -/
def c53_0 : ACode :=
  (.seq (.region false [⟨some 48, none, .mv (.s 8)⟩,
    ⟨some 49, none, .un .not (.s 48)⟩,
    ⟨some 50, none, .mv (.s 49)⟩,
    ⟨some 51, some (50, true), .mv (.s 10)⟩,
    ⟨some 52, some (50, true), .un .not (.s 51)⟩,
    ⟨some 53, none, .pick (.s 50) (.s 52) (.c (.t (.bool false)))⟩,
    ⟨some 54, none, .mv (.s 53)⟩,
    ⟨some 55, some (54, true), .fa 0 (.s 4)⟩,
    ⟨some 56, some (54, true), .ld false 1 (.s 55)⟩,
    ⟨some 57, some (54, true), .fa 0 (.s 5)⟩,
    ⟨some 58, some (54, true), .ld false 1 (.s 57)⟩,
    ⟨some 59, some (54, true), .bin .eql (.s 56) (.s 58)⟩,
    ⟨some 60, some (54, true), .mv (.s 59)⟩,
    ⟨some 61, some (60, false), .ld true 1 (.s 3)⟩,
    ⟨some 62, some (60, false), .fa 0 (.s 4)⟩,
    ⟨some 63, some (60, false), .ld false 1 (.s 62)⟩,
    ⟨some 64, some (60, false), .fa 0 (.s 5)⟩,
    ⟨some 65, some (60, false), .ld false 1 (.s 64)⟩,
    ⟨some 66, some (60, false), .call 48 [(.s 61), (.s 63), (.s 65)]⟩,
    ⟨some 67, some (54, true), .pick (.s 60) (.c (.t (.bool true))) (.s 66)⟩,
    ⟨some 68, none, .pick (.s 54) (.s 67) (.c (.t (.bool false)))⟩,
    ⟨some 6, none, .mv (.s 68)⟩] [] [6]) .ret)
def c53_1 : ACode :=
  (.seq (.region false [⟨some 44, none, .ld true 1 (.s 3)⟩,
    ⟨some 45, none, .ld true 2 (.s 7)⟩,
    ⟨some 46, none, .ld true 2 (.s 9)⟩,
    ⟨some 47, none, .call 53 [(.s 44), (.s 45), (.s 46)]⟩,
    ⟨some 6, none, .mv (.s 47)⟩] [] [6]) .ret)
def c53_2 : ACode :=
  (.cond (.s 43) c53_1 .skip)
def c53_3 : ACode :=
  (.seq (.seq (.region false [⟨some 40, none, .mv (.s 8)⟩,
    ⟨some 41, none, .mv (.s 40)⟩,
    ⟨some 42, some (41, true), .mv (.s 10)⟩,
    ⟨some 43, none, .pick (.s 41) (.s 42) (.c (.t (.bool false)))⟩] [] [3, 4, 5, 7, 8, 9, 10, 43]) c53_2) c53_0)
def c53_4 : ACode :=
  (.seq (.region false [⟨some 36, none, .ld true 2 (.s 5)⟩,
    ⟨some 37, none, .call 100 [(.s 36)]⟩,
    ⟨some 35, none, .mv (.s 37)⟩,
    ⟨some 38, none, .ext (.s 35) 0⟩,
    ⟨some 39, none, .ext (.s 35) 1⟩,
    ⟨some 9, none, .alloc [.t (.str []), .nils]⟩,
    ⟨none, none, .st 2 (.s 9) (.s 38)⟩,
    ⟨some 10, none, .mv (.s 39)⟩] [] [3, 4, 5, 7, 8, 9, 10]) c53_3)
def c53_5 : ACode :=
  (.seq (.region false [⟨some 31, none, .ld true 2 (.s 4)⟩,
    ⟨some 32, none, .call 100 [(.s 31)]⟩,
    ⟨some 30, none, .mv (.s 32)⟩,
    ⟨some 33, none, .ext (.s 30) 0⟩,
    ⟨some 34, none, .ext (.s 30) 1⟩,
    ⟨some 7, none, .alloc [.t (.str []), .nils]⟩,
    ⟨none, none, .st 2 (.s 7) (.s 33)⟩,
    ⟨some 8, none, .mv (.s 34)⟩] [] [3, 4, 5, 7, 8]) c53_4)
def c53_6 : ACode :=
  (.seq (.region true [⟨some 25, none, .ld true 1 (.s 3)⟩,
    ⟨some 26, none, .ld true 2 (.s 4)⟩,
    ⟨some 27, none, .call 99 [(.s 26)]⟩,
    ⟨some 28, none, .ld true 2 (.s 5)⟩,
    ⟨some 29, none, .call 53 [(.s 25), (.s 27), (.s 28)]⟩,
    ⟨some 6, none, .mv (.s 29)⟩] [[], [], [1], [], [0, 2, 3, 2], [4, 4, 0, 1, 2, 3, 4]] [6]) .ret)
def c53_7 : ACode :=
  (.cond (.s 24) c53_6 .skip)
def c53_8 : ACode :=
  (.seq (.seq (.region false [⟨some 23, none, .ld true 2 (.s 4)⟩,
    ⟨some 24, none, .call 98 [(.s 23)]⟩] [] [3, 4, 5, 24]) c53_7) c53_5)
def c53_9 : ACode :=
  (.seq (.region true [⟨some 13, none, .ld true 2 (.s 4)⟩,
    ⟨some 14, none, .call 98 [(.s 13)]⟩,
    ⟨some 15, none, .mv (.s 14)⟩,
    ⟨some 16, some (15, true), .ld true 1 (.s 3)⟩,
    ⟨some 17, some (15, true), .ld true 2 (.s 4)⟩,
    ⟨some 18, some (15, true), .call 99 [(.s 17)]⟩,
    ⟨some 19, some (15, true), .ld true 2 (.s 5)⟩,
    ⟨some 20, some (15, true), .call 99 [(.s 19)]⟩,
    ⟨some 21, some (15, true), .call 53 [(.s 16), (.s 18), (.s 20)]⟩,
    ⟨some 22, none, .pick (.s 15) (.s 21) (.c (.t (.bool false)))⟩,
    ⟨some 6, none, .mv (.s 22)⟩] [[], [0], [1, 1], [2], [2], [4, 2, 2], [2], [6, 5, 2], [3, 5, 7, 7, 2], [2, 8], [9, 8, 0, 1, 2, 3, 4, 5, 6, 7, 8, 9]] [6]) .ret)
def c53_10 : ACode :=
  (.cond (.s 12) c53_9 .skip)
def c53_11 : ACode :=
  (.seq (.seq (.region false [⟨some 11, none, .ld true 2 (.s 5)⟩,
    ⟨some 12, none, .call 98 [(.s 11)]⟩] [] [3, 4, 5, 12]) c53_10) c53_8)
def c53 : ACode :=
  (.seq (.region false [⟨some 3, none, .box 1 (.s 0)⟩,
    ⟨some 4, none, .box 2 (.s 1)⟩,
    ⟨some 5, none, .box 2 (.s 2)⟩,
    ⟨some 6, none, .cst (.t (.bool false))⟩] [] [3, 4, 5]) c53_11)
def r53 : List ARes := [.tmp 6]
def n53 : Nat := 69
/- 54 supergraph supergraphref05.Fits -/
/- 55 supergraph supergraphref10.Check -/
def c55_0 : ACode :=
  (.seq (.region false [⟨some 68, none, .mv (.s 5)⟩,
    ⟨some 4, none, .mv (.s 68)⟩] [] [4]) .ret)
def c55_1 : ACode :=
  (.region false [⟨some 64, none, .mv (.s 5)⟩,
    ⟨some 65, none, .build [.t (.int .i64 0), .t (.str [])] [(0, 1, (.c (.t (.int .i64 30)))), (1, 1, (.c (.t (.str [81, 117, 101, 114, 121]))))]⟩,
    ⟨some 66, none, .bsl false 2 [[.int .i64 0, .str []]] [(0, (.s 65))]⟩,
    ⟨some 67, none, .app 2 24 (.s 64) (.s 66)⟩,
    ⟨some 5, none, .mv (.s 67)⟩] [] [5])
def c55_2 : ACode :=
  (.cond (.s 63) c55_1 .skip)
def c55_3 : ACode :=
  (.seq (.seq (.region false [⟨some 59, none, .mv (.s 1)⟩,
    ⟨some 60, none, .mv (.s 59)⟩,
    ⟨some 61, some (60, true), .mv (.s 9)⟩,
    ⟨some 62, some (60, true), .un .not (.s 61)⟩,
    ⟨some 63, none, .pick (.s 60) (.s 62) (.c (.t (.bool false)))⟩] [] [5, 63]) c55_2) c55_0)
def c55_4 : ACode :=
  (.seq (.region false [⟨some 55, none, .ld true 1 (.s 2)⟩,
    ⟨some 56, none, .call 57 [(.s 55), (.c (.t (.str [81, 117, 101, 114, 121])))]⟩,
    ⟨some 54, none, .mv (.s 56)⟩,
    ⟨some 57, none, .ext (.s 54) 0⟩,
    ⟨some 58, none, .ext (.s 54) 1⟩,
    ⟨some 8, none, .alloc [.t (.int .i64 0), .t (.str []), .nils, .nils, .nils, .nils, .nils]⟩,
    ⟨none, none, .st 7 (.s 8) (.s 57)⟩,
    ⟨some 9, none, .mv (.s 58)⟩] [] [1, 5, 9]) c55_3)
def c55_5 : ACode :=
  (.region false [⟨some 15, none, .mv (.s 6)⟩,
    ⟨some 16, none, .bin .add (.s 15) (.c (.t (.int .i64 1)))⟩,
    ⟨some 6, none, .mv (.s 16)⟩] [] [1, 2, 5, 6])
def c55_6 : ACode :=
  (.region false [⟨some 32, none, .mv (.s 5)⟩,
    ⟨some 33, none, .ld true 1 (.s 2)⟩,
    ⟨some 34, none, .ld true 7 (.s 7)⟩,
    ⟨some 35, none, .call 103 [(.s 33), (.s 34)]⟩,
    ⟨some 36, none, .app 2 24 (.s 32) (.s 35)⟩,
    ⟨some 5, none, .mv (.s 36)⟩] [] [1, 2, 5, 6])
def c55_7 : ACode :=
  (.region false [⟨some 39, none, .mv (.s 5)⟩,
    ⟨some 40, none, .ld true 7 (.s 7)⟩,
    ⟨some 41, none, .call 104 [(.s 40)]⟩,
    ⟨some 42, none, .app 2 24 (.s 39) (.s 41)⟩,
    ⟨some 5, none, .mv (.s 42)⟩] [] [1, 2, 5, 6])
def c55_8 : ACode :=
  (.region false [⟨some 45, none, .mv (.s 5)⟩,
    ⟨some 46, none, .ld true 1 (.s 2)⟩,
    ⟨some 47, none, .fa 6 (.s 7)⟩,
    ⟨some 48, none, .ld false 1 (.s 47)⟩,
    ⟨some 49, none, .fa 1 (.s 7)⟩,
    ⟨some 50, none, .ld false 1 (.s 49)⟩,
    ⟨some 51, none, .bin .add (.s 50) (.c (.t (.str [46])))⟩,
    ⟨some 52, none, .call 105 [(.s 46), (.s 48), (.s 51), (.c (.t (.str [])))]⟩,
    ⟨some 53, none, .app 2 24 (.s 45) (.s 52)⟩,
    ⟨some 5, none, .mv (.s 53)⟩] [] [1, 2, 5, 6])
def c55_9 : ACode :=
  (.cond (.s 43) c55_8 .skip)
def c55_10 : ACode :=
  (.seq (.region false [⟨some 44, none, .bin .eql (.s 28) (.c (.t (.int .i64 5)))⟩,
    ⟨some 43, none, .mv (.s 44)⟩] [] [1, 2, 5, 6, 7, 43]) c55_9)
def c55_11 : ACode :=
  (.cond (.s 37) c55_7 c55_10)
def c55_12 : ACode :=
  (.seq (.region false [⟨some 38, none, .bin .eql (.s 28) (.c (.t (.int .i64 4)))⟩,
    ⟨some 37, none, .mv (.s 38)⟩] [] [1, 2, 5, 6, 7, 28, 37]) c55_11)
def c55_13 : ACode :=
  (.cond (.s 29) c55_6 c55_12)
def c55_14 : ACode :=
  (.region false [⟨some 31, none, .bin .eql (.s 28) (.c (.t (.int .i64 2)))⟩,
    ⟨some 29, none, .mv (.s 31)⟩] [] [1, 2, 5, 6, 7, 28, 29])
def c55_15 : ACode :=
  (.cond (.s 29) .skip c55_14)
def c55_16 : ACode :=
  (.seq (.seq (.region false [⟨some 30, none, .bin .eql (.s 28) (.c (.t (.int .i64 1)))⟩,
    ⟨some 29, none, .mv (.s 30)⟩] [] [1, 2, 5, 6, 7, 28, 29]) c55_15) c55_13)
def c55_17 : ACode :=
  (.block 2 c55_16)
def c55_18 : ACode :=
  (.seq (.region false [⟨some 27, none, .fa 0 (.s 7)⟩,
    ⟨some 28, none, .ld false 1 (.s 27)⟩] [] [1, 2, 5, 6, 7, 28]) c55_17)
def c55_19 : ACode :=
  (.seq (.region false [⟨some 22, none, .mv (.s 5)⟩,
    ⟨some 23, none, .ld true 1 (.s 2)⟩,
    ⟨some 24, none, .mv (.s 6)⟩,
    ⟨some 25, none, .call 102 [(.s 23), (.s 24)]⟩,
    ⟨some 26, none, .app 2 24 (.s 22) (.s 25)⟩,
    ⟨some 5, none, .mv (.s 26)⟩] [] [1, 2, 5, 6, 7]) c55_18)
def c55_20 : ACode :=
  (.seq (.region false [⟨some 17, none, .fa 0 (.s 2)⟩,
    ⟨some 18, none, .ld false 1 (.s 17)⟩,
    ⟨some 19, none, .mv (.s 6)⟩,
    ⟨some 20, none, .ia 7 (.s 18) (.s 19)⟩,
    ⟨some 21, none, .ld true 7 (.s 20)⟩,
    ⟨some 7, none, .alloc [.t (.int .i64 0), .t (.str []), .nils, .nils, .nils, .nils, .nils]⟩,
    ⟨none, none, .st 7 (.s 7) (.s 21)⟩] [] [1, 2, 5, 6, 7]) c55_19)
def c55_21 : ACode :=
  (.seq (.block 1 c55_20) c55_5)
def c55_22 : ACode :=
  (.cond (.s 14) .skip (.exit 0))
def c55_23 : ACode :=
  (.seq (.seq (.region false [⟨some 10, none, .mv (.s 6)⟩,
    ⟨some 11, none, .fa 0 (.s 2)⟩,
    ⟨some 12, none, .ld false 1 (.s 11)⟩,
    ⟨some 13, none, .len (.s 12)⟩,
    ⟨some 14, none, .bin .lss (.s 10) (.s 13)⟩] [] [1, 2, 5, 6, 14]) c55_22) c55_21)
def c55_24 : ACode :=
  (.loop c55_23)
def c55_25 : ACode :=
  (.block 0 c55_24)
def c55_26 : ACode :=
  (.seq (.seq (.region false [⟨some 6, none, .cst (.t (.int .i64 0))⟩] [] [1, 2, 5, 6]) c55_25) c55_4)
def c55_27 : ACode :=
  (.seq (.region false [⟨some 5, none, .cst (.nils)⟩] [] [1, 2, 5]) c55_26)
def c55 : ACode :=
  (.seq (.region false [⟨some 2, none, .box 1 (.s 0)⟩,
    ⟨some 4, none, .cst (.nils)⟩] [] [1, 2]) c55_27)
def r55 : List ARes := [.tmp 4]
def n55 : Nat := 69
/- 56 supergraph abstract.Faces -/
/- 57 supergraph supergraphref10.Find -/
def c57_0 : ACode :=
  (.seq (.region false [⟨some 27, none, .build [.t (.int .i64 0), .t (.str []), .nils, .nils, .nils, .nils, .nils] []⟩,
    ⟨none, none, .st 7 (.s 4) (.s 27)⟩,
    ⟨some 5, none, .cst (.t (.bool false))⟩] [] [4, 5]) .ret)
def c57_1 : ACode :=
  (.region false [⟨some 12, none, .mv (.s 6)⟩,
    ⟨some 13, none, .bin .add (.s 12) (.c (.t (.int .i64 1)))⟩,
    ⟨some 6, none, .mv (.s 13)⟩] [] [1, 2, 4, 6])
def c57_2 : ACode :=
  (.seq (.region false [⟨some 22, none, .fa 0 (.s 2)⟩,
    ⟨some 23, none, .ld false 1 (.s 22)⟩,
    ⟨some 24, none, .mv (.s 6)⟩,
    ⟨some 25, none, .ia 7 (.s 23) (.s 24)⟩,
    ⟨some 26, none, .ld true 7 (.s 25)⟩,
    ⟨none, none, .st 7 (.s 4) (.s 26)⟩,
    ⟨some 5, none, .cst (.t (.bool true))⟩] [] [4, 5]) .ret)
def c57_3 : ACode :=
  (.cond (.s 21) c57_2 .skip)
def c57_4 : ACode :=
  (.seq (.region false [⟨some 14, none, .fa 0 (.s 2)⟩,
    ⟨some 15, none, .ld false 1 (.s 14)⟩,
    ⟨some 16, none, .mv (.s 6)⟩,
    ⟨some 17, none, .ia 7 (.s 15) (.s 16)⟩,
    ⟨some 18, none, .fa 1 (.s 17)⟩,
    ⟨some 19, none, .ld false 1 (.s 18)⟩,
    ⟨some 20, none, .mv (.s 1)⟩,
    ⟨some 21, none, .bin .eql (.s 19) (.s 20)⟩] [] [1, 2, 4, 6, 21]) c57_3)
def c57_5 : ACode :=
  (.seq (.block 1 c57_4) c57_1)
def c57_6 : ACode :=
  (.cond (.s 11) .skip (.exit 0))
def c57_7 : ACode :=
  (.seq (.seq (.region false [⟨some 7, none, .mv (.s 6)⟩,
    ⟨some 8, none, .fa 0 (.s 2)⟩,
    ⟨some 9, none, .ld false 1 (.s 8)⟩,
    ⟨some 10, none, .len (.s 9)⟩,
    ⟨some 11, none, .bin .lss (.s 7) (.s 10)⟩] [] [1, 2, 4, 6, 11]) c57_6) c57_5)
def c57_8 : ACode :=
  (.loop c57_7)
def c57_9 : ACode :=
  (.block 0 c57_8)
def c57_10 : ACode :=
  (.seq (.seq (.region false [⟨some 6, none, .cst (.t (.int .i64 0))⟩] [] [1, 2, 4, 6]) c57_9) c57_0)
def c57 : ACode :=
  (.seq (.region false [⟨some 2, none, .box 1 (.s 0)⟩,
    ⟨some 4, none, .alloc [.t (.int .i64 0), .t (.str []), .nils, .nils, .nils, .nils, .nils]⟩,
    ⟨some 5, none, .cst (.t (.bool false))⟩] [] [1, 2, 4]) c57_10)
def r57 : List ARes := [.cell 4 true 7, .tmp 5]
def n57 : Nat := 28
/- 58 supergraph supergraphref10.FieldOf -/
def c58_0 : ACode :=
  (.seq (.region false [⟨some 27, none, .build [.t (.str []), .nils, .t (.str []), .nils, .nils] []⟩,
    ⟨none, none, .st 5 (.s 4) (.s 27)⟩,
    ⟨some 5, none, .cst (.t (.bool false))⟩] [] [4, 5]) .ret)
def c58_1 : ACode :=
  (.region false [⟨some 12, none, .mv (.s 6)⟩,
    ⟨some 13, none, .bin .add (.s 12) (.c (.t (.int .i64 1)))⟩,
    ⟨some 6, none, .mv (.s 13)⟩] [] [1, 2, 4, 6])
def c58_2 : ACode :=
  (.seq (.region false [⟨some 22, none, .fa 4 (.s 2)⟩,
    ⟨some 23, none, .ld false 1 (.s 22)⟩,
    ⟨some 24, none, .mv (.s 6)⟩,
    ⟨some 25, none, .ia 5 (.s 23) (.s 24)⟩,
    ⟨some 26, none, .ld true 5 (.s 25)⟩,
    ⟨none, none, .st 5 (.s 4) (.s 26)⟩,
    ⟨some 5, none, .cst (.t (.bool true))⟩] [] [4, 5]) .ret)
def c58_3 : ACode :=
  (.cond (.s 21) c58_2 .skip)
def c58_4 : ACode :=
  (.seq (.region false [⟨some 14, none, .fa 4 (.s 2)⟩,
    ⟨some 15, none, .ld false 1 (.s 14)⟩,
    ⟨some 16, none, .mv (.s 6)⟩,
    ⟨some 17, none, .ia 5 (.s 15) (.s 16)⟩,
    ⟨some 18, none, .fa 0 (.s 17)⟩,
    ⟨some 19, none, .ld false 1 (.s 18)⟩,
    ⟨some 20, none, .mv (.s 1)⟩,
    ⟨some 21, none, .bin .eql (.s 19) (.s 20)⟩] [] [1, 2, 4, 6, 21]) c58_3)
def c58_5 : ACode :=
  (.seq (.block 1 c58_4) c58_1)
def c58_6 : ACode :=
  (.cond (.s 11) .skip (.exit 0))
def c58_7 : ACode :=
  (.seq (.seq (.region false [⟨some 7, none, .mv (.s 6)⟩,
    ⟨some 8, none, .fa 4 (.s 2)⟩,
    ⟨some 9, none, .ld false 1 (.s 8)⟩,
    ⟨some 10, none, .len (.s 9)⟩,
    ⟨some 11, none, .bin .lss (.s 7) (.s 10)⟩] [] [1, 2, 4, 6, 11]) c58_6) c58_5)
def c58_8 : ACode :=
  (.loop c58_7)
def c58_9 : ACode :=
  (.block 0 c58_8)
def c58_10 : ACode :=
  (.seq (.seq (.region false [⟨some 6, none, .cst (.t (.int .i64 0))⟩] [] [1, 2, 4, 6]) c58_9) c58_0)
def c58 : ACode :=
  (.seq (.region false [⟨some 2, none, .box 7 (.s 0)⟩,
    ⟨some 4, none, .alloc [.t (.str []), .nils, .t (.str []), .nils, .nils]⟩,
    ⟨some 5, none, .cst (.t (.bool false))⟩] [] [1, 2, 4]) c58_10)
def r58 : List ARes := [.cell 4 true 5, .tmp 5]
def n58 : Nat := 28
/- 68 slices.Contains[[]string,string] -/
def c68_0 : ACode :=
  (.seq (.region false [⟨some 5, none, .mv (.s 0)⟩,
    ⟨some 6, none, .mv (.s 1)⟩,
    ⟨some 7, none, .call 126 [(.s 5), (.s 6)]⟩,
    ⟨some 8, none, .bin .geq (.s 7) (.c (.t (.int .i64 0)))⟩,
    ⟨some 4, none, .mv (.s 8)⟩] [] [4]) .ret)
def c68 : ACode :=
  (.seq (.region false [⟨some 4, none, .cst (.t (.bool false))⟩] [] [0, 1]) c68_0)
def r68 : List ARes := [.tmp 4]
def n68 : Nat := 9
/- 85 supergraph supergraphref10.Scalar -/
def c85_0 : ACode :=
  (.seq (.region false [⟨some 3, none, .mv (.s 0)⟩,
    ⟨some 4, none, .bin .eql (.s 3) (.c (.t (.str [73, 110, 116])))⟩,
    ⟨some 5, none, .mv (.s 4)⟩,
    ⟨some 6, some (5, false), .mv (.s 0)⟩,
    ⟨some 7, some (5, false), .bin .eql (.s 6) (.c (.t (.str [83, 116, 114, 105, 110, 103])))⟩,
    ⟨some 8, none, .pick (.s 5) (.c (.t (.bool true))) (.s 7)⟩,
    ⟨some 9, none, .mv (.s 8)⟩,
    ⟨some 10, some (9, false), .mv (.s 0)⟩,
    ⟨some 11, some (9, false), .bin .eql (.s 10) (.c (.t (.str [66, 111, 111, 108, 101, 97, 110])))⟩,
    ⟨some 12, none, .pick (.s 9) (.c (.t (.bool true))) (.s 11)⟩,
    ⟨some 13, none, .mv (.s 12)⟩,
    ⟨some 14, some (13, false), .mv (.s 0)⟩,
    ⟨some 15, some (13, false), .bin .eql (.s 14) (.c (.t (.str [73, 68])))⟩,
    ⟨some 16, none, .pick (.s 13) (.c (.t (.bool true))) (.s 15)⟩,
    ⟨some 2, none, .mv (.s 16)⟩] [] [2]) .ret)
def c85 : ACode :=
  (.seq (.region false [⟨some 2, none, .cst (.t (.bool false))⟩] [] [0]) c85_0)
def r85 : List ARes := [.tmp 2]
def n85 : Nat := 17
/- 86 supergraph supergraphlaw11.number -/
/- 87 supergraph schema.Find -/
def c87_0 : ACode :=
  (.seq (.region false [⟨some 21, none, .build [.t (.int .i64 0), .t (.str []), .nils, .nils, .nils, .nils, .nils] []⟩,
    ⟨none, none, .st 7 (.s 4) (.s 21)⟩,
    ⟨some 5, none, .cst (.t (.bool false))⟩] [] [4, 5]) .ret)
def c87_1 : ACode :=
  (.region false [⟨some 20, none, .bin .add (.s 11) (.c (.t (.int .i64 1)))⟩,
    ⟨some 11, none, .mv (.s 20)⟩] [] [1, 4, 9, 10, 11])
def c87_2 : ACode :=
  (.seq (.region false [⟨some 19, none, .ld true 7 (.s 7)⟩,
    ⟨none, none, .st 7 (.s 4) (.s 19)⟩,
    ⟨some 5, none, .cst (.t (.bool true))⟩] [] [4, 5]) .ret)
def c87_3 : ACode :=
  (.cond (.s 18) c87_2 .skip)
def c87_4 : ACode :=
  (.seq (.region false [⟨some 15, none, .fa 1 (.s 7)⟩,
    ⟨some 16, none, .ld false 1 (.s 15)⟩,
    ⟨some 17, none, .mv (.s 1)⟩,
    ⟨some 18, none, .bin .eql (.s 16) (.s 17)⟩] [] [1, 4, 7, 9, 10, 11, 18]) c87_3)
def c87_5 : ACode :=
  (.seq (.region false [⟨some 13, none, .ia 7 (.s 9) (.s 11)⟩,
    ⟨some 14, none, .ld true 7 (.s 13)⟩,
    ⟨some 7, none, .alloc [.t (.int .i64 0), .t (.str []), .nils, .nils, .nils, .nils, .nils]⟩,
    ⟨none, none, .st 7 (.s 7) (.s 14)⟩] [] [1, 4, 7, 9, 10, 11]) c87_4)
def c87_6 : ACode :=
  (.seq (.block 1 c87_5) c87_1)
def c87_7 : ACode :=
  (.seq (.cond (.s 12) .skip (.exit 0)) c87_6)
def c87_8 : ACode :=
  (.seq (.region false [⟨some 12, none, .bin .lss (.s 11) (.s 10)⟩] [] [1, 4, 9, 10, 11, 12]) c87_7)
def c87_9 : ACode :=
  (.loop c87_8)
def c87_10 : ACode :=
  (.block 0 c87_9)
def c87_11 : ACode :=
  (.seq (.seq (.region false [⟨some 8, none, .fa 0 (.s 2)⟩,
    ⟨some 9, none, .ld false 1 (.s 8)⟩,
    ⟨some 10, none, .len (.s 9)⟩,
    ⟨some 11, none, .cst (.t (.int .i64 0))⟩] [] [1, 4, 9, 10, 11]) c87_10) c87_0)
def c87 : ACode :=
  (.seq (.region false [⟨some 2, none, .box 1 (.s 0)⟩,
    ⟨some 4, none, .alloc [.t (.int .i64 0), .t (.str []), .nils, .nils, .nils, .nils, .nils]⟩,
    ⟨some 5, none, .cst (.t (.bool false))⟩] [] [1, 2, 4]) c87_11)
def r87 : List ARes := [.cell 4 true 7, .tmp 5]
def n87 : Nat := 22
/- 88 supergraph abstract.implements -/
def c88_0 : ACode :=
  (.seq (.region false [⟨some 5, none, .fa 2 (.s 2)⟩,
    ⟨some 6, none, .ld false 1 (.s 5)⟩,
    ⟨some 7, none, .mv (.s 1)⟩,
    ⟨some 8, none, .call 68 [(.s 6), (.s 7)]⟩,
    ⟨some 4, none, .mv (.s 8)⟩] [] [4]) .ret)
def c88 : ACode :=
  (.seq (.region false [⟨some 2, none, .box 7 (.s 0)⟩,
    ⟨some 4, none, .cst (.t (.bool false))⟩] [] [1, 2]) c88_0)
def r88 : List ARes := [.tmp 4]
def n88 : Nat := 9
/- 89 supergraph supergraphref11.first -/
def c89_0 : ACode :=
  (.seq (.region false [⟨some 4, none, .cst (.t (.bool true))⟩] [] [4]) .ret)
def c89_1 : ACode :=
  (.region false [⟨some 9, none, .mv (.s 5)⟩,
    ⟨some 10, none, .bin .add (.s 9) (.c (.t (.int .i64 1)))⟩,
    ⟨some 5, none, .mv (.s 10)⟩] [] [1, 2, 5])
def c89_2 : ACode :=
  (.seq (.region false [⟨some 4, none, .cst (.t (.bool false))⟩] [] [4]) .ret)
def c89_3 : ACode :=
  (.cond (.s 23) c89_2 .skip)
def c89_4 : ACode :=
  (.seq (.region true [⟨some 11, none, .fa 0 (.s 2)⟩,
    ⟨some 12, none, .ld false 1 (.s 11)⟩,
    ⟨some 13, none, .mv (.s 5)⟩,
    ⟨some 14, none, .ia 7 (.s 12) (.s 13)⟩,
    ⟨some 15, none, .fa 1 (.s 14)⟩,
    ⟨some 16, none, .ld false 1 (.s 15)⟩,
    ⟨some 17, none, .fa 0 (.s 2)⟩,
    ⟨some 18, none, .ld false 1 (.s 17)⟩,
    ⟨some 19, none, .mv (.s 1)⟩,
    ⟨some 20, none, .ia 7 (.s 18) (.s 19)⟩,
    ⟨some 21, none, .fa 1 (.s 20)⟩,
    ⟨some 22, none, .ld false 1 (.s 21)⟩,
    ⟨some 23, none, .bin .eql (.s 16) (.s 22)⟩] [[], [0], [], [1, 2], [3], [4], [], [6], [], [7, 8], [9], [10], [5, 11]] [1, 2, 5, 23]) c89_3)
def c89_5 : ACode :=
  (.seq (.block 1 c89_4) c89_1)
def c89_6 : ACode :=
  (.cond (.s 8) .skip (.exit 0))
def c89_7 : ACode :=
  (.seq (.seq (.region false [⟨some 6, none, .mv (.s 5)⟩,
    ⟨some 7, none, .mv (.s 1)⟩,
    ⟨some 8, none, .bin .lss (.s 6) (.s 7)⟩] [] [1, 2, 5, 8]) c89_6) c89_5)
def c89_8 : ACode :=
  (.loop c89_7)
def c89_9 : ACode :=
  (.block 0 c89_8)
def c89_10 : ACode :=
  (.seq (.seq (.region false [⟨some 5, none, .cst (.t (.int .i64 0))⟩] [] [1, 2, 5]) c89_9) c89_0)
def c89 : ACode :=
  (.seq (.region false [⟨some 2, none, .box 1 (.s 0)⟩,
    ⟨some 4, none, .cst (.t (.bool false))⟩] [] [1, 2]) c89_10)
def r89 : List ARes := [.tmp 4]
def n89 : Nat := 24
/- 90 supergraph supergraphref11.has -/
def c90_0 : ACode :=
  (.seq (.region false [⟨some 4, none, .cst (.t (.bool false))⟩] [] [4]) .ret)
def c90_1 : ACode :=
  (.region false [⟨some 10, none, .mv (.s 5)⟩,
    ⟨some 11, none, .bin .add (.s 10) (.c (.t (.int .i64 1)))⟩,
    ⟨some 5, none, .mv (.s 11)⟩] [] [0, 1, 5])
def c90_2 : ACode :=
  (.seq (.region false [⟨some 4, none, .cst (.t (.bool true))⟩] [] [4]) .ret)
def c90_3 : ACode :=
  (.cond (.s 17) c90_2 .skip)
def c90_4 : ACode :=
  (.seq (.region false [⟨some 12, none, .mv (.s 0)⟩,
    ⟨some 13, none, .mv (.s 5)⟩,
    ⟨some 14, none, .ia 1 (.s 12) (.s 13)⟩,
    ⟨some 15, none, .ld false 1 (.s 14)⟩,
    ⟨some 16, none, .mv (.s 1)⟩,
    ⟨some 17, none, .bin .eql (.s 15) (.s 16)⟩] [] [0, 1, 5, 17]) c90_3)
def c90_5 : ACode :=
  (.seq (.block 1 c90_4) c90_1)
def c90_6 : ACode :=
  (.cond (.s 9) .skip (.exit 0))
def c90_7 : ACode :=
  (.seq (.seq (.region false [⟨some 6, none, .mv (.s 5)⟩,
    ⟨some 7, none, .mv (.s 0)⟩,
    ⟨some 8, none, .len (.s 7)⟩,
    ⟨some 9, none, .bin .lss (.s 6) (.s 8)⟩] [] [0, 1, 5, 9]) c90_6) c90_5)
def c90_8 : ACode :=
  (.loop c90_7)
def c90_9 : ACode :=
  (.block 0 c90_8)
def c90_10 : ACode :=
  (.seq (.seq (.region false [⟨some 5, none, .cst (.t (.int .i64 0))⟩] [] [0, 1, 5]) c90_9) c90_0)
def c90 : ACode :=
  (.seq (.region false [⟨some 4, none, .cst (.t (.bool false))⟩] [] [0, 1]) c90_10)
def r90 : List ARes := [.tmp 4]
def n90 : Nat := 18
/- 91 supergraph supergraphref11.member -/
def c91_0 : ACode :=
  (.seq (.region false [⟨some 4, none, .cst (.t (.bool false))⟩] [] [4]) .ret)
def c91_1 : ACode :=
  (.region false [⟨some 11, none, .mv (.s 5)⟩,
    ⟨some 12, none, .bin .add (.s 11) (.c (.t (.int .i64 1)))⟩,
    ⟨some 5, none, .mv (.s 12)⟩] [] [1, 2, 5])
def c91_2 : ACode :=
  (.seq (.region false [⟨some 4, none, .cst (.t (.bool true))⟩] [] [4]) .ret)
def c91_3 : ACode :=
  (.cond (.s 20) c91_2 .skip)
def c91_4 : ACode :=
  (.seq (.region false [⟨some 13, none, .fa 5 (.s 2)⟩,
    ⟨some 14, none, .ld false 1 (.s 13)⟩,
    ⟨some 15, none, .mv (.s 5)⟩,
    ⟨some 16, none, .ia 2 (.s 14) (.s 15)⟩,
    ⟨some 17, none, .fa 0 (.s 16)⟩,
    ⟨some 18, none, .ld false 1 (.s 17)⟩,
    ⟨some 19, none, .mv (.s 1)⟩,
    ⟨some 20, none, .bin .eql (.s 18) (.s 19)⟩] [] [1, 2, 5, 20]) c91_3)
def c91_5 : ACode :=
  (.seq (.block 1 c91_4) c91_1)
def c91_6 : ACode :=
  (.cond (.s 10) .skip (.exit 0))
def c91_7 : ACode :=
  (.seq (.seq (.region false [⟨some 6, none, .mv (.s 5)⟩,
    ⟨some 7, none, .fa 5 (.s 2)⟩,
    ⟨some 8, none, .ld false 1 (.s 7)⟩,
    ⟨some 9, none, .len (.s 8)⟩,
    ⟨some 10, none, .bin .lss (.s 6) (.s 9)⟩] [] [1, 2, 5, 10]) c91_6) c91_5)
def c91_8 : ACode :=
  (.loop c91_7)
def c91_9 : ACode :=
  (.block 0 c91_8)
def c91_10 : ACode :=
  (.seq (.seq (.region false [⟨some 5, none, .cst (.t (.int .i64 0))⟩] [] [1, 2, 5]) c91_9) c91_0)
def c91 : ACode :=
  (.seq (.region false [⟨some 2, none, .box 7 (.s 0)⟩,
    ⟨some 4, none, .cst (.t (.bool false))⟩] [] [1, 2]) c91_10)
def r91 : List ARes := [.tmp 4]
def n91 : Nat := 21
/- 92 slices.ContainsFunc[[]string,string] -/
def c92_0 : ACode :=
  (.seq (.region false [⟨some 5, none, .mv (.s 0)⟩,
    ⟨some 6, none, .mv (.s 1)⟩,
    ⟨some 7, none, .call 140 [(.s 5), (.s 6)]⟩,
    ⟨some 8, none, .bin .geq (.s 7) (.c (.t (.int .i64 0)))⟩,
    ⟨some 4, none, .mv (.s 8)⟩] [] [4]) .ret)
def c92 : ACode :=
  (.seq (.region false [⟨some 4, none, .cst (.t (.bool false))⟩] [] [0, 1]) c92_0)
def r92 : List ARes := [.tmp 4]
def n92 : Nat := 9
/- 93 supergraph abstract.Overlap 1 -/
def c93_0 : ACode :=
  (.seq (.region false [⟨some 4, none, .ld false 1 (.s 1)⟩,
    ⟨some 5, none, .mv (.s 0)⟩,
    ⟨some 6, none, .call 68 [(.s 4), (.s 5)]⟩,
    ⟨some 3, none, .mv (.s 6)⟩] [] [3]) .ret)
def c93 : ACode :=
  (.seq (.region false [⟨some 3, none, .cst (.t (.bool false))⟩] [] [0, 1]) c93_0)
def r93 : List ARes := [.tmp 3]
def n93 : Nat := 7
/- 94 supergraph supergraphref01.Name -/
def c94_0 : ACode :=
  (.seq (.region false [⟨some 2, none, .cst (.t (.bool true))⟩] [] [2]) .ret)
def c94_1 : ACode :=
  (.region false [⟨some 16, none, .mv (.s 3)⟩,
    ⟨some 17, none, .bin .add (.s 16) (.c (.t (.int .i64 1)))⟩,
    ⟨some 3, none, .mv (.s 17)⟩] [] [0, 3])
def c94_2 : ACode :=
  (.seq (.region false [⟨some 2, none, .cst (.t (.bool false))⟩] [] [2]) .ret)
def c94_3 : ACode :=
  (.cond (.s 33) c94_2 .skip)
def c94_4 : ACode :=
  (.seq (.region false [⟨some 18, none, .mv (.s 0)⟩,
    ⟨some 19, none, .mv (.s 3)⟩,
    ⟨some 20, none, .ixs (.s 18) (.s 19)⟩,
    ⟨some 21, none, .call 141 [(.s 20)]⟩,
    ⟨some 22, none, .un .not (.s 21)⟩,
    ⟨some 23, none, .mv (.s 22)⟩,
    ⟨some 24, some (23, true), .mv (.s 3)⟩,
    ⟨some 25, some (23, true), .bin .eql (.s 24) (.c (.t (.int .i64 0)))⟩,
    ⟨some 26, some (23, true), .mv (.s 25)⟩,
    ⟨some 27, some (26, false), .mv (.s 0)⟩,
    ⟨some 28, some (26, false), .mv (.s 3)⟩,
    ⟨some 29, some (26, false), .ixs (.s 27) (.s 28)⟩,
    ⟨some 30, some (26, false), .call 142 [(.s 29)]⟩,
    ⟨some 31, some (26, false), .un .not (.s 30)⟩,
    ⟨some 32, some (23, true), .pick (.s 26) (.c (.t (.bool true))) (.s 31)⟩,
    ⟨some 33, none, .pick (.s 23) (.s 32) (.c (.t (.bool false)))⟩] [] [0, 3, 33]) c94_3)
def c94_5 : ACode :=
  (.seq (.block 1 c94_4) c94_1)
def c94_6 : ACode :=
  (.cond (.s 15) .skip (.exit 0))
def c94_7 : ACode :=
  (.seq (.seq (.region false [⟨some 12, none, .mv (.s 3)⟩,
    ⟨some 13, none, .mv (.s 0)⟩,
    ⟨some 14, none, .lens (.s 13)⟩,
    ⟨some 15, none, .bin .lss (.s 12) (.s 14)⟩] [] [0, 3, 15]) c94_6) c94_5)
def c94_8 : ACode :=
  (.loop c94_7)
def c94_9 : ACode :=
  (.block 0 c94_8)
def c94_10 : ACode :=
  (.seq (.seq (.region false [⟨some 3, none, .cst (.t (.int .i64 0))⟩] [] [0, 3]) c94_9) c94_0)
def c94_11 : ACode :=
  (.seq (.region false [⟨some 2, none, .cst (.t (.bool false))⟩] [] [2]) .ret)
def c94_12 : ACode :=
  (.cond (.s 11) c94_11 .skip)
def c94_13 : ACode :=
  (.seq (.seq (.region false [⟨some 4, none, .mv (.s 0)⟩,
    ⟨some 5, none, .lens (.s 4)⟩,
    ⟨some 6, none, .bin .lss (.s 5) (.c (.t (.int .i64 1)))⟩,
    ⟨some 7, none, .mv (.s 6)⟩,
    ⟨some 8, some (7, false), .mv (.s 0)⟩,
    ⟨some 9, some (7, false), .lens (.s 8)⟩,
    ⟨some 10, some (7, false), .bin .gtr (.s 9) (.c (.t (.int .i64 64)))⟩,
    ⟨some 11, none, .pick (.s 7) (.c (.t (.bool true))) (.s 10)⟩] [] [0, 11]) c94_12) c94_10)
def c94 : ACode :=
  (.seq (.region false [⟨some 2, none, .cst (.t (.bool false))⟩] [] [0]) c94_13)
def r94 : List ARes := [.tmp 2]
def n94 : Nat := 34
/- 95 supergraph typeref.IsNonNull -/
def c95_0 : ACode :=
  (.seq (.region false [⟨some 3, none, .fa 1 (.s 1)⟩,
    ⟨some 4, none, .ld false 1 (.s 3)⟩,
    ⟨some 5, none, .len (.s 4)⟩,
    ⟨some 6, none, .bin .gtr (.s 5) (.c (.t (.int .i64 0)))⟩,
    ⟨some 7, none, .mv (.s 6)⟩,
    ⟨some 8, some (7, true), .fa 1 (.s 1)⟩,
    ⟨some 9, some (7, true), .ld false 1 (.s 8)⟩,
    ⟨some 10, some (7, true), .ia 1 (.s 9) (.c (.t (.int .i64 0)))⟩,
    ⟨some 11, some (7, true), .ld false 1 (.s 10)⟩,
    ⟨some 12, some (7, true), .bin .eql (.s 11) (.c (.t (.int .i64 1)))⟩,
    ⟨some 13, none, .pick (.s 7) (.s 12) (.c (.t (.bool false)))⟩,
    ⟨some 2, none, .mv (.s 13)⟩] [] [2]) .ret)
def c95 : ACode :=
  (.seq (.region false [⟨some 1, none, .box 2 (.s 0)⟩,
    ⟨some 2, none, .cst (.t (.bool false))⟩] [] [1]) c95_0)
def r95 : List ARes := [.tmp 2]
def n95 : Nat := 14
/- 96 supergraph typeref.Nullable -/
/- 97 supergraph typeref.Inner -/
/- 98 supergraph supergraphref05.IsNonNull -/
def c98_0 : ACode :=
  (.seq (.region false [⟨some 3, none, .fa 1 (.s 1)⟩,
    ⟨some 4, none, .ld false 1 (.s 3)⟩,
    ⟨some 5, none, .len (.s 4)⟩,
    ⟨some 6, none, .bin .gtr (.s 5) (.c (.t (.int .i64 0)))⟩,
    ⟨some 7, none, .mv (.s 6)⟩,
    ⟨some 8, some (7, true), .fa 1 (.s 1)⟩,
    ⟨some 9, some (7, true), .ld false 1 (.s 8)⟩,
    ⟨some 10, some (7, true), .ia 1 (.s 9) (.c (.t (.int .i64 0)))⟩,
    ⟨some 11, some (7, true), .ld false 1 (.s 10)⟩,
    ⟨some 12, some (7, true), .bin .eql (.s 11) (.c (.t (.int .i64 1)))⟩,
    ⟨some 13, none, .pick (.s 7) (.s 12) (.c (.t (.bool false)))⟩,
    ⟨some 2, none, .mv (.s 13)⟩] [] [2]) .ret)
def c98 : ACode :=
  (.seq (.region false [⟨some 1, none, .box 2 (.s 0)⟩,
    ⟨some 2, none, .cst (.t (.bool false))⟩] [] [1]) c98_0)
def r98 : List ARes := [.tmp 2]
def n98 : Nat := 14
/- 99 supergraph supergraphref05.Nullable -/
def c99_0 : ACode :=
  (.seq (.region true [⟨some 7, none, .fa 0 (.s 1)⟩,
    ⟨some 8, none, .ld false 1 (.s 7)⟩,
    ⟨some 9, none, .bsl true 1 [] []⟩,
    ⟨some 10, none, .fa 1 (.s 1)⟩,
    ⟨some 11, none, .ld false 1 (.s 10)⟩,
    ⟨some 12, none, .app 1 8 (.s 9) (.s 11)⟩,
    ⟨some 13, none, .build [.t (.str []), .nils] [(0, 1, (.s 8)), (1, 1, (.s 12))]⟩,
    ⟨none, none, .st 2 (.s 2) (.s 13)⟩] [[], [0], [], [], [3], [2, 4], [1, 5], [6, 5, 0, 1, 2, 3, 4, 5, 6]] [2]) .ret)
def c99_1 : ACode :=
  (.seq (.region false [⟨some 5, none, .ld true 2 (.s 1)⟩,
    ⟨some 6, none, .call 145 [(.s 5)]⟩,
    ⟨none, none, .st 2 (.s 2) (.s 6)⟩] [] [2]) .ret)
def c99_2 : ACode :=
  (.cond (.s 4) c99_1 .skip)
def c99_3 : ACode :=
  (.seq (.seq (.region false [⟨some 3, none, .ld true 2 (.s 1)⟩,
    ⟨some 4, none, .call 98 [(.s 3)]⟩] [] [1, 2, 4]) c99_2) c99_0)
def c99 : ACode :=
  (.seq (.region false [⟨some 1, none, .box 2 (.s 0)⟩,
    ⟨some 2, none, .alloc [.t (.str []), .nils]⟩] [] [1, 2]) c99_3)
def r99 : List ARes := [.cell 2 true 2]
def n99 : Nat := 14
/- 100 supergraph supergraphref05.Inner -/
def c100_0 : ACode :=
  (.seq (.region false [⟨some 8, none, .ld true 2 (.s 1)⟩,
    ⟨some 9, none, .call 99 [(.s 8)]⟩,
    ⟨some 10, none, .call 145 [(.s 9)]⟩,
    ⟨none, none, .st 2 (.s 2) (.s 10)⟩,
    ⟨some 3, none, .cst (.t (.bool true))⟩] [] [2, 3]) .ret)
def c100_1 : ACode :=
  (.seq (.region false [⟨some 7, none, .build [.t (.str []), .nils] []⟩,
    ⟨none, none, .st 2 (.s 2) (.s 7)⟩,
    ⟨some 3, none, .cst (.t (.bool false))⟩] [] [2, 3]) .ret)
def c100_2 : ACode :=
  (.cond (.s 6) c100_1 .skip)
def c100_3 : ACode :=
  (.seq (.seq (.region false [⟨some 4, none, .ld true 2 (.s 1)⟩,
    ⟨some 5, none, .call 146 [(.s 4)]⟩,
    ⟨some 6, none, .un .not (.s 5)⟩] [] [1, 2, 6]) c100_2) c100_0)
def c100 : ACode :=
  (.seq (.region false [⟨some 1, none, .box 2 (.s 0)⟩,
    ⟨some 2, none, .alloc [.t (.str []), .nils]⟩,
    ⟨some 3, none, .cst (.t (.bool false))⟩] [] [1, 2]) c100_3)
def r100 : List ARes := [.cell 2 true 2, .tmp 3]
def n100 : Nat := 11
/- 101 supergraph supergraphref05.Shape -/
/- 102 supergraph supergraphref10.whole -/
def c102_0 : ACode :=
  (.seq (.region false [⟨some 93, none, .mv (.s 8)⟩,
    ⟨some 4, none, .mv (.s 93)⟩] [] [4]) .ret)
def c102_1 : ACode :=
  (.region false [⟨some 87, none, .mv (.s 8)⟩,
    ⟨some 88, none, .fa 1 (.s 5)⟩,
    ⟨some 89, none, .ld false 1 (.s 88)⟩,
    ⟨some 90, none, .build [.t (.int .i64 0), .t (.str [])] [(0, 1, (.c (.t (.int .i64 5)))), (1, 1, (.s 89))]⟩,
    ⟨some 91, none, .bsl false 2 [[.int .i64 0, .str []]] [(0, (.s 90))]⟩,
    ⟨some 92, none, .app 2 24 (.s 87) (.s 91)⟩,
    ⟨some 8, none, .mv (.s 92)⟩] [] [8])
def c102_2 : ACode :=
  (.cond (.s 86) c102_1 .skip)
def c102_3 : ACode :=
  (.seq (.seq (.region false [⟨some 84, none, .ld true 1 (.s 2)⟩,
    ⟨some 85, none, .ld true 7 (.s 5)⟩,
    ⟨some 86, none, .call 151 [(.s 84), (.s 85)]⟩] [] [5, 8, 86]) c102_2) c102_0)
def c102_4 : ACode :=
  (.region false [⟨some 78, none, .mv (.s 8)⟩,
    ⟨some 79, none, .fa 1 (.s 5)⟩,
    ⟨some 80, none, .ld false 1 (.s 79)⟩,
    ⟨some 81, none, .build [.t (.int .i64 0), .t (.str [])] [(0, 1, (.c (.t (.int .i64 9)))), (1, 1, (.s 80))]⟩,
    ⟨some 82, none, .bsl false 2 [[.int .i64 0, .str []]] [(0, (.s 81))]⟩,
    ⟨some 83, none, .app 2 24 (.s 78) (.s 82)⟩,
    ⟨some 8, none, .mv (.s 83)⟩] [] [2, 5, 8])
def c102_5 : ACode :=
  (.cond (.s 77) c102_4 .skip)
def c102_6 : ACode :=
  (.seq (.seq (.region false [⟨some 62, none, .mv (.s 9)⟩,
    ⟨some 63, none, .mv (.s 62)⟩,
    ⟨some 64, some (63, true), .fa 0 (.s 5)⟩,
    ⟨some 65, some (63, true), .ld false 1 (.s 64)⟩,
    ⟨some 66, some (63, true), .bin .neq (.s 65) (.c (.t (.int .i64 1)))⟩,
    ⟨some 67, none, .pick (.s 63) (.s 66) (.c (.t (.bool false)))⟩,
    ⟨some 68, none, .mv (.s 67)⟩,
    ⟨some 69, some (68, false), .fa 0 (.s 5)⟩,
    ⟨some 70, some (68, false), .ld false 1 (.s 69)⟩,
    ⟨some 71, some (68, false), .bin .lss (.s 70) (.c (.t (.int .i64 1)))⟩,
    ⟨some 72, none, .pick (.s 68) (.c (.t (.bool true))) (.s 71)⟩,
    ⟨some 73, none, .mv (.s 72)⟩,
    ⟨some 74, some (73, false), .fa 0 (.s 5)⟩,
    ⟨some 75, some (73, false), .ld false 1 (.s 74)⟩,
    ⟨some 76, some (73, false), .bin .gtr (.s 75) (.c (.t (.int .i64 5)))⟩,
    ⟨some 77, none, .pick (.s 73) (.c (.t (.bool true))) (.s 76)⟩] [] [2, 5, 8, 77]) c102_5) c102_3)
def c102_7 : ACode :=
  (.seq (.region false [⟨some 49, none, .fa 1 (.s 5)⟩,
    ⟨some 50, none, .ld false 1 (.s 49)⟩,
    ⟨some 51, none, .bin .eql (.s 50) (.c (.t (.str [81, 117, 101, 114, 121])))⟩,
    ⟨some 52, none, .mv (.s 51)⟩,
    ⟨some 53, some (52, false), .fa 1 (.s 5)⟩,
    ⟨some 54, some (52, false), .ld false 1 (.s 53)⟩,
    ⟨some 55, some (52, false), .bin .eql (.s 54) (.c (.t (.str [77, 117, 116, 97, 116, 105, 111, 110])))⟩,
    ⟨some 56, none, .pick (.s 52) (.c (.t (.bool true))) (.s 55)⟩,
    ⟨some 57, none, .mv (.s 56)⟩,
    ⟨some 58, some (57, false), .fa 1 (.s 5)⟩,
    ⟨some 59, some (57, false), .ld false 1 (.s 58)⟩,
    ⟨some 60, some (57, false), .bin .eql (.s 59) (.c (.t (.str [83, 117, 98, 115, 99, 114, 105, 112, 116, 105, 111, 110])))⟩,
    ⟨some 61, none, .pick (.s 57) (.c (.t (.bool true))) (.s 60)⟩,
    ⟨some 9, none, .mv (.s 61)⟩] [] [2, 5, 8, 9]) c102_6)
def c102_8 : ACode :=
  (.region false [⟨some 43, none, .mv (.s 8)⟩,
    ⟨some 44, none, .fa 1 (.s 5)⟩,
    ⟨some 45, none, .ld false 1 (.s 44)⟩,
    ⟨some 46, none, .build [.t (.int .i64 0), .t (.str [])] [(0, 1, (.c (.t (.int .i64 8)))), (1, 1, (.s 45))]⟩,
    ⟨some 47, none, .bsl false 2 [[.int .i64 0, .str []]] [(0, (.s 46))]⟩,
    ⟨some 48, none, .app 2 24 (.s 43) (.s 47)⟩,
    ⟨some 8, none, .mv (.s 48)⟩] [] [2, 5, 8])
def c102_9 : ACode :=
  (.cond (.s 42) c102_8 .skip)
def c102_10 : ACode :=
  (.seq (.seq (.region false [⟨some 41, none, .ld true 7 (.s 5)⟩,
    ⟨some 42, none, .call 150 [(.s 41)]⟩] [] [2, 5, 8, 42]) c102_9) c102_7)
def c102_11 : ACode :=
  (.seq (.region false [⟨some 35, none, .fa 1 (.s 5)⟩,
    ⟨some 36, none, .ld false 1 (.s 35)⟩,
    ⟨some 37, none, .mv (.s 6)⟩,
    ⟨some 38, none, .fa 1 (.s 5)⟩,
    ⟨some 39, none, .ld false 1 (.s 38)⟩,
    ⟨some 40, none, .call 149 [(.s 36), (.c (.t (.bool false))), (.s 37), (.s 39)]⟩,
    ⟨some 8, none, .mv (.s 40)⟩] [] [2, 5, 8]) c102_10)
def c102_12 : ACode :=
  (.region false [⟨some 21, none, .mv (.s 7)⟩,
    ⟨some 22, none, .bin .add (.s 21) (.c (.t (.int .i64 1)))⟩,
    ⟨some 7, none, .mv (.s 22)⟩] [] [1, 2, 5, 6, 7])
def c102_13 : ACode :=
  (.region true [⟨some 23, none, .mv (.s 6)⟩,
    ⟨some 24, none, .mv (.s 23)⟩,
    ⟨some 25, some (24, false), .fa 0 (.s 2)⟩,
    ⟨some 26, some (24, false), .ld false 1 (.s 25)⟩,
    ⟨some 27, some (24, false), .mv (.s 7)⟩,
    ⟨some 28, some (24, false), .ia 7 (.s 26) (.s 27)⟩,
    ⟨some 29, some (24, false), .fa 1 (.s 28)⟩,
    ⟨some 30, some (24, false), .ld false 1 (.s 29)⟩,
    ⟨some 31, some (24, false), .fa 1 (.s 5)⟩,
    ⟨some 32, some (24, false), .ld false 1 (.s 31)⟩,
    ⟨some 33, some (24, false), .bin .eql (.s 30) (.s 32)⟩,
    ⟨some 34, none, .pick (.s 24) (.c (.t (.bool true))) (.s 33)⟩,
    ⟨some 6, none, .mv (.s 34)⟩] [[], [0], [1], [2, 1], [1], [3, 4, 1], [5, 1], [6, 1], [1], [8, 1], [7, 9, 1], [1, 10], [11, 1, 0, 1, 2, 3, 4, 5, 6, 7, 8, 9, 10, 11]] [1, 2, 5, 6, 7])
def c102_14 : ACode :=
  (.seq (.block 1 c102_13) c102_12)
def c102_15 : ACode :=
  (.cond (.s 20) .skip (.exit 0))
def c102_16 : ACode :=
  (.seq (.seq (.region false [⟨some 18, none, .mv (.s 7)⟩,
    ⟨some 19, none, .mv (.s 1)⟩,
    ⟨some 20, none, .bin .lss (.s 18) (.s 19)⟩] [] [1, 2, 5, 6, 7, 20]) c102_15) c102_14)
def c102_17 : ACode :=
  (.loop c102_16)
def c102_18 : ACode :=
  (.block 0 c102_17)
def c102_19 : ACode :=
  (.seq (.seq (.region false [⟨some 7, none, .cst (.t (.int .i64 0))⟩] [] [1, 2, 5, 6, 7]) c102_18) c102_11)
def c102_20 : ACode :=
  (.seq (.region false [⟨some 15, none, .fa 1 (.s 5)⟩,
    ⟨some 16, none, .ld false 1 (.s 15)⟩,
    ⟨some 17, none, .call 85 [(.s 16)]⟩,
    ⟨some 6, none, .mv (.s 17)⟩] [] [1, 2, 5, 6]) c102_19)
def c102_21 : ACode :=
  (.seq (.region false [⟨some 10, none, .fa 0 (.s 2)⟩,
    ⟨some 11, none, .ld false 1 (.s 10)⟩,
    ⟨some 12, none, .mv (.s 1)⟩,
    ⟨some 13, none, .ia 7 (.s 11) (.s 12)⟩,
    ⟨some 14, none, .ld true 7 (.s 13)⟩,
    ⟨some 5, none, .alloc [.t (.int .i64 0), .t (.str []), .nils, .nils, .nils, .nils, .nils]⟩,
    ⟨none, none, .st 7 (.s 5) (.s 14)⟩] [] [1, 2, 5]) c102_20)
def c102 : ACode :=
  (.seq (.region false [⟨some 2, none, .box 1 (.s 0)⟩,
    ⟨some 4, none, .cst (.nils)⟩] [] [1, 2]) c102_21)
def r102 : List ARes := [.tmp 4]
def n102 : Nat := 94
/- 103 supergraph supergraphref10.fields -/
def c103_0 : ACode :=
  (.seq (.region false [⟨some 94, none, .mv (.s 5)⟩,
    ⟨some 4, none, .mv (.s 94)⟩] [] [4]) .ret)
def c103_1 : ACode :=
  (.region false [⟨some 18, none, .mv (.s 6)⟩,
    ⟨some 19, none, .bin .add (.s 18) (.c (.t (.int .i64 1)))⟩,
    ⟨some 6, none, .mv (.s 19)⟩] [] [2, 3, 5, 6])
def c103_2 : ACode :=
  (.region false [⟨some 86, none, .mv (.s 5)⟩,
    ⟨some 87, none, .ld true 1 (.s 2)⟩,
    ⟨some 88, none, .fa 1 (.s 7)⟩,
    ⟨some 89, none, .ld false 1 (.s 88)⟩,
    ⟨some 90, none, .mv (.s 8)⟩,
    ⟨some 91, none, .bin .add (.s 90) (.c (.t (.str [40])))⟩,
    ⟨some 92, none, .call 105 [(.s 87), (.s 89), (.s 91), (.c (.t (.str [41])))]⟩,
    ⟨some 93, none, .app 2 24 (.s 86) (.s 92)⟩,
    ⟨some 5, none, .mv (.s 93)⟩] [] [2, 3, 5, 6])
def c103_3 : ACode :=
  (.region false [⟨some 63, none, .mv (.s 5)⟩,
    ⟨some 64, none, .mv (.s 8)⟩,
    ⟨some 65, none, .build [.t (.int .i64 0), .t (.str [])] [(0, 1, (.c (.t (.int .i64 8)))), (1, 1, (.s 64))]⟩,
    ⟨some 66, none, .bsl false 2 [[.int .i64 0, .str []]] [(0, (.s 65))]⟩,
    ⟨some 67, none, .app 2 24 (.s 63) (.s 66)⟩,
    ⟨some 5, none, .mv (.s 67)⟩] [] [2, 3, 5, 6, 7, 8])
def c103_4 : ACode :=
  (.region false [⟨some 81, none, .mv (.s 5)⟩,
    ⟨some 82, none, .mv (.s 8)⟩,
    ⟨some 83, none, .build [.t (.int .i64 0), .t (.str [])] [(0, 1, (.c (.t (.int .i64 10)))), (1, 1, (.s 82))]⟩,
    ⟨some 84, none, .bsl false 2 [[.int .i64 0, .str []]] [(0, (.s 83))]⟩,
    ⟨some 85, none, .app 2 24 (.s 81) (.s 84)⟩,
    ⟨some 5, none, .mv (.s 85)⟩] [] [2, 3, 5, 6, 7, 8])
def c103_5 : ACode :=
  (.cond (.s 80) c103_4 .skip)
def c103_6 : ACode :=
  (.seq (.region false [⟨some 68, none, .fa 2 (.s 7)⟩,
    ⟨some 69, none, .fa 0 (.s 68)⟩,
    ⟨some 70, none, .ld false 1 (.s 69)⟩,
    ⟨some 71, none, .call 85 [(.s 70)]⟩,
    ⟨some 72, none, .un .not (.s 71)⟩,
    ⟨some 73, none, .mv (.s 72)⟩,
    ⟨some 74, some (73, true), .mv (.s 12)⟩,
    ⟨some 75, none, .pick (.s 73) (.s 74) (.c (.t (.bool false)))⟩,
    ⟨some 76, none, .mv (.s 75)⟩,
    ⟨some 77, some (76, true), .fa 0 (.s 11)⟩,
    ⟨some 78, some (76, true), .ld false 1 (.s 77)⟩,
    ⟨some 79, some (76, true), .bin .eql (.s 78) (.c (.t (.int .i64 5)))⟩,
    ⟨some 80, none, .pick (.s 76) (.s 79) (.c (.t (.bool false)))⟩] [] [2, 3, 5, 6, 7, 8, 80]) c103_5)
def c103_7 : ACode :=
  (.cond (.s 62) c103_3 c103_6)
def c103_8 : ACode :=
  (.seq (.seq (.region false [⟨some 57, none, .ld true 1 (.s 2)⟩,
    ⟨some 58, none, .fa 2 (.s 7)⟩,
    ⟨some 59, none, .fa 0 (.s 58)⟩,
    ⟨some 60, none, .ld false 1 (.s 59)⟩,
    ⟨some 61, none, .call 152 [(.s 57), (.s 60)]⟩,
    ⟨some 62, none, .un .not (.s 61)⟩] [] [2, 3, 5, 6, 7, 8, 11, 12, 62]) c103_7) c103_2)
def c103_9 : ACode :=
  (.seq (.region false [⟨some 50, none, .ld true 1 (.s 2)⟩,
    ⟨some 51, none, .fa 2 (.s 7)⟩,
    ⟨some 52, none, .fa 0 (.s 51)⟩,
    ⟨some 53, none, .ld false 1 (.s 52)⟩,
    ⟨some 54, none, .call 57 [(.s 50), (.s 53)]⟩,
    ⟨some 49, none, .mv (.s 54)⟩,
    ⟨some 55, none, .ext (.s 49) 0⟩,
    ⟨some 56, none, .ext (.s 49) 1⟩,
    ⟨some 11, none, .alloc [.t (.int .i64 0), .t (.str []), .nils, .nils, .nils, .nils, .nils]⟩,
    ⟨none, none, .st 7 (.s 11) (.s 55)⟩,
    ⟨some 12, none, .mv (.s 56)⟩] [] [2, 3, 5, 6, 7, 8, 11, 12]) c103_8)
def c103_10 : ACode :=
  (.seq (.region false [⟨some 42, none, .mv (.s 5)⟩,
    ⟨some 43, none, .fa 0 (.s 7)⟩,
    ⟨some 44, none, .ld false 1 (.s 43)⟩,
    ⟨some 45, none, .mv (.s 10)⟩,
    ⟨some 46, none, .mv (.s 8)⟩,
    ⟨some 47, none, .call 149 [(.s 44), (.c (.t (.bool false))), (.s 45), (.s 46)]⟩,
    ⟨some 48, none, .app 2 24 (.s 42) (.s 47)⟩,
    ⟨some 5, none, .mv (.s 48)⟩] [] [2, 3, 5, 6, 7, 8]) c103_9)
def c103_11 : ACode :=
  (.seq (.region true [⟨some 32, none, .fa 4 (.s 3)⟩,
    ⟨some 33, none, .ld false 1 (.s 32)⟩,
    ⟨some 34, none, .mv (.s 6)⟩,
    ⟨some 35, none, .sll 5 (.s 33) none (some (.s 34))⟩,
    ⟨some 36, none, .build [.t (.int .i64 0), .t (.str []), .nils, .nils, .nils, .nils, .nils] [(4, 1, (.s 35))]⟩,
    ⟨some 37, none, .fa 0 (.s 7)⟩,
    ⟨some 38, none, .ld false 1 (.s 37)⟩,
    ⟨some 39, none, .call 58 [(.s 36), (.s 38)]⟩,
    ⟨some 31, none, .mv (.s 39)⟩,
    ⟨some 40, none, .ext (.s 31) 0⟩,
    ⟨some 41, none, .ext (.s 31) 1⟩,
    ⟨some 9, none, .alloc [.t (.str []), .nils, .t (.str []), .nils, .nils]⟩,
    ⟨none, none, .st 5 (.s 9) (.s 40)⟩,
    ⟨some 10, none, .mv (.s 41)⟩] [[], [0], [], [1, 2], [3], [], [5], [4, 6], [7], [8], [8], [], [11, 9, 7, 0, 1, 2, 3, 4, 5, 6, 7, 8, 9, 11], [10, 12, 0, 1, 2, 3, 4, 5, 6, 7, 8, 9, 10, 11, 12]] [2, 3, 5, 6, 7, 8, 10]) c103_10)
def c103_12 : ACode :=
  (.seq (.region false [⟨some 25, none, .fa 1 (.s 3)⟩,
    ⟨some 26, none, .ld false 1 (.s 25)⟩,
    ⟨some 27, none, .bin .add (.s 26) (.c (.t (.str [46])))⟩,
    ⟨some 28, none, .fa 0 (.s 7)⟩,
    ⟨some 29, none, .ld false 1 (.s 28)⟩,
    ⟨some 30, none, .bin .add (.s 27) (.s 29)⟩,
    ⟨some 8, none, .mv (.s 30)⟩] [] [2, 3, 5, 6, 7, 8]) c103_11)
def c103_13 : ACode :=
  (.seq (.region false [⟨some 20, none, .fa 4 (.s 3)⟩,
    ⟨some 21, none, .ld false 1 (.s 20)⟩,
    ⟨some 22, none, .mv (.s 6)⟩,
    ⟨some 23, none, .ia 5 (.s 21) (.s 22)⟩,
    ⟨some 24, none, .ld true 5 (.s 23)⟩,
    ⟨some 7, none, .alloc [.t (.str []), .nils, .t (.str []), .nils, .nils]⟩,
    ⟨none, none, .st 5 (.s 7) (.s 24)⟩] [] [2, 3, 5, 6, 7]) c103_12)
def c103_14 : ACode :=
  (.seq (.block 1 c103_13) c103_1)
def c103_15 : ACode :=
  (.cond (.s 17) .skip (.exit 0))
def c103_16 : ACode :=
  (.seq (.seq (.region false [⟨some 13, none, .mv (.s 6)⟩,
    ⟨some 14, none, .fa 4 (.s 3)⟩,
    ⟨some 15, none, .ld false 1 (.s 14)⟩,
    ⟨some 16, none, .len (.s 15)⟩,
    ⟨some 17, none, .bin .lss (.s 13) (.s 16)⟩] [] [2, 3, 5, 6, 17]) c103_15) c103_14)
def c103_17 : ACode :=
  (.loop c103_16)
def c103_18 : ACode :=
  (.block 0 c103_17)
def c103_19 : ACode :=
  (.seq (.seq (.region false [⟨some 6, none, .cst (.t (.int .i64 0))⟩] [] [2, 3, 5, 6]) c103_18) c103_0)
def c103_20 : ACode :=
  (.seq (.region false [⟨some 5, none, .cst (.nils)⟩] [] [2, 3, 5]) c103_19)
def c103 : ACode :=
  (.seq (.region false [⟨some 2, none, .box 1 (.s 0)⟩,
    ⟨some 3, none, .box 7 (.s 1)⟩,
    ⟨some 4, none, .cst (.nils)⟩] [] [2, 3]) c103_20)
def r103 : List ARes := [.tmp 4]
def n103 : Nat := 95
/- 104 supergraph supergraphref10.members -/
def c104_0 : ACode :=
  (.seq (.region false [⟨some 57, none, .mv (.s 3)⟩,
    ⟨some 2, none, .mv (.s 57)⟩] [] [2]) .ret)
def c104_1 : ACode :=
  (.region false [⟨some 13, none, .mv (.s 4)⟩,
    ⟨some 14, none, .bin .add (.s 13) (.c (.t (.int .i64 1)))⟩,
    ⟨some 4, none, .mv (.s 14)⟩] [] [1, 3, 4])
def c104_2 : ACode :=
  (.region false [⟨some 37, none, .mv (.s 3)⟩,
    ⟨some 38, none, .mv (.s 5)⟩,
    ⟨some 39, none, .mv (.s 5)⟩,
    ⟨some 40, none, .bin .eql (.s 39) (.c (.t (.str [116, 114, 117, 101])))⟩,
    ⟨some 41, none, .mv (.s 40)⟩,
    ⟨some 42, some (41, false), .mv (.s 5)⟩,
    ⟨some 43, some (41, false), .bin .eql (.s 42) (.c (.t (.str [102, 97, 108, 115, 101])))⟩,
    ⟨some 44, none, .pick (.s 41) (.c (.t (.bool true))) (.s 43)⟩,
    ⟨some 45, none, .mv (.s 44)⟩,
    ⟨some 46, some (45, false), .mv (.s 5)⟩,
    ⟨some 47, some (45, false), .bin .eql (.s 46) (.c (.t (.str [110, 117, 108, 108])))⟩,
    ⟨some 48, none, .pick (.s 45) (.c (.t (.bool true))) (.s 47)⟩,
    ⟨some 49, none, .mv (.s 6)⟩,
    ⟨some 50, none, .fa 1 (.s 1)⟩,
    ⟨some 51, none, .ld false 1 (.s 50)⟩,
    ⟨some 52, none, .bin .add (.s 51) (.c (.t (.str [46])))⟩,
    ⟨some 53, none, .mv (.s 5)⟩,
    ⟨some 54, none, .bin .add (.s 52) (.s 53)⟩,
    ⟨some 55, none, .call 149 [(.s 38), (.s 48), (.s 49), (.s 54)]⟩,
    ⟨some 56, none, .app 2 24 (.s 37) (.s 55)⟩,
    ⟨some 3, none, .mv (.s 56)⟩] [] [1, 3, 4])
def c104_3 : ACode :=
  (.region false [⟨some 24, none, .mv (.s 7)⟩,
    ⟨some 25, none, .bin .add (.s 24) (.c (.t (.int .i64 1)))⟩,
    ⟨some 7, none, .mv (.s 25)⟩] [] [1, 3, 4, 5, 6, 7])
def c104_4 : ACode :=
  (.region false [⟨some 26, none, .mv (.s 6)⟩,
    ⟨some 27, none, .mv (.s 26)⟩,
    ⟨some 28, some (27, false), .fa 5 (.s 1)⟩,
    ⟨some 29, some (27, false), .ld false 1 (.s 28)⟩,
    ⟨some 30, some (27, false), .mv (.s 7)⟩,
    ⟨some 31, some (27, false), .ia 2 (.s 29) (.s 30)⟩,
    ⟨some 32, some (27, false), .fa 0 (.s 31)⟩,
    ⟨some 33, some (27, false), .ld false 1 (.s 32)⟩,
    ⟨some 34, some (27, false), .mv (.s 5)⟩,
    ⟨some 35, some (27, false), .bin .eql (.s 33) (.s 34)⟩,
    ⟨some 36, none, .pick (.s 27) (.c (.t (.bool true))) (.s 35)⟩,
    ⟨some 6, none, .mv (.s 36)⟩] [] [1, 3, 4, 5, 6, 7])
def c104_5 : ACode :=
  (.seq (.block 3 c104_4) c104_3)
def c104_6 : ACode :=
  (.cond (.s 23) .skip (.exit 2))
def c104_7 : ACode :=
  (.seq (.seq (.region false [⟨some 21, none, .mv (.s 7)⟩,
    ⟨some 22, none, .mv (.s 4)⟩,
    ⟨some 23, none, .bin .lss (.s 21) (.s 22)⟩] [] [1, 3, 4, 5, 6, 7, 23]) c104_6) c104_5)
def c104_8 : ACode :=
  (.loop c104_7)
def c104_9 : ACode :=
  (.block 2 c104_8)
def c104_10 : ACode :=
  (.seq (.seq (.region false [⟨some 7, none, .cst (.t (.int .i64 0))⟩] [] [1, 3, 4, 5, 6, 7]) c104_9) c104_2)
def c104_11 : ACode :=
  (.seq (.region false [⟨some 6, none, .cst (.t (.bool false))⟩] [] [1, 3, 4, 5, 6]) c104_10)
def c104_12 : ACode :=
  (.seq (.region false [⟨some 15, none, .fa 5 (.s 1)⟩,
    ⟨some 16, none, .ld false 1 (.s 15)⟩,
    ⟨some 17, none, .mv (.s 4)⟩,
    ⟨some 18, none, .ia 2 (.s 16) (.s 17)⟩,
    ⟨some 19, none, .fa 0 (.s 18)⟩,
    ⟨some 20, none, .ld false 1 (.s 19)⟩,
    ⟨some 5, none, .mv (.s 20)⟩] [] [1, 3, 4, 5]) c104_11)
def c104_13 : ACode :=
  (.seq (.block 1 c104_12) c104_1)
def c104_14 : ACode :=
  (.cond (.s 12) .skip (.exit 0))
def c104_15 : ACode :=
  (.seq (.seq (.region false [⟨some 8, none, .mv (.s 4)⟩,
    ⟨some 9, none, .fa 5 (.s 1)⟩,
    ⟨some 10, none, .ld false 1 (.s 9)⟩,
    ⟨some 11, none, .len (.s 10)⟩,
    ⟨some 12, none, .bin .lss (.s 8) (.s 11)⟩] [] [1, 3, 4, 12]) c104_14) c104_13)
def c104_16 : ACode :=
  (.loop c104_15)
def c104_17 : ACode :=
  (.block 0 c104_16)
def c104_18 : ACode :=
  (.seq (.seq (.region false [⟨some 4, none, .cst (.t (.int .i64 0))⟩] [] [1, 3, 4]) c104_17) c104_0)
def c104_19 : ACode :=
  (.seq (.region false [⟨some 3, none, .cst (.nils)⟩] [] [1, 3]) c104_18)
def c104 : ACode :=
  (.seq (.region false [⟨some 1, none, .box 7 (.s 0)⟩,
    ⟨some 2, none, .cst (.nils)⟩] [] [1]) c104_19)
def r104 : List ARes := [.tmp 2]
def n104 : Nat := 58
/- 105 supergraph supergraphref10.inputs -/
def c105_0 : ACode :=
  (.seq (.region false [⟨some 79, none, .mv (.s 9)⟩,
    ⟨some 8, none, .mv (.s 79)⟩] [] [8]) .ret)
def c105_1 : ACode :=
  (.region false [⟨some 18, none, .mv (.s 10)⟩,
    ⟨some 19, none, .bin .add (.s 18) (.c (.t (.int .i64 1)))⟩,
    ⟨some 10, none, .mv (.s 19)⟩] [] [1, 2, 3, 4, 9, 10])
def c105_2 : ACode :=
  (.region false [⟨some 60, none, .mv (.s 9)⟩,
    ⟨some 61, none, .mv (.s 11)⟩,
    ⟨some 62, none, .build [.t (.int .i64 0), .t (.str [])] [(0, 1, (.c (.t (.int .i64 8)))), (1, 1, (.s 61))]⟩,
    ⟨some 63, none, .bsl false 2 [[.int .i64 0, .str []]] [(0, (.s 62))]⟩,
    ⟨some 64, none, .app 2 24 (.s 60) (.s 63)⟩,
    ⟨some 9, none, .mv (.s 64)⟩] [] [1, 2, 3, 4, 9, 10])
def c105_3 : ACode :=
  (.region false [⟨some 74, none, .mv (.s 9)⟩,
    ⟨some 75, none, .mv (.s 11)⟩,
    ⟨some 76, none, .build [.t (.int .i64 0), .t (.str [])] [(0, 1, (.c (.t (.int .i64 10)))), (1, 1, (.s 75))]⟩,
    ⟨some 77, none, .bsl false 2 [[.int .i64 0, .str []]] [(0, (.s 76))]⟩,
    ⟨some 78, none, .app 2 24 (.s 74) (.s 77)⟩,
    ⟨some 9, none, .mv (.s 78)⟩] [] [1, 2, 3, 4, 9, 10])
def c105_4 : ACode :=
  (.cond (.s 73) c105_3 .skip)
def c105_5 : ACode :=
  (.seq (.region true [⟨some 65, none, .ld true 1 (.s 4)⟩,
    ⟨some 66, none, .mv (.s 1)⟩,
    ⟨some 67, none, .mv (.s 10)⟩,
    ⟨some 68, none, .ia 10 (.s 66) (.s 67)⟩,
    ⟨some 69, none, .fa 1 (.s 68)⟩,
    ⟨some 70, none, .fa 0 (.s 69)⟩,
    ⟨some 71, none, .ld false 1 (.s 70)⟩,
    ⟨some 72, none, .call 154 [(.s 65), (.s 71)]⟩,
    ⟨some 73, none, .un .not (.s 72)⟩] [[], [], [], [1, 2], [3], [4], [5], [0, 6], [7]] [1, 2, 3, 4, 9, 10, 11, 73]) c105_4)
def c105_6 : ACode :=
  (.cond (.s 59) c105_2 c105_5)
def c105_7 : ACode :=
  (.seq (.region true [⟨some 51, none, .ld true 1 (.s 4)⟩,
    ⟨some 52, none, .mv (.s 1)⟩,
    ⟨some 53, none, .mv (.s 10)⟩,
    ⟨some 54, none, .ia 10 (.s 52) (.s 53)⟩,
    ⟨some 55, none, .fa 1 (.s 54)⟩,
    ⟨some 56, none, .fa 0 (.s 55)⟩,
    ⟨some 57, none, .ld false 1 (.s 56)⟩,
    ⟨some 58, none, .call 152 [(.s 51), (.s 57)]⟩,
    ⟨some 59, none, .un .not (.s 58)⟩] [[], [], [], [1, 2], [3], [4], [5], [0, 6], [7]] [1, 2, 3, 4, 9, 10, 11, 59]) c105_6)
def c105_8 : ACode :=
  (.seq (.region false [⟨some 41, none, .mv (.s 9)⟩,
    ⟨some 42, none, .mv (.s 1)⟩,
    ⟨some 43, none, .mv (.s 10)⟩,
    ⟨some 44, none, .ia 10 (.s 42) (.s 43)⟩,
    ⟨some 45, none, .fa 0 (.s 44)⟩,
    ⟨some 46, none, .ld false 1 (.s 45)⟩,
    ⟨some 47, none, .mv (.s 13)⟩,
    ⟨some 48, none, .mv (.s 11)⟩,
    ⟨some 49, none, .call 149 [(.s 46), (.c (.t (.bool false))), (.s 47), (.s 48)]⟩,
    ⟨some 50, none, .app 2 24 (.s 41) (.s 49)⟩,
    ⟨some 9, none, .mv (.s 50)⟩] [] [1, 2, 3, 4, 9, 10, 11]) c105_7)
def c105_9 : ACode :=
  (.seq (.region true [⟨some 30, none, .mv (.s 1)⟩,
    ⟨some 31, none, .mv (.s 10)⟩,
    ⟨some 32, none, .sll 10 (.s 30) none (some (.s 31))⟩,
    ⟨some 33, none, .mv (.s 1)⟩,
    ⟨some 34, none, .mv (.s 10)⟩,
    ⟨some 35, none, .ia 10 (.s 33) (.s 34)⟩,
    ⟨some 36, none, .fa 0 (.s 35)⟩,
    ⟨some 37, none, .ld false 1 (.s 36)⟩,
    ⟨some 38, none, .call 153 [(.s 32), (.s 37)]⟩,
    ⟨some 29, none, .mv (.s 38)⟩,
    ⟨some 39, none, .ext (.s 29) 0⟩,
    ⟨some 40, none, .ext (.s 29) 1⟩,
    ⟨some 12, none, .alloc [.t (.str []), .t (.str []), .nils, .t (.bool false), .t (.int .i64 0), .t (.int .i64 0), .t (.str []), .nils, .nils, .nils]⟩,
    ⟨none, none, .st 10 (.s 12) (.s 39)⟩,
    ⟨some 13, none, .mv (.s 40)⟩] [[], [], [0, 1], [], [], [3, 4], [5], [6], [2, 7], [8], [9], [9], [], [12, 10, 8, 0, 1, 2, 3, 4, 5, 6, 7, 8, 9, 10, 12], [11, 13, 0, 1, 2, 3, 4, 5, 6, 7, 8, 9, 10, 11, 12, 13]] [1, 2, 3, 4, 9, 10, 11, 13]) c105_8)
def c105_10 : ACode :=
  (.seq (.region false [⟨some 20, none, .mv (.s 2)⟩,
    ⟨some 21, none, .mv (.s 1)⟩,
    ⟨some 22, none, .mv (.s 10)⟩,
    ⟨some 23, none, .ia 10 (.s 21) (.s 22)⟩,
    ⟨some 24, none, .fa 0 (.s 23)⟩,
    ⟨some 25, none, .ld false 1 (.s 24)⟩,
    ⟨some 26, none, .bin .add (.s 20) (.s 25)⟩,
    ⟨some 27, none, .mv (.s 3)⟩,
    ⟨some 28, none, .bin .add (.s 26) (.s 27)⟩,
    ⟨some 11, none, .mv (.s 28)⟩] [] [1, 2, 3, 4, 9, 10, 11]) c105_9)
def c105_11 : ACode :=
  (.seq (.block 1 c105_10) c105_1)
def c105_12 : ACode :=
  (.cond (.s 17) .skip (.exit 0))
def c105_13 : ACode :=
  (.seq (.seq (.region false [⟨some 14, none, .mv (.s 10)⟩,
    ⟨some 15, none, .mv (.s 1)⟩,
    ⟨some 16, none, .len (.s 15)⟩,
    ⟨some 17, none, .bin .lss (.s 14) (.s 16)⟩] [] [1, 2, 3, 4, 9, 10, 17]) c105_12) c105_11)
def c105_14 : ACode :=
  (.loop c105_13)
def c105_15 : ACode :=
  (.block 0 c105_14)
def c105_16 : ACode :=
  (.seq (.seq (.region false [⟨some 10, none, .cst (.t (.int .i64 0))⟩] [] [1, 2, 3, 4, 9, 10]) c105_15) c105_0)
def c105_17 : ACode :=
  (.seq (.region false [⟨some 9, none, .cst (.nils)⟩] [] [1, 2, 3, 4, 9]) c105_16)
def c105 : ACode :=
  (.seq (.region false [⟨some 4, none, .box 1 (.s 0)⟩,
    ⟨some 8, none, .cst (.nils)⟩] [] [1, 2, 3, 4]) c105_17)
def r105 : List ARes := [.tmp 8]
def n105 : Nat := 80
/- 106 (*supergraph abstract.faces).object -/
/- 107 (*supergraph abstract.faces).named -/
/- 108 slices.ContainsFunc[[]supergraph api.Member,supergraph api.Member] -/
/- 109 supergraph abstract.Faces 1 -/
/- 110 (*supergraph abstract.faces).add -/
/- 126 slices.Index[[]string,string] -/
def c126_0 : ACode :=
  (.seq (.region false [⟨some 4, none, .cst (.t (.int .i64 (-1)))⟩] [] [4]) .ret)
def c126_1 : ACode :=
  (.region false [⟨some 18, none, .bin .add (.s 8) (.c (.t (.int .i64 1)))⟩,
    ⟨some 8, none, .mv (.s 18)⟩] [] [0, 1, 7, 8])
def c126_2 : ACode :=
  (.seq (.region false [⟨some 17, none, .mv (.s 5)⟩,
    ⟨some 4, none, .mv (.s 17)⟩] [] [4]) .ret)
def c126_3 : ACode :=
  (.cond (.s 16) c126_2 .skip)
def c126_4 : ACode :=
  (.seq (.region false [⟨some 11, none, .mv (.s 1)⟩,
    ⟨some 12, none, .mv (.s 0)⟩,
    ⟨some 13, none, .mv (.s 5)⟩,
    ⟨some 14, none, .ia 1 (.s 12) (.s 13)⟩,
    ⟨some 15, none, .ld false 1 (.s 14)⟩,
    ⟨some 16, none, .bin .eql (.s 11) (.s 15)⟩] [] [0, 1, 5, 7, 8, 16]) c126_3)
def c126_5 : ACode :=
  (.seq (.region false [⟨some 10, none, .mv (.s 8)⟩,
    ⟨some 5, none, .mv (.s 10)⟩] [] [0, 1, 5, 7, 8]) c126_4)
def c126_6 : ACode :=
  (.seq (.block 1 c126_5) c126_1)
def c126_7 : ACode :=
  (.seq (.cond (.s 9) .skip (.exit 0)) c126_6)
def c126_8 : ACode :=
  (.seq (.region false [⟨some 9, none, .bin .lss (.s 8) (.s 7)⟩] [] [0, 1, 7, 8, 9]) c126_7)
def c126_9 : ACode :=
  (.loop c126_8)
def c126_10 : ACode :=
  (.block 0 c126_9)
def c126_11 : ACode :=
  (.seq (.seq (.region false [⟨some 6, none, .mv (.s 0)⟩,
    ⟨some 7, none, .len (.s 6)⟩,
    ⟨some 8, none, .cst (.t (.int .i64 0))⟩] [] [0, 1, 7, 8]) c126_10) c126_0)
def c126 : ACode :=
  (.seq (.region false [⟨some 4, none, .cst (.t (.int .i64 0))⟩] [] [0, 1]) c126_11)
def r126 : List ARes := [.tmp 4]
def n126 : Nat := 19
/- 134 supergraph schema.FieldOf -/
def c134_0 : ACode :=
  (.seq (.region false [⟨some 21, none, .build [.t (.str []), .nils, .t (.str []), .nils, .nils] []⟩,
    ⟨none, none, .st 5 (.s 4) (.s 21)⟩,
    ⟨some 5, none, .cst (.t (.bool false))⟩] [] [4, 5]) .ret)
def c134_1 : ACode :=
  (.region false [⟨some 20, none, .bin .add (.s 11) (.c (.t (.int .i64 1)))⟩,
    ⟨some 11, none, .mv (.s 20)⟩] [] [1, 4, 9, 10, 11])
def c134_2 : ACode :=
  (.seq (.region false [⟨some 19, none, .ld true 5 (.s 7)⟩,
    ⟨none, none, .st 5 (.s 4) (.s 19)⟩,
    ⟨some 5, none, .cst (.t (.bool true))⟩] [] [4, 5]) .ret)
def c134_3 : ACode :=
  (.cond (.s 18) c134_2 .skip)
def c134_4 : ACode :=
  (.seq (.region false [⟨some 15, none, .fa 0 (.s 7)⟩,
    ⟨some 16, none, .ld false 1 (.s 15)⟩,
    ⟨some 17, none, .mv (.s 1)⟩,
    ⟨some 18, none, .bin .eql (.s 16) (.s 17)⟩] [] [1, 4, 7, 9, 10, 11, 18]) c134_3)
def c134_5 : ACode :=
  (.seq (.region false [⟨some 13, none, .ia 5 (.s 9) (.s 11)⟩,
    ⟨some 14, none, .ld true 5 (.s 13)⟩,
    ⟨some 7, none, .alloc [.t (.str []), .nils, .t (.str []), .nils, .nils]⟩,
    ⟨none, none, .st 5 (.s 7) (.s 14)⟩] [] [1, 4, 7, 9, 10, 11]) c134_4)
def c134_6 : ACode :=
  (.seq (.block 1 c134_5) c134_1)
def c134_7 : ACode :=
  (.seq (.cond (.s 12) .skip (.exit 0)) c134_6)
def c134_8 : ACode :=
  (.seq (.region false [⟨some 12, none, .bin .lss (.s 11) (.s 10)⟩] [] [1, 4, 9, 10, 11, 12]) c134_7)
def c134_9 : ACode :=
  (.loop c134_8)
def c134_10 : ACode :=
  (.block 0 c134_9)
def c134_11 : ACode :=
  (.seq (.seq (.region false [⟨some 8, none, .fa 4 (.s 2)⟩,
    ⟨some 9, none, .ld false 1 (.s 8)⟩,
    ⟨some 10, none, .len (.s 9)⟩,
    ⟨some 11, none, .cst (.t (.int .i64 0))⟩] [] [1, 4, 9, 10, 11]) c134_10) c134_0)
def c134 : ACode :=
  (.seq (.region false [⟨some 2, none, .box 7 (.s 0)⟩,
    ⟨some 4, none, .alloc [.t (.str []), .nils, .t (.str []), .nils, .nils]⟩,
    ⟨some 5, none, .cst (.t (.bool false))⟩] [] [1, 2, 4]) c134_11)
def r134 : List ARes := [.cell 4 true 5, .tmp 5]
def n134 : Nat := 22
/- 136 supergraph schema.Scalar -/
def c136_0 : ACode :=
  (.seq (.region false [⟨some 3, none, .mv (.s 0)⟩,
    ⟨some 4, none, .bin .eql (.s 3) (.c (.t (.str [73, 110, 116])))⟩,
    ⟨some 5, none, .mv (.s 4)⟩,
    ⟨some 6, some (5, false), .mv (.s 0)⟩,
    ⟨some 7, some (5, false), .bin .eql (.s 6) (.c (.t (.str [83, 116, 114, 105, 110, 103])))⟩,
    ⟨some 8, none, .pick (.s 5) (.c (.t (.bool true))) (.s 7)⟩,
    ⟨some 9, none, .mv (.s 8)⟩,
    ⟨some 10, some (9, false), .mv (.s 0)⟩,
    ⟨some 11, some (9, false), .bin .eql (.s 10) (.c (.t (.str [66, 111, 111, 108, 101, 97, 110])))⟩,
    ⟨some 12, none, .pick (.s 9) (.c (.t (.bool true))) (.s 11)⟩,
    ⟨some 13, none, .mv (.s 12)⟩,
    ⟨some 14, some (13, false), .mv (.s 0)⟩,
    ⟨some 15, some (13, false), .bin .eql (.s 14) (.c (.t (.str [73, 68])))⟩,
    ⟨some 16, none, .pick (.s 13) (.c (.t (.bool true))) (.s 15)⟩,
    ⟨some 2, none, .mv (.s 16)⟩] [] [2]) .ret)
def c136 : ACode :=
  (.seq (.region false [⟨some 2, none, .cst (.t (.bool false))⟩] [] [0]) c136_0)
def r136 : List ARes := [.tmp 2]
def n136 : Nat := 17
/- 140 slices.IndexFunc[[]string,string] -/
def c140_0 : ACode :=
  (.seq (.region false [⟨some 4, none, .cst (.t (.int .i64 (-1)))⟩] [] [4]) .ret)
def c140_1 : ACode :=
  (.region false [⟨some 18, none, .bin .add (.s 8) (.c (.t (.int .i64 1)))⟩,
    ⟨some 8, none, .mv (.s 18)⟩] [] [0, 1, 7, 8])
def c140_2 : ACode :=
  (.seq (.region false [⟨some 17, none, .mv (.s 5)⟩,
    ⟨some 4, none, .mv (.s 17)⟩] [] [4]) .ret)
def c140_3 : ACode :=
  (.cond (.s 16) c140_2 .skip)
def c140_4 : ACode :=
  (.seq (.region false [⟨some 11, none, .mv (.s 1)⟩,
    ⟨some 12, none, .mv (.s 0)⟩,
    ⟨some 13, none, .mv (.s 5)⟩,
    ⟨some 14, none, .ia 1 (.s 12) (.s 13)⟩,
    ⟨some 15, none, .ld false 1 (.s 14)⟩,
    ⟨some 16, none, .callv (.s 11) [(.s 15)]⟩] [] [0, 1, 5, 7, 8, 16]) c140_3)
def c140_5 : ACode :=
  (.seq (.region false [⟨some 10, none, .mv (.s 8)⟩,
    ⟨some 5, none, .mv (.s 10)⟩] [] [0, 1, 5, 7, 8]) c140_4)
def c140_6 : ACode :=
  (.seq (.block 1 c140_5) c140_1)
def c140_7 : ACode :=
  (.seq (.cond (.s 9) .skip (.exit 0)) c140_6)
def c140_8 : ACode :=
  (.seq (.region false [⟨some 9, none, .bin .lss (.s 8) (.s 7)⟩] [] [0, 1, 7, 8, 9]) c140_7)
def c140_9 : ACode :=
  (.loop c140_8)
def c140_10 : ACode :=
  (.block 0 c140_9)
def c140_11 : ACode :=
  (.seq (.seq (.region false [⟨some 6, none, .mv (.s 0)⟩,
    ⟨some 7, none, .len (.s 6)⟩,
    ⟨some 8, none, .cst (.t (.int .i64 0))⟩] [] [0, 1, 7, 8]) c140_10) c140_0)
def c140 : ACode :=
  (.seq (.region false [⟨some 4, none, .cst (.t (.int .i64 0))⟩] [] [0, 1]) c140_11)
def r140 : List ARes := [.tmp 4]
def n140 : Nat := 19
/- 141 supergraph supergraphref01.letter -/
def c141_0 : ACode :=
  (.seq (.region false [⟨some 3, none, .mv (.s 0)⟩,
    ⟨some 4, none, .bin .geq (.s 3) (.c (.t (.int .u8 65)))⟩,
    ⟨some 5, none, .mv (.s 4)⟩,
    ⟨some 6, some (5, true), .mv (.s 0)⟩,
    ⟨some 7, some (5, true), .bin .leq (.s 6) (.c (.t (.int .u8 90)))⟩,
    ⟨some 8, none, .pick (.s 5) (.s 7) (.c (.t (.bool false)))⟩,
    ⟨some 9, none, .mv (.s 8)⟩,
    ⟨some 10, some (9, false), .mv (.s 0)⟩,
    ⟨some 11, some (9, false), .bin .geq (.s 10) (.c (.t (.int .u8 97)))⟩,
    ⟨some 12, some (9, false), .mv (.s 11)⟩,
    ⟨some 13, some (12, true), .mv (.s 0)⟩,
    ⟨some 14, some (12, true), .bin .leq (.s 13) (.c (.t (.int .u8 122)))⟩,
    ⟨some 15, some (9, false), .pick (.s 12) (.s 14) (.c (.t (.bool false)))⟩,
    ⟨some 16, none, .pick (.s 9) (.c (.t (.bool true))) (.s 15)⟩,
    ⟨some 17, none, .mv (.s 16)⟩,
    ⟨some 18, some (17, false), .mv (.s 0)⟩,
    ⟨some 19, some (17, false), .bin .eql (.s 18) (.c (.t (.int .u8 95)))⟩,
    ⟨some 20, none, .pick (.s 17) (.c (.t (.bool true))) (.s 19)⟩,
    ⟨some 2, none, .mv (.s 20)⟩] [] [2]) .ret)
def c141 : ACode :=
  (.seq (.region false [⟨some 2, none, .cst (.t (.bool false))⟩] [] [0]) c141_0)
def r141 : List ARes := [.tmp 2]
def n141 : Nat := 21
/- 142 supergraph supergraphref01.digit -/
def c142_0 : ACode :=
  (.seq (.region false [⟨some 3, none, .mv (.s 0)⟩,
    ⟨some 4, none, .bin .geq (.s 3) (.c (.t (.int .u8 48)))⟩,
    ⟨some 5, none, .mv (.s 4)⟩,
    ⟨some 6, some (5, true), .mv (.s 0)⟩,
    ⟨some 7, some (5, true), .bin .leq (.s 6) (.c (.t (.int .u8 57)))⟩,
    ⟨some 8, none, .pick (.s 5) (.s 7) (.c (.t (.bool false)))⟩,
    ⟨some 2, none, .mv (.s 8)⟩] [] [2]) .ret)
def c142 : ACode :=
  (.seq (.region false [⟨some 2, none, .cst (.t (.bool false))⟩] [] [0]) c142_0)
def r142 : List ARes := [.tmp 2]
def n142 : Nat := 9
/- 143 slices.Clone[[]int,int] -/
/- 144 supergraph typeref.IsList -/
/- 145 supergraph supergraphref05.cut -/
def c145_0 : ACode :=
  (.seq (.region true [⟨some 3, none, .fa 0 (.s 1)⟩,
    ⟨some 4, none, .ld false 1 (.s 3)⟩,
    ⟨some 5, none, .bsl true 1 [] []⟩,
    ⟨some 6, none, .fa 1 (.s 1)⟩,
    ⟨some 7, none, .ld false 1 (.s 6)⟩,
    ⟨some 8, none, .sll 1 (.s 7) (some (.c (.t (.int .i64 1)))) none⟩,
    ⟨some 9, none, .app 1 8 (.s 5) (.s 8)⟩,
    ⟨some 10, none, .build [.t (.str []), .nils] [(0, 1, (.s 4)), (1, 1, (.s 9))]⟩,
    ⟨none, none, .st 2 (.s 2) (.s 10)⟩] [[], [0], [], [], [3], [4], [2, 5], [1, 6], [7, 6, 0, 1, 2, 3, 4, 5, 6, 7]] [2]) .ret)
def c145 : ACode :=
  (.seq (.region false [⟨some 1, none, .box 2 (.s 0)⟩,
    ⟨some 2, none, .alloc [.t (.str []), .nils]⟩] [] [1, 2]) c145_0)
def r145 : List ARes := [.cell 2 true 2]
def n145 : Nat := 11
/- 146 supergraph supergraphref05.IsList -/
def c146_0 : ACode :=
  (.seq (.region false [⟨some 6, none, .fa 1 (.s 3)⟩,
    ⟨some 7, none, .ld false 1 (.s 6)⟩,
    ⟨some 8, none, .len (.s 7)⟩,
    ⟨some 9, none, .bin .gtr (.s 8) (.c (.t (.int .i64 0)))⟩,
    ⟨some 10, none, .mv (.s 9)⟩,
    ⟨some 11, some (10, true), .fa 1 (.s 3)⟩,
    ⟨some 12, some (10, true), .ld false 1 (.s 11)⟩,
    ⟨some 13, some (10, true), .ia 1 (.s 12) (.c (.t (.int .i64 0)))⟩,
    ⟨some 14, some (10, true), .ld false 1 (.s 13)⟩,
    ⟨some 15, some (10, true), .bin .eql (.s 14) (.c (.t (.int .i64 2)))⟩,
    ⟨some 16, none, .pick (.s 10) (.s 15) (.c (.t (.bool false)))⟩,
    ⟨some 2, none, .mv (.s 16)⟩] [] [2]) .ret)
def c146_1 : ACode :=
  (.seq (.region false [⟨some 4, none, .ld true 2 (.s 1)⟩,
    ⟨some 5, none, .call 99 [(.s 4)]⟩,
    ⟨some 3, none, .alloc [.t (.str []), .nils]⟩,
    ⟨none, none, .st 2 (.s 3) (.s 5)⟩] [] [3]) c146_0)
def c146 : ACode :=
  (.seq (.region false [⟨some 1, none, .box 2 (.s 0)⟩,
    ⟨some 2, none, .cst (.t (.bool false))⟩] [] [1]) c146_1)
def r146 : List ARes := [.tmp 2]
def n146 : Nat := 17
/- 147 supergraph supergraphref05.same -/
def c147_0 : ACode :=
  (.seq (.region false [⟨some 4, none, .cst (.t (.bool true))⟩] [] [4]) .ret)
def c147_1 : ACode :=
  (.region false [⟨some 15, none, .mv (.s 5)⟩,
    ⟨some 16, none, .bin .add (.s 15) (.c (.t (.int .i64 1)))⟩,
    ⟨some 5, none, .mv (.s 16)⟩] [] [0, 1, 5])
def c147_2 : ACode :=
  (.seq (.region false [⟨some 4, none, .cst (.t (.bool false))⟩] [] [4]) .ret)
def c147_3 : ACode :=
  (.cond (.s 25) c147_2 .skip)
def c147_4 : ACode :=
  (.seq (.region true [⟨some 17, none, .mv (.s 0)⟩,
    ⟨some 18, none, .mv (.s 5)⟩,
    ⟨some 19, none, .ia 1 (.s 17) (.s 18)⟩,
    ⟨some 20, none, .ld false 1 (.s 19)⟩,
    ⟨some 21, none, .mv (.s 1)⟩,
    ⟨some 22, none, .mv (.s 5)⟩,
    ⟨some 23, none, .ia 1 (.s 21) (.s 22)⟩,
    ⟨some 24, none, .ld false 1 (.s 23)⟩,
    ⟨some 25, none, .bin .neq (.s 20) (.s 24)⟩] [[], [], [0, 1], [2], [], [], [4, 5], [6], [3, 7]] [0, 1, 5, 25]) c147_3)
def c147_5 : ACode :=
  (.seq (.block 1 c147_4) c147_1)
def c147_6 : ACode :=
  (.cond (.s 14) .skip (.exit 0))
def c147_7 : ACode :=
  (.seq (.seq (.region false [⟨some 11, none, .mv (.s 5)⟩,
    ⟨some 12, none, .mv (.s 0)⟩,
    ⟨some 13, none, .len (.s 12)⟩,
    ⟨some 14, none, .bin .lss (.s 11) (.s 13)⟩] [] [0, 1, 5, 14]) c147_6) c147_5)
def c147_8 : ACode :=
  (.loop c147_7)
def c147_9 : ACode :=
  (.block 0 c147_8)
def c147_10 : ACode :=
  (.seq (.seq (.region false [⟨some 5, none, .cst (.t (.int .i64 0))⟩] [] [0, 1, 5]) c147_9) c147_0)
def c147_11 : ACode :=
  (.seq (.region false [⟨some 4, none, .cst (.t (.bool false))⟩] [] [4]) .ret)
def c147_12 : ACode :=
  (.cond (.s 10) c147_11 .skip)
def c147_13 : ACode :=
  (.seq (.seq (.region false [⟨some 6, none, .mv (.s 0)⟩,
    ⟨some 7, none, .len (.s 6)⟩,
    ⟨some 8, none, .mv (.s 1)⟩,
    ⟨some 9, none, .len (.s 8)⟩,
    ⟨some 10, none, .bin .neq (.s 7) (.s 9)⟩] [] [0, 1, 10]) c147_12) c147_10)
def c147 : ACode :=
  (.seq (.region false [⟨some 4, none, .cst (.t (.bool false))⟩] [] [0, 1]) c147_13)
def r147 : List ARes := [.tmp 4]
def n147 : Nat := 26
/- 148 supergraph supergraphref05.lists -/
/- 149 supergraph supergraphref10.names -/
def c149_0 : ACode :=
  (.seq (.region false [⟨some 27, none, .mv (.s 9)⟩,
    ⟨some 8, none, .mv (.s 27)⟩] [] [8]) .ret)
def c149_1 : ACode :=
  (.region false [⟨some 22, none, .mv (.s 9)⟩,
    ⟨some 23, none, .mv (.s 3)⟩,
    ⟨some 24, none, .build [.t (.int .i64 0), .t (.str [])] [(0, 1, (.c (.t (.int .i64 7)))), (1, 1, (.s 23))]⟩,
    ⟨some 25, none, .bsl false 2 [[.int .i64 0, .str []]] [(0, (.s 24))]⟩,
    ⟨some 26, none, .app 2 24 (.s 22) (.s 25)⟩,
    ⟨some 9, none, .mv (.s 26)⟩] [] [9])
def c149_2 : ACode :=
  (.cond (.s 21) c149_1 .skip)
def c149_3 : ACode :=
  (.seq (.seq (.region false [⟨some 21, none, .mv (.s 2)⟩] [] [3, 9, 21]) c149_2) c149_0)
def c149_4 : ACode :=
  (.region false [⟨some 16, none, .mv (.s 9)⟩,
    ⟨some 17, none, .mv (.s 3)⟩,
    ⟨some 18, none, .build [.t (.int .i64 0), .t (.str [])] [(0, 1, (.c (.t (.int .i64 6)))), (1, 1, (.s 17))]⟩,
    ⟨some 19, none, .bsl false 2 [[.int .i64 0, .str []]] [(0, (.s 18))]⟩,
    ⟨some 20, none, .app 2 24 (.s 16) (.s 19)⟩,
    ⟨some 9, none, .mv (.s 20)⟩] [] [2, 3, 9])
def c149_5 : ACode :=
  (.cond (.s 15) c149_4 .skip)
def c149_6 : ACode :=
  (.seq (.seq (.region false [⟨some 10, none, .mv (.s 1)⟩,
    ⟨some 11, none, .mv (.s 10)⟩,
    ⟨some 12, some (11, false), .mv (.s 0)⟩,
    ⟨some 13, some (11, false), .call 169 [(.s 12)]⟩,
    ⟨some 14, some (11, false), .un .not (.s 13)⟩,
    ⟨some 15, none, .pick (.s 11) (.c (.t (.bool true))) (.s 14)⟩] [] [2, 3, 9, 15]) c149_5) c149_3)
def c149_7 : ACode :=
  (.seq (.region false [⟨some 9, none, .cst (.nils)⟩] [] [0, 1, 2, 3, 9]) c149_6)
def c149 : ACode :=
  (.seq (.region false [⟨some 8, none, .cst (.nils)⟩] [] [0, 1, 2, 3]) c149_7)
def r149 : List ARes := [.tmp 8]
def n149 : Nat := 28
/- 150 supergraph supergraphref10.empty -/
def c150_0 : ACode :=
  (.seq (.region false [⟨some 2, none, .cst (.t (.bool false))⟩] [] [2]) .ret)
def c150_1 : ACode :=
  (.seq (.region false [⟨some 8, none, .fa 4 (.s 1)⟩,
    ⟨some 9, none, .ld false 1 (.s 8)⟩,
    ⟨some 10, none, .len (.s 9)⟩,
    ⟨some 11, none, .bin .eql (.s 10) (.c (.t (.int .i64 0)))⟩,
    ⟨some 2, none, .mv (.s 11)⟩] [] [2]) .ret)
def c150_2 : ACode :=
  (.seq (.region false [⟨some 15, none, .fa 5 (.s 1)⟩,
    ⟨some 16, none, .ld false 1 (.s 15)⟩,
    ⟨some 17, none, .len (.s 16)⟩,
    ⟨some 18, none, .bin .eql (.s 17) (.c (.t (.int .i64 0)))⟩,
    ⟨some 2, none, .mv (.s 18)⟩] [] [2]) .ret)
def c150_3 : ACode :=
  (.seq (.region false [⟨some 21, none, .fa 6 (.s 1)⟩,
    ⟨some 22, none, .ld false 1 (.s 21)⟩,
    ⟨some 23, none, .len (.s 22)⟩,
    ⟨some 24, none, .bin .eql (.s 23) (.c (.t (.int .i64 0)))⟩,
    ⟨some 2, none, .mv (.s 24)⟩] [] [2]) .ret)
def c150_4 : ACode :=
  (.cond (.s 19) c150_3 .skip)
def c150_5 : ACode :=
  (.seq (.region false [⟨some 20, none, .bin .eql (.s 4) (.c (.t (.int .i64 5)))⟩,
    ⟨some 19, none, .mv (.s 20)⟩] [] [1, 19]) c150_4)
def c150_6 : ACode :=
  (.cond (.s 12) c150_2 c150_5)
def c150_7 : ACode :=
  (.region false [⟨some 14, none, .bin .eql (.s 4) (.c (.t (.int .i64 4)))⟩,
    ⟨some 12, none, .mv (.s 14)⟩] [] [1, 4, 12])
def c150_8 : ACode :=
  (.cond (.s 12) .skip c150_7)
def c150_9 : ACode :=
  (.seq (.seq (.region false [⟨some 13, none, .bin .eql (.s 4) (.c (.t (.int .i64 3)))⟩,
    ⟨some 12, none, .mv (.s 13)⟩] [] [1, 4, 12]) c150_8) c150_6)
def c150_10 : ACode :=
  (.cond (.s 5) c150_1 c150_9)
def c150_11 : ACode :=
  (.region false [⟨some 7, none, .bin .eql (.s 4) (.c (.t (.int .i64 2)))⟩,
    ⟨some 5, none, .mv (.s 7)⟩] [] [1, 4, 5])
def c150_12 : ACode :=
  (.cond (.s 5) .skip c150_11)
def c150_13 : ACode :=
  (.seq (.seq (.region false [⟨some 6, none, .bin .eql (.s 4) (.c (.t (.int .i64 1)))⟩,
    ⟨some 5, none, .mv (.s 6)⟩] [] [1, 4, 5]) c150_12) c150_10)
def c150_14 : ACode :=
  (.block 0 c150_13)
def c150_15 : ACode :=
  (.seq (.seq (.region false [⟨some 3, none, .fa 0 (.s 1)⟩,
    ⟨some 4, none, .ld false 1 (.s 3)⟩] [] [1, 4]) c150_14) c150_0)
def c150 : ACode :=
  (.seq (.region false [⟨some 1, none, .box 7 (.s 0)⟩,
    ⟨some 2, none, .cst (.t (.bool false))⟩] [] [1]) c150_15)
def r150 : List ARes := [.tmp 2]
def n150 : Nat := 25
/- 151 supergraph supergraphref10.circular -/
def c151_0 : ACode :=
  (.seq (.region false [⟨some 38, none, .mv (.s 5)⟩,
    ⟨some 39, none, .fa 1 (.s 3)⟩,
    ⟨some 40, none, .ld false 1 (.s 39)⟩,
    ⟨some 41, none, .call 171 [(.s 38), (.s 40)]⟩,
    ⟨some 4, none, .mv (.s 41)⟩] [] [4]) .ret)
def c151_1 : ACode :=
  (.region false [⟨some 21, none, .mv (.s 6)⟩,
    ⟨some 22, none, .bin .add (.s 21) (.c (.t (.int .i64 1)))⟩,
    ⟨some 6, none, .mv (.s 22)⟩] [] [2, 3, 5, 6])
def c151_2 : ACode :=
  (.region false [⟨some 32, none, .ld true 1 (.s 2)⟩,
    ⟨some 33, none, .ld true 7 (.s 7)⟩,
    ⟨some 34, none, .fa 1 (.s 3)⟩,
    ⟨some 35, none, .ld false 1 (.s 34)⟩,
    ⟨some 36, none, .mv (.s 5)⟩,
    ⟨some 37, none, .call 170 [(.s 32), (.s 33), (.s 35), (.s 36)]⟩,
    ⟨some 5, none, .mv (.s 37)⟩] [] [2, 3, 5, 6])
def c151_3 : ACode :=
  (.seq (.region true [⟨some 24, none, .ld true 1 (.s 2)⟩,
    ⟨some 25, none, .mv (.s 5)⟩,
    ⟨some 26, none, .mv (.s 6)⟩,
    ⟨some 27, none, .ia 1 (.s 25) (.s 26)⟩,
    ⟨some 28, none, .ld false 1 (.s 27)⟩,
    ⟨some 29, none, .call 57 [(.s 24), (.s 28)]⟩,
    ⟨some 23, none, .mv (.s 29)⟩,
    ⟨some 30, none, .ext (.s 23) 0⟩,
    ⟨some 31, none, .ext (.s 23) 1⟩,
    ⟨some 7, none, .alloc [.t (.int .i64 0), .t (.str []), .nils, .nils, .nils, .nils, .nils]⟩,
    ⟨none, none, .st 7 (.s 7) (.s 30)⟩,
    ⟨some 8, none, .mv (.s 31)⟩] [[], [], [], [1, 2], [3], [0, 4], [5], [6], [6], [], [9, 7, 5, 0, 1, 2, 3, 4, 5, 6, 7, 9], [8, 10, 0, 1, 2, 3, 4, 5, 6, 7, 8, 9, 10]] [2, 3, 5, 6, 7]) c151_2)
def c151_4 : ACode :=
  (.seq (.block 1 c151_3) c151_1)
def c151_5 : ACode :=
  (.cond (.s 20) .skip (.exit 0))
def c151_6 : ACode :=
  (.seq (.seq (.region false [⟨some 17, none, .mv (.s 6)⟩,
    ⟨some 18, none, .mv (.s 5)⟩,
    ⟨some 19, none, .len (.s 18)⟩,
    ⟨some 20, none, .bin .lss (.s 17) (.s 19)⟩] [] [2, 3, 5, 6, 20]) c151_5) c151_4)
def c151_7 : ACode :=
  (.loop c151_6)
def c151_8 : ACode :=
  (.block 0 c151_7)
def c151_9 : ACode :=
  (.seq (.seq (.region false [⟨some 6, none, .cst (.t (.int .i64 0))⟩] [] [2, 3, 5, 6]) c151_8) c151_0)
def c151_10 : ACode :=
  (.seq (.region false [⟨some 12, none, .ld true 1 (.s 2)⟩,
    ⟨some 13, none, .ld true 7 (.s 3)⟩,
    ⟨some 14, none, .fa 1 (.s 3)⟩,
    ⟨some 15, none, .ld false 1 (.s 14)⟩,
    ⟨some 16, none, .call 170 [(.s 12), (.s 13), (.s 15), (.c (.nils))]⟩,
    ⟨some 5, none, .mv (.s 16)⟩] [] [2, 3, 5]) c151_9)
def c151_11 : ACode :=
  (.seq (.region false [⟨some 4, none, .cst (.t (.bool false))⟩] [] [4]) .ret)
def c151_12 : ACode :=
  (.cond (.s 11) c151_11 .skip)
def c151_13 : ACode :=
  (.seq (.seq (.region false [⟨some 9, none, .fa 0 (.s 3)⟩,
    ⟨some 10, none, .ld false 1 (.s 9)⟩,
    ⟨some 11, none, .bin .neq (.s 10) (.c (.t (.int .i64 5)))⟩] [] [2, 3, 11]) c151_12) c151_10)
def c151 : ACode :=
  (.seq (.region false [⟨some 2, none, .box 1 (.s 0)⟩,
    ⟨some 3, none, .box 7 (.s 1)⟩,
    ⟨some 4, none, .cst (.t (.bool false))⟩] [] [2, 3]) c151_13)
def r151 : List ARes := [.tmp 4]
def n151 : Nat := 42
/- 152 supergraph supergraphref10.known -/
def c152_0 : ACode :=
  (.seq (.region false [⟨some 13, none, .mv (.s 1)⟩,
    ⟨some 14, none, .call 85 [(.s 13)]⟩,
    ⟨some 15, none, .mv (.s 14)⟩,
    ⟨some 16, some (15, false), .mv (.s 6)⟩,
    ⟨some 17, none, .pick (.s 15) (.c (.t (.bool true))) (.s 16)⟩,
    ⟨some 4, none, .mv (.s 17)⟩] [] [4]) .ret)
def c152_1 : ACode :=
  (.seq (.region false [⟨some 8, none, .ld true 1 (.s 2)⟩,
    ⟨some 9, none, .mv (.s 1)⟩,
    ⟨some 10, none, .call 57 [(.s 8), (.s 9)]⟩,
    ⟨some 7, none, .mv (.s 10)⟩,
    ⟨some 11, none, .ext (.s 7) 0⟩,
    ⟨some 12, none, .ext (.s 7) 1⟩,
    ⟨some 5, none, .alloc [.t (.int .i64 0), .t (.str []), .nils, .nils, .nils, .nils, .nils]⟩,
    ⟨none, none, .st 7 (.s 5) (.s 11)⟩,
    ⟨some 6, none, .mv (.s 12)⟩] [] [1, 6]) c152_0)
def c152 : ACode :=
  (.seq (.region false [⟨some 2, none, .box 1 (.s 0)⟩,
    ⟨some 4, none, .cst (.t (.bool false))⟩] [] [1, 2]) c152_1)
def r152 : List ARes := [.tmp 4]
def n152 : Nat := 18
/- 153 supergraph supergraphref10.InputOf -/
def c153_0 : ACode :=
  (.seq (.region false [⟨some 24, none, .build [.t (.str []), .t (.str []), .nils, .t (.bool false), .t (.int .i64 0), .t (.int .i64 0), .t (.str []), .nils, .nils, .nils] []⟩,
    ⟨none, none, .st 10 (.s 4) (.s 24)⟩,
    ⟨some 5, none, .cst (.t (.bool false))⟩] [] [4, 5]) .ret)
def c153_1 : ACode :=
  (.region false [⟨some 11, none, .mv (.s 6)⟩,
    ⟨some 12, none, .bin .add (.s 11) (.c (.t (.int .i64 1)))⟩,
    ⟨some 6, none, .mv (.s 12)⟩] [] [0, 1, 4, 6])
def c153_2 : ACode :=
  (.seq (.region false [⟨some 20, none, .mv (.s 0)⟩,
    ⟨some 21, none, .mv (.s 6)⟩,
    ⟨some 22, none, .ia 10 (.s 20) (.s 21)⟩,
    ⟨some 23, none, .ld true 10 (.s 22)⟩,
    ⟨none, none, .st 10 (.s 4) (.s 23)⟩,
    ⟨some 5, none, .cst (.t (.bool true))⟩] [] [4, 5]) .ret)
def c153_3 : ACode :=
  (.cond (.s 19) c153_2 .skip)
def c153_4 : ACode :=
  (.seq (.region false [⟨some 13, none, .mv (.s 0)⟩,
    ⟨some 14, none, .mv (.s 6)⟩,
    ⟨some 15, none, .ia 10 (.s 13) (.s 14)⟩,
    ⟨some 16, none, .fa 0 (.s 15)⟩,
    ⟨some 17, none, .ld false 1 (.s 16)⟩,
    ⟨some 18, none, .mv (.s 1)⟩,
    ⟨some 19, none, .bin .eql (.s 17) (.s 18)⟩] [] [0, 1, 4, 6, 19]) c153_3)
def c153_5 : ACode :=
  (.seq (.block 1 c153_4) c153_1)
def c153_6 : ACode :=
  (.cond (.s 10) .skip (.exit 0))
def c153_7 : ACode :=
  (.seq (.seq (.region false [⟨some 7, none, .mv (.s 6)⟩,
    ⟨some 8, none, .mv (.s 0)⟩,
    ⟨some 9, none, .len (.s 8)⟩,
    ⟨some 10, none, .bin .lss (.s 7) (.s 9)⟩] [] [0, 1, 4, 6, 10]) c153_6) c153_5)
def c153_8 : ACode :=
  (.loop c153_7)
def c153_9 : ACode :=
  (.block 0 c153_8)
def c153_10 : ACode :=
  (.seq (.seq (.region false [⟨some 6, none, .cst (.t (.int .i64 0))⟩] [] [0, 1, 4, 6]) c153_9) c153_0)
def c153 : ACode :=
  (.seq (.region false [⟨some 4, none, .alloc [.t (.str []), .t (.str []), .nils, .t (.bool false), .t (.int .i64 0), .t (.int .i64 0), .t (.str []), .nils, .nils, .nils]⟩,
    ⟨some 5, none, .cst (.t (.bool false))⟩] [] [0, 1, 4]) c153_10)
def r153 : List ARes := [.cell 4 true 10, .tmp 5]
def n153 : Nat := 25
/- 154 supergraph supergraphref10.IsInput -/
def c154_0 : ACode :=
  (.seq (.region false [⟨some 13, none, .ld true 1 (.s 2)⟩,
    ⟨some 14, none, .mv (.s 1)⟩,
    ⟨some 15, none, .call 172 [(.s 13), (.s 14)]⟩,
    ⟨some 16, none, .mv (.s 15)⟩,
    ⟨some 17, some (16, false), .mv (.s 6)⟩,
    ⟨some 18, some (16, false), .mv (.s 17)⟩,
    ⟨some 19, some (18, true), .fa 0 (.s 5)⟩,
    ⟨some 20, some (18, true), .ld false 1 (.s 19)⟩,
    ⟨some 21, some (18, true), .bin .eql (.s 20) (.c (.t (.int .i64 5)))⟩,
    ⟨some 22, some (16, false), .pick (.s 18) (.s 21) (.c (.t (.bool false)))⟩,
    ⟨some 23, none, .pick (.s 16) (.c (.t (.bool true))) (.s 22)⟩,
    ⟨some 4, none, .mv (.s 23)⟩] [] [4]) .ret)
def c154_1 : ACode :=
  (.seq (.region false [⟨some 8, none, .ld true 1 (.s 2)⟩,
    ⟨some 9, none, .mv (.s 1)⟩,
    ⟨some 10, none, .call 57 [(.s 8), (.s 9)]⟩,
    ⟨some 7, none, .mv (.s 10)⟩,
    ⟨some 11, none, .ext (.s 7) 0⟩,
    ⟨some 12, none, .ext (.s 7) 1⟩,
    ⟨some 5, none, .alloc [.t (.int .i64 0), .t (.str []), .nils, .nils, .nils, .nils, .nils]⟩,
    ⟨none, none, .st 7 (.s 5) (.s 11)⟩,
    ⟨some 6, none, .mv (.s 12)⟩] [] [1, 2, 5, 6]) c154_0)
def c154 : ACode :=
  (.seq (.region false [⟨some 2, none, .box 1 (.s 0)⟩,
    ⟨some 4, none, .cst (.t (.bool false))⟩] [] [1, 2]) c154_1)
def r154 : List ARes := [.tmp 4]
def n154 : Nat := 24
/- 155 (*supergraph abstract.faces).face -/
/- 156 slices.IndexFunc[[]supergraph api.Member,supergraph api.Member] -/
/- 169 supergraph supergraphref10.allowed -/
def c169_0 : ACode :=
  (.seq (.region false [⟨some 3, none, .mv (.s 0)⟩,
    ⟨some 4, none, .call 94 [(.s 3)]⟩,
    ⟨some 5, none, .mv (.s 4)⟩,
    ⟨some 6, some (5, true), .mv (.s 0)⟩,
    ⟨some 7, some (5, true), .call 184 [(.s 6)]⟩,
    ⟨some 8, some (5, true), .un .not (.s 7)⟩,
    ⟨some 9, none, .pick (.s 5) (.s 8) (.c (.t (.bool false)))⟩,
    ⟨some 2, none, .mv (.s 9)⟩] [] [2]) .ret)
def c169 : ACode :=
  (.seq (.region false [⟨some 2, none, .cst (.t (.bool false))⟩] [] [0]) c169_0)
def r169 : List ARes := [.tmp 2]
def n169 : Nat := 10
/- 170 supergraph supergraphref10.next -/
def c170_0 : ACode :=
  (.seq (.region false [⟨some 61, none, .mv (.s 3)⟩,
    ⟨some 8, none, .mv (.s 61)⟩] [] [8]) .ret)
def c170_1 : ACode :=
  (.region false [⟨some 18, none, .mv (.s 9)⟩,
    ⟨some 19, none, .bin .add (.s 18) (.c (.t (.int .i64 1)))⟩,
    ⟨some 9, none, .mv (.s 19)⟩] [] [2, 3, 4, 5, 9])
def c170_2 : ACode :=
  (.region false [⟨some 56, none, .mv (.s 3)⟩,
    ⟨some 57, none, .fa 0 (.s 10)⟩,
    ⟨some 58, none, .ld false 1 (.s 57)⟩,
    ⟨some 59, none, .bsl false 1 [[.str []]] [(0, (.s 58))]⟩,
    ⟨some 60, none, .app 1 16 (.s 56) (.s 59)⟩,
    ⟨some 3, none, .mv (.s 60)⟩] [] [2, 3, 4, 5, 9])
def c170_3 : ACode :=
  (.cond (.s 55) c170_2 .skip)
def c170_4 : ACode :=
  (.seq (.region false [⟨some 33, none, .ld true 2 (.s 10)⟩,
    ⟨some 34, none, .call 185 [(.s 33)]⟩,
    ⟨some 35, none, .mv (.s 34)⟩,
    ⟨some 36, some (35, true), .fa 0 (.s 10)⟩,
    ⟨some 37, some (35, true), .ld false 1 (.s 36)⟩,
    ⟨some 38, some (35, true), .mv (.s 2)⟩,
    ⟨some 39, some (35, true), .bin .eql (.s 37) (.s 38)⟩,
    ⟨some 40, some (35, true), .mv (.s 39)⟩,
    ⟨some 41, some (40, false), .mv (.s 12)⟩,
    ⟨some 42, some (40, false), .mv (.s 41)⟩,
    ⟨some 43, some (42, true), .fa 0 (.s 11)⟩,
    ⟨some 44, some (42, true), .ld false 1 (.s 43)⟩,
    ⟨some 45, some (42, true), .bin .eql (.s 44) (.c (.t (.int .i64 5)))⟩,
    ⟨some 46, some (40, false), .pick (.s 42) (.s 45) (.c (.t (.bool false)))⟩,
    ⟨some 47, some (35, true), .pick (.s 40) (.c (.t (.bool true))) (.s 46)⟩,
    ⟨some 48, none, .pick (.s 35) (.s 47) (.c (.t (.bool false)))⟩,
    ⟨some 49, none, .mv (.s 48)⟩,
    ⟨some 50, some (49, true), .mv (.s 3)⟩,
    ⟨some 51, some (49, true), .fa 0 (.s 10)⟩,
    ⟨some 52, some (49, true), .ld false 1 (.s 51)⟩,
    ⟨some 53, some (49, true), .call 171 [(.s 50), (.s 52)]⟩,
    ⟨some 54, some (49, true), .un .not (.s 53)⟩,
    ⟨some 55, none, .pick (.s 49) (.s 54) (.c (.t (.bool false)))⟩] [] [2, 3, 4, 5, 9, 10, 55]) c170_3)
def c170_5 : ACode :=
  (.seq (.region false [⟨some 27, none, .ld true 1 (.s 4)⟩,
    ⟨some 28, none, .fa 0 (.s 10)⟩,
    ⟨some 29, none, .ld false 1 (.s 28)⟩,
    ⟨some 30, none, .call 57 [(.s 27), (.s 29)]⟩,
    ⟨some 26, none, .mv (.s 30)⟩,
    ⟨some 31, none, .ext (.s 26) 0⟩,
    ⟨some 32, none, .ext (.s 26) 1⟩,
    ⟨some 11, none, .alloc [.t (.int .i64 0), .t (.str []), .nils, .nils, .nils, .nils, .nils]⟩,
    ⟨none, none, .st 7 (.s 11) (.s 31)⟩,
    ⟨some 12, none, .mv (.s 32)⟩] [] [2, 3, 4, 5, 9, 10, 11, 12]) c170_4)
def c170_6 : ACode :=
  (.seq (.region false [⟨some 20, none, .fa 6 (.s 5)⟩,
    ⟨some 21, none, .ld false 1 (.s 20)⟩,
    ⟨some 22, none, .mv (.s 9)⟩,
    ⟨some 23, none, .ia 10 (.s 21) (.s 22)⟩,
    ⟨some 24, none, .fa 1 (.s 23)⟩,
    ⟨some 25, none, .ld true 2 (.s 24)⟩,
    ⟨some 10, none, .alloc [.t (.str []), .nils]⟩,
    ⟨none, none, .st 2 (.s 10) (.s 25)⟩] [] [2, 3, 4, 5, 9, 10]) c170_5)
def c170_7 : ACode :=
  (.seq (.block 1 c170_6) c170_1)
def c170_8 : ACode :=
  (.cond (.s 17) .skip (.exit 0))
def c170_9 : ACode :=
  (.seq (.seq (.region false [⟨some 13, none, .mv (.s 9)⟩,
    ⟨some 14, none, .fa 6 (.s 5)⟩,
    ⟨some 15, none, .ld false 1 (.s 14)⟩,
    ⟨some 16, none, .len (.s 15)⟩,
    ⟨some 17, none, .bin .lss (.s 13) (.s 16)⟩] [] [2, 3, 4, 5, 9, 17]) c170_8) c170_7)
def c170_10 : ACode :=
  (.loop c170_9)
def c170_11 : ACode :=
  (.block 0 c170_10)
def c170_12 : ACode :=
  (.seq (.seq (.region false [⟨some 9, none, .cst (.t (.int .i64 0))⟩] [] [2, 3, 4, 5, 9]) c170_11) c170_0)
def c170 : ACode :=
  (.seq (.region false [⟨some 4, none, .box 1 (.s 0)⟩,
    ⟨some 5, none, .box 7 (.s 1)⟩,
    ⟨some 8, none, .cst (.nils)⟩] [] [2, 3, 4, 5]) c170_12)
def r170 : List ARes := [.tmp 8]
def n170 : Nat := 62
/- 171 supergraph supergraphref10.has -/
def c171_0 : ACode :=
  (.seq (.region false [⟨some 4, none, .cst (.t (.bool false))⟩] [] [4]) .ret)
def c171_1 : ACode :=
  (.region false [⟨some 10, none, .mv (.s 5)⟩,
    ⟨some 11, none, .bin .add (.s 10) (.c (.t (.int .i64 1)))⟩,
    ⟨some 5, none, .mv (.s 11)⟩] [] [0, 1, 5])
def c171_2 : ACode :=
  (.seq (.region false [⟨some 4, none, .cst (.t (.bool true))⟩] [] [4]) .ret)
def c171_3 : ACode :=
  (.cond (.s 17) c171_2 .skip)
def c171_4 : ACode :=
  (.seq (.region false [⟨some 12, none, .mv (.s 0)⟩,
    ⟨some 13, none, .mv (.s 5)⟩,
    ⟨some 14, none, .ia 1 (.s 12) (.s 13)⟩,
    ⟨some 15, none, .ld false 1 (.s 14)⟩,
    ⟨some 16, none, .mv (.s 1)⟩,
    ⟨some 17, none, .bin .eql (.s 15) (.s 16)⟩] [] [0, 1, 5, 17]) c171_3)
def c171_5 : ACode :=
  (.seq (.block 1 c171_4) c171_1)
def c171_6 : ACode :=
  (.cond (.s 9) .skip (.exit 0))
def c171_7 : ACode :=
  (.seq (.seq (.region false [⟨some 6, none, .mv (.s 5)⟩,
    ⟨some 7, none, .mv (.s 0)⟩,
    ⟨some 8, none, .len (.s 7)⟩,
    ⟨some 9, none, .bin .lss (.s 6) (.s 8)⟩] [] [0, 1, 5, 9]) c171_6) c171_5)
def c171_8 : ACode :=
  (.loop c171_7)
def c171_9 : ACode :=
  (.block 0 c171_8)
def c171_10 : ACode :=
  (.seq (.seq (.region false [⟨some 5, none, .cst (.t (.int .i64 0))⟩] [] [0, 1, 5]) c171_9) c171_0)
def c171 : ACode :=
  (.seq (.region false [⟨some 4, none, .cst (.t (.bool false))⟩] [] [0, 1]) c171_10)
def r171 : List ARes := [.tmp 4]
def n171 : Nat := 18
/- 172 supergraph supergraphref10.Leaf -/
def c172_0 : ACode :=
  (.seq (.region false [⟨some 13, none, .mv (.s 1)⟩,
    ⟨some 14, none, .call 85 [(.s 13)]⟩,
    ⟨some 15, none, .mv (.s 14)⟩,
    ⟨some 16, some (15, false), .mv (.s 6)⟩,
    ⟨some 17, some (15, false), .mv (.s 16)⟩,
    ⟨some 18, some (17, true), .fa 0 (.s 5)⟩,
    ⟨some 19, some (17, true), .ld false 1 (.s 18)⟩,
    ⟨some 20, some (17, true), .bin .eql (.s 19) (.c (.t (.int .i64 4)))⟩,
    ⟨some 21, some (15, false), .pick (.s 17) (.s 20) (.c (.t (.bool false)))⟩,
    ⟨some 22, none, .pick (.s 15) (.c (.t (.bool true))) (.s 21)⟩,
    ⟨some 4, none, .mv (.s 22)⟩] [] [4]) .ret)
def c172_1 : ACode :=
  (.seq (.region false [⟨some 8, none, .ld true 1 (.s 2)⟩,
    ⟨some 9, none, .mv (.s 1)⟩,
    ⟨some 10, none, .call 57 [(.s 8), (.s 9)]⟩,
    ⟨some 7, none, .mv (.s 10)⟩,
    ⟨some 11, none, .ext (.s 7) 0⟩,
    ⟨some 12, none, .ext (.s 7) 1⟩,
    ⟨some 5, none, .alloc [.t (.int .i64 0), .t (.str []), .nils, .nils, .nils, .nils, .nils]⟩,
    ⟨none, none, .st 7 (.s 5) (.s 11)⟩,
    ⟨some 6, none, .mv (.s 12)⟩] [] [1, 5, 6]) c172_0)
def c172 : ACode :=
  (.seq (.region false [⟨some 2, none, .box 1 (.s 0)⟩,
    ⟨some 4, none, .cst (.t (.bool false))⟩] [] [1, 2]) c172_1)
def r172 : List ARes := [.tmp 4]
def n172 : Nat := 23
/- 173 supergraph schema.InputOf -/
/- 174 supergraph typeref.Same -/
/- 184 supergraph supergraphref01.Reserved -/
def c184_0 : ACode :=
  (.seq (.region false [⟨some 3, none, .mv (.s 0)⟩,
    ⟨some 4, none, .lens (.s 3)⟩,
    ⟨some 5, none, .bin .geq (.s 4) (.c (.t (.int .i64 2)))⟩,
    ⟨some 6, none, .mv (.s 5)⟩,
    ⟨some 7, some (6, true), .mv (.s 0)⟩,
    ⟨some 8, some (6, true), .ixs (.s 7) (.c (.t (.int .i64 0)))⟩,
    ⟨some 9, some (6, true), .bin .eql (.s 8) (.c (.t (.int .u8 95)))⟩,
    ⟨some 10, none, .pick (.s 6) (.s 9) (.c (.t (.bool false)))⟩,
    ⟨some 11, none, .mv (.s 10)⟩,
    ⟨some 12, some (11, true), .mv (.s 0)⟩,
    ⟨some 13, some (11, true), .ixs (.s 12) (.c (.t (.int .i64 1)))⟩,
    ⟨some 14, some (11, true), .bin .eql (.s 13) (.c (.t (.int .u8 95)))⟩,
    ⟨some 15, none, .pick (.s 11) (.s 14) (.c (.t (.bool false)))⟩,
    ⟨some 2, none, .mv (.s 15)⟩] [] [2]) .ret)
def c184 : ACode :=
  (.seq (.region false [⟨some 2, none, .cst (.t (.bool false))⟩] [] [0]) c184_0)
def r184 : List ARes := [.tmp 2]
def n184 : Nat := 16
/- 185 supergraph supergraphref10.direct -/
def c185_0 : ACode :=
  (.seq (.region false [⟨some 3, none, .fa 1 (.s 1)⟩,
    ⟨some 4, none, .ld false 1 (.s 3)⟩,
    ⟨some 5, none, .len (.s 4)⟩,
    ⟨some 6, none, .bin .eql (.s 5) (.c (.t (.int .i64 1)))⟩,
    ⟨some 7, none, .mv (.s 6)⟩,
    ⟨some 8, some (7, true), .fa 1 (.s 1)⟩,
    ⟨some 9, some (7, true), .ld false 1 (.s 8)⟩,
    ⟨some 10, some (7, true), .ia 1 (.s 9) (.c (.t (.int .i64 0)))⟩,
    ⟨some 11, some (7, true), .ld false 1 (.s 10)⟩,
    ⟨some 12, some (7, true), .bin .eql (.s 11) (.c (.t (.int .i64 1)))⟩,
    ⟨some 13, none, .pick (.s 7) (.s 12) (.c (.t (.bool false)))⟩,
    ⟨some 2, none, .mv (.s 13)⟩] [] [2]) .ret)
def c185 : ACode :=
  (.seq (.region false [⟨some 1, none, .box 2 (.s 0)⟩,
    ⟨some 2, none, .cst (.t (.bool false))⟩] [] [1]) c185_0)
def r185 : List ARes := [.tmp 2]
def n185 : Nat := 14
/- 186 slices.Equal[[]int,int] -/
end Go.GB.C11

