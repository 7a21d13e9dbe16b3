/-
  YtnmhhhnkjnhafaaGreatP3: lemmas. No conditions.
-/
import Derived.Test.YtnmhhhnkjnhafaaGreatP2
set_option linter.all false
set_option maxRecDepth 100000
set_option maxHeartbeats 16000000
/-
  C15Code: the code of chapter 15's functions as abstract code (printed by program).
-/
namespace Go.GB.K
abbrev m (d x : Nat) : AO := ⟨some d, none, .mv (.s x)⟩
abbrev f (d k x : Nat) : AO := ⟨some d, none, .fa k (.s x)⟩
abbrev l (d x : Nat) : AO := ⟨some d, none, .ld false 1 (.s x)⟩
abbrev jL (d n x : Nat) : AO := ⟨some d, none, .ld true n (.s x)⟩
abbrev n (d x : Nat) : AO := ⟨some d, none, .z2N (.s x)⟩
abbrev i (d z x y : Nat) : AO := ⟨some d, none, .ia z (.s x) (.s y)⟩
abbrev e (d x : Nat) : AO := ⟨some d, none, .len (.s x)⟩
abbrev x (d s k : Nat) : AO := ⟨some d, none, .ext (.s s) k⟩
abbrev o (d : Nat) (p : AOp) : AO := ⟨some d, none, p⟩
abbrev jO (p : AOp) : AO := ⟨none, none, p⟩
abbrev b (d : Nat) (p : BinOp) (x y : Nat) : AO := ⟨some d, none, .bin p (.s x) (.s y)⟩
abbrev jB (d : Nat) (p : BinOp) (x : Nat) (y : Int) : AO := ⟨some d, none, .bin p (.s x) (.c (.t (.int .i64 y)))⟩
abbrev p (d c a : Nat) : AO := ⟨some d, none, .pick (.s c) (.s a) (.c (.t (.bool false)))⟩
abbrev q (d c a : Nat) : AO := ⟨some d, none, .pick (.s c) (.c (.t (.bool true))) (.s a)⟩
abbrev u (d x : Nat) : AO := ⟨some d, none, .un .not (.s x)⟩
abbrev jI (d : Nat) (k : Int) : AO := ⟨some d, none, .cst (.t (.int .i64 k))⟩
abbrev gm (d g : Nat) (x : Nat) : AO := ⟨some d, some (g, true), .mv (.s x)⟩
abbrev hm (d g : Nat) (x : Nat) : AO := ⟨some d, some (g, false), .mv (.s x)⟩
abbrev gf (d g : Nat) (k x : Nat) : AO := ⟨some d, some (g, true), .fa k (.s x)⟩
abbrev hf (d g : Nat) (k x : Nat) : AO := ⟨some d, some (g, false), .fa k (.s x)⟩
abbrev gl (d g : Nat) (x : Nat) : AO := ⟨some d, some (g, true), .ld false 1 (.s x)⟩
abbrev hl (d g : Nat) (x : Nat) : AO := ⟨some d, some (g, false), .ld false 1 (.s x)⟩
abbrev gL (d g : Nat) (n x : Nat) : AO := ⟨some d, some (g, true), .ld true n (.s x)⟩
abbrev hL (d g : Nat) (n x : Nat) : AO := ⟨some d, some (g, false), .ld true n (.s x)⟩
abbrev gi (d g : Nat) (z x y : Nat) : AO := ⟨some d, some (g, true), .ia z (.s x) (.s y)⟩
abbrev hi (d g : Nat) (z x y : Nat) : AO := ⟨some d, some (g, false), .ia z (.s x) (.s y)⟩
abbrev ge (d g : Nat) (x : Nat) : AO := ⟨some d, some (g, true), .len (.s x)⟩
abbrev he (d g : Nat) (x : Nat) : AO := ⟨some d, some (g, false), .len (.s x)⟩
abbrev go (d g : Nat) (p : AOp) : AO := ⟨some d, some (g, true), p⟩
abbrev ho (d g : Nat) (p : AOp) : AO := ⟨some d, some (g, false), p⟩
abbrev gb (d g : Nat) (p : BinOp) (x y : Nat) : AO := ⟨some d, some (g, true), .bin p (.s x) (.s y)⟩
abbrev hb (d g : Nat) (p : BinOp) (x y : Nat) : AO := ⟨some d, some (g, false), .bin p (.s x) (.s y)⟩
abbrev gB (d g : Nat) (p : BinOp) (x : Nat) (y : Int) : AO := ⟨some d, some (g, true), .bin p (.s x) (.c (.t (.int .i64 y)))⟩
abbrev hB (d g : Nat) (p : BinOp) (x : Nat) (y : Int) : AO := ⟨some d, some (g, false), .bin p (.s x) (.c (.t (.int .i64 y)))⟩
abbrev jR (p : List AO) (l : List Nat) : zW := .region false p [] l
abbrev jD (p : List AO) (a : List (List Nat)) (l : List Nat) : zW := .region true p a l
abbrev jS (a b : zW) : zW := .seq a b
abbrev jX (p : List AO) (l : List Nat) : zW := .seq (.region false p [] l) .ret
abbrev jC (t : Nat) (a b : zW) : zW := .cond (.s t) a b
abbrev jN (k : Int) : V := .t (.int .i64 k)
end Go.GB.K
namespace Go.GB
open K
def c5_0:zW:=jX [jL 68 1 2,jL 69 2 5,o 70 (.call 11 [(.s 68),(.s 69)]),e 71 70,jB 72 .eql 71 0,m 73 72,go 74 73 (.call 8 []),p 75 73 74,m 4 75] [4]
def c5_1:zW:=jR [m 47 9,jB 48 .add 47 1,m 9 48] [2,3,5,6,9]
def c5_2:zW:=jR [f 62 1 5,l 63 62,jL 64 3 10,o 65 (.bsl false 3 [[.str [],.str [],.lst []]] [(0,(.s 64))]),o 66 (.app 3 56 (.s 63) (.s 65)),f 67 1 5,jO (.st 1 (.s 67) (.s 66))] [2,3,5,6,9]
def c5_3:zW:=jS (jR [f 55 2 10,l 56 55,m 57 6,o 58 (.call 18 [(.s 56),(.s 57)]),m 54 58,x 59 54 0,x 60 54 1,f 61 2 10,jO (.st 1 (.s 61) (.s 59)),m 6 60] [2,3,5,6,9,10]) c5_2
def c5_4:zW:=jS (jR [f 49 1 3,l 50 49,m 51 9,i 52 3 50 51,jL 53 3 52,o 10 (.alloc [.t (.str []),.t (.str []),.zV]),jO (.st 3 (.s 10) (.s 53))] [2,3,5,6,9,10]) c5_3
def c5_7:zW:=jS (jS (jR [m 42 9,f 43 1 3,l 44 43,e 45 44,b 46 .lss 42 45] [2,3,5,6,9,46]) (jC 46 .skip (.exit 2))) (jS (.block 3 c5_4) c5_1)
def c5_11:zW:=jR [m 21 7,jB 22 .add 21 1,m 7 22] [2,3,5,6,7]
def c5_12:zW:=jR [f 36 0 5,l 37 36,jL 38 4 8,o 39 (.bsl false 4 [[.int .i64 0,.str [],.lst [],.lst []]] [(0,(.s 38))]),o 40 (.app 4 72 (.s 37) (.s 39)),f 41 0 5,jO (.st 1 (.s 41) (.s 40))] [2,3,5,6,7]
def c5_13:zW:=jS (jR [f 29 3 8,l 30 29,m 31 6,o 32 (.call 18 [(.s 30),(.s 31)]),m 28 32,x 33 28 0,x 34 28 1,f 35 3 8,jO (.st 1 (.s 35) (.s 33)),m 6 34] [2,3,5,6,7,8]) c5_12
def c5_14:zW:=jS (jR [f 23 0 3,l 24 23,m 25 7,i 26 4 24 25,jL 27 4 26,o 8 (.alloc [jN 0,.t (.str []),.zV,.zV]),jO (.st 4 (.s 8) (.s 27))] [2,3,5,6,7,8]) c5_13
def c5_17:zW:=jS (jS (jR [m 16 7,f 17 0 3,l 18 17,e 19 18,b 20 .lss 16 19] [2,3,5,6,7,20]) (jC 20 .skip (.exit 0))) (jS (.block 1 c5_14) c5_11)
def c5_20:zW:=jS (jS (jR [jI 7 0] [2,3,5,6,7]) (.block 0 (.loop c5_17))) (jS (jS (jR [jI 9 0] [2,3,5,6,9]) (.block 2 (.loop c5_7))) c5_0)
def c5_22:zW:=jS (jR [o 5 (.alloc [.zV,.zV])] [2,3,5]) (jS (jR [jI 6 0] [2,3,5,6]) c5_20)
def c5_25:zW:=jS (jS (jR [jL 11 1 2,jL 12 2 3,o 13 (.call 7 [(.s 11),(.s 12)]),u 14 13] [2,3,14]) (jC 14 (jX [o 15 (.call 8 []),m 4 15] [4]) .skip)) c5_22
def c5:zW:=jS (jR [o 2 (.box 1 (.s 0)),o 3 (.box 2 (.s 1)),o 4 (.cst (.t (.bool false)))] [2,3]) c5_25
def r5:List WC:=[.tmp 4]
def n5:Nat:=76
def c7_0:zW:=jS (jR [jL 5 1 2,o 6 (.call 21 [(.s 5),(.c (jN 600))]),jB 7 .leq 6 600,m 8 7,gL 9 8 1 2,go 10 8 (.call 22 [(.s 9)]),p 11 8 10,m 12 11,gL 13 12 2 3,go 14 12 (.call 23 [(.s 13)]),go 15 12 (.un .not (.s 14)),p 16 12 15,m 17 16,gL 18 17 2 3,go 19 17 (.call 24 [(.s 18)]),p 20 17 19,m 21 20,gL 22 21 1 2,go 23 21 (.call 25 [(.s 22),(.c (.t (.bool false)))]),ge 24 21 23,gB 25 21 .eql 24 0,p 26 21 25,m 27 26,gL 28 27 1 2,go 29 27 (.call 26 [(.s 28)]),ge 30 27 29,gB 31 27 .eql 30 0,p 32 27 31,m 33 32,gL 34 33 1 2,gL 35 33 2 3,go 36 33 (.call 27 [(.s 34),(.s 35)]),ge 37 33 36,gB 38 33 .eql 37 0,p 39 33 38,m 4 39] [4]) .ret
def c7:zW:=jS (jR [o 2 (.box 1 (.s 0)),o 3 (.box 2 (.s 1)),o 4 (.cst (.t (.bool false)))] [2,3]) c7_0
def r7:List WC:=[.tmp 4]
def n7:Nat:=40
def c8_0:zW:=jS (jR [m 36 6,e 37 36,jB 38 .eql 37 1,m 39 38,gm 40 39 6,go 41 39 (.ia 2 (.s 40) (.c (jN 0))),gL 42 39 2 41,go 43 39 (.build [jN 0,.t (.str [])] [(0,1,(.c (jN 28))),(1,1,(.c (.t (.str [47,97]))))]),go 44 39 (.nw (.z7P false [.int .i64,.str] (.s 42) (.s 43))),p 45 39 44,m 46 45,gm 47 46 7,ge 48 46 47,gB 49 46 .eql 48 0,p 50 46 49,m 51 50,gL 52 51 1 2,gL 53 51 2 5,gL 54 51 7 3,gL 55 51 7 4,go 56 51 (.call 14 [(.s 52),(.s 53),(.c (.t (.str [81,117,101,114,121]))),(.s 54),(.c (.t (.str [81,117,101,114,121]))),(.s 55)]),p 57 51 56,m 58 57,gL 59 58 1 2,gL 60 58 2 5,gL 61 58 7 3,gL 62 58 7 3,go 63 58 (.call 14 [(.s 59),(.s 60),(.c (.t (.str [81,117,101,114,121]))),(.s 61),(.c (.t (.str [81,117,101,114,121]))),(.s 62)]),go 64 58 (.un .not (.s 63)),p 65 58 64,m 0 65] [0]) .ret
def c8_1:zW:=jS (jR [jL 33 1 2,jL 34 2 5,o 35 (.call 11 [(.s 33),(.s 34)]),m 7 35] [2,3,4,5,6,7]) c8_0
def c8_2:zW:=jS (jR [jL 25 1 2,jL 26 7 3,jL 27 7 4,o 28 (.bsl true 7 [[.int .i64 0,.str [],.str [],.str [],.lst [],.lst [],.lst []],[.int .i64 0,.str [],.str [],.str [],.lst [],.lst [],.lst []]] [(0,(.s 26)),(1,(.s 27))]),o 29 (.build [jN 0,.t (.str []),.zV,.zV] [(0,1,(.c (jN 1))),(3,1,(.s 28))]),o 30 (.bsl true 4 [[.int .i64 0,.str [],.lst [],.lst []]] [(0,(.s 29))]),o 31 (.build [.zV,.zV] [(0,1,(.s 30))]),o 32 (.call 11 [(.s 25),(.s 31)]),m 6 32] [2,3,4,5,6]) c8_1
def c8_3:zW:=jS (jR [jL 19 7 3,jL 20 7 3,o 21 (.bsl true 7 [[.int .i64 0,.str [],.str [],.str [],.lst [],.lst [],.lst []],[.int .i64 0,.str [],.str [],.str [],.lst [],.lst [],.lst []]] [(0,(.s 19)),(1,(.s 20))]),o 22 (.build [jN 0,.t (.str []),.zV,.zV] [(0,1,(.c (jN 1))),(3,1,(.s 21))]),o 23 (.bsl true 4 [[.int .i64 0,.str [],.lst [],.lst []]] [(0,(.s 22))]),o 24 (.build [.zV,.zV] [(0,1,(.s 23))]),o 5 (.alloc [.zV,.zV]),jO (.st 2 (.s 5) (.s 24))] [2,3,4,5]) c8_2
def c8_4:zW:=jS (jR [o 18 (.build [jN 0,.t (.str []),.t (.str []),.t (.str []),.zV,.zV,.zV] [(0,1,(.c (jN 1))),(1,1,(.c (.t (.str [97])))),(2,1,(.c (.t (.str [98]))))]),o 4 (.alloc [jN 0,.t (.str []),.t (.str []),.t (.str []),.zV,.zV,.zV]),jO (.st 7 (.s 4) (.s 18))] [2,3,4]) c8_3
def c8_5:zW:=jS (jR [o 17 (.build [jN 0,.t (.str []),.t (.str []),.t (.str []),.zV,.zV,.zV] [(0,1,(.c (jN 1))),(2,1,(.c (.t (.str [97]))))]),o 3 (.alloc [jN 0,.t (.str []),.t (.str []),.t (.str []),.zV,.zV,.zV]),jO (.st 7 (.s 3) (.s 17))] [2,3]) c8_4
def c8_6:zW:=jS (jR [jL 9 2 1,o 10 (.build [.t (.str []),.zV,.t (.str []),.zV,.zV] [(0,1,(.c (.t (.str [97])))),(2,2,(.s 9))]),jL 11 2 1,o 12 (.build [.t (.str []),.zV,.t (.str []),.zV,.zV] [(0,1,(.c (.t (.str [98])))),(2,2,(.s 11))]),o 13 (.bsl true 5 [[.str [],.lst [],.str [],.lst [],.lst []],[.str [],.lst [],.str [],.lst [],.lst []]] [(0,(.s 10)),(1,(.s 12))]),o 14 (.build [jN 0,.t (.str []),.zV,.zV,.zV,.zV,.zV] [(0,1,(.c (jN 1))),(1,1,(.c (.t (.str [81,117,101,114,121])))),(4,1,(.s 13))]),o 15 (.bsl true 7 [[.int .i64 0,.str [],.lst [],.lst [],.lst [],.lst [],.lst []]] [(0,(.s 14))]),o 16 (.build [.zV] [(0,1,(.s 15))]),o 2 (.alloc [.zV]),jO (.st 1 (.s 2) (.s 16))] [2]) c8_5
def c8_7:zW:=jS (jR [o 8 (.build [.t (.str []),.zV] [(0,1,(.c (.t (.str [73,110,116]))))]),o 1 (.alloc [.t (.str []),.zV]),jO (.st 2 (.s 1) (.s 8))] [1]) c8_6
def c8:zW:=jS (jR [o 0 (.cst (.t (.bool false)))] []) c8_7
def r8:List WC:=[.tmp 0]
def n8:Nat:=66
def c11_2:zW:=jR [m 40 6,m 41 5,f 42 2 10,l 43 42,f 44 1 10,l 45 44,f 46 0 10,l 47 46,o 48 (.call 30 [(.s 41),(.s 43),(.s 45),(.s 47)]),o 49 (.app 2 24 (.s 40) (.s 48)),m 6 49] [5,6,34,35,36]
def c11_3:zW:=jS (jR [i 38 3 34 36,jL 39 3 38,o 10 (.alloc [.t (.str []),.t (.str []),.zV]),jO (.st 3 (.s 10) (.s 39))] [5,6,10,34,35,36]) c11_2
def c11_6:zW:=jS (jR [b 37 .lss 36 35] [5,6,34,35,36,37]) (jS (jC 37 .skip (.exit 2)) (jS (.block 3 c11_3) (jR [jB 50 .add 36 1,m 36 50] [5,6,34,35,36])))
def c11_9:zW:=jS (jS (jR [f 33 1 3,l 34 33,e 35 34,jI 36 0] [5,6,34,35,36]) (.block 2 (.loop c11_6))) (jX [m 51 6,m 4 51] [4])
def c11_10:zW:=jR [jB 32 .add 17 1,m 17 32] [3,5,6,15,16,17]
def c11_11:zW:=jD [m 21 6,m 22 5,f 23 3 8,l 24 23,f 25 0 8,l 26 25,o 27 (.call 31 [(.s 26)]),f 28 1 8,l 29 28,o 30 (.call 30 [(.s 22),(.s 24),(.s 27),(.s 29)]),o 31 (.app 2 24 (.s 21) (.s 30)),m 6 31] [[],[],[],[2],[],[4],[5],[],[7],[1,3,6,8,6],[0,9,9],[10,10,0,1,2,3,4,5,6,7,8,9,10]] [3,5,6,15,16,17]
def c11_12:zW:=jS (jR [i 19 4 15 17,jL 20 4 19,o 8 (.alloc [jN 0,.t (.str []),.zV,.zV]),jO (.st 4 (.s 8) (.s 20))] [3,5,6,8,15,16,17]) c11_11
def c11_15:zW:=jS (jR [b 18 .lss 17 16] [3,5,6,15,16,17,18]) (jS (jC 18 .skip (.exit 0)) (jS (.block 1 c11_12) c11_10))
def c11_18:zW:=jS (jS (jR [f 14 0 3,l 15 14,e 16 15,jI 17 0] [3,5,6,15,16,17]) (.block 0 (.loop c11_15))) c11_9
def c11_20:zW:=jS (jR [jL 11 1 2,jL 12 2 3,o 13 (.call 29 [(.s 11),(.s 12)]),m 5 13] [3,5]) (jS (jR [o 6 (.cst (.zV))] [3,5,6]) c11_18)
def c11:zW:=jS (jR [o 2 (.box 1 (.s 0)),o 3 (.box 2 (.s 1)),o 4 (.cst (.zV))] [2,3]) c11_20
def r11:List WC:=[.tmp 4]
def n11:Nat:=52
def c14_0:zW:=jX [jL 13 1 6,jL 14 2 7,o 15 (.call 29 [(.s 13),(.s 14)]),m 16 2,o 17 (.build [.t (.str []),.t (.QP)] [(0,1,(.s 16)),(1,1,(.s 9))]),m 18 4,o 19 (.build [.t (.str []),.t (.QP)] [(0,1,(.s 18)),(1,1,(.s 11))]),o 20 (.build [.t (.str []),.t (.QP),.t (.str []),.t (.QP),.t (.bool false)] [(0,2,(.s 17)),(2,2,(.s 19))]),o 21 (.call 33 [(.s 15),(.s 20)]),m 12 21] [12]
def c14:zW:=jS (jR [o 6 (.box 1 (.s 0)),o 7 (.box 2 (.s 1)),o 9 (.box 7 (.s 3)),o 11 (.box 7 (.s 5)),o 12 (.cst (.t (.bool false)))] [2,4,6,7,9,11]) c14_0
def r14:List WC:=[.tmp 12]
def n14:Nat:=22
def c16_0:zW:=jS (jR [m 13 1,o 14 (.call 39 [(.s 13)]),m 15 14,hm 16 15 6,hm 17 15 16,gf 18 17 0 5,gl 19 17 18,gB 20 17 .eql 19 4,ho 21 15 (.pick (.s 17) (.s 20) (.c (.t (.bool false)))),q 22 15 21,m 4 22] [4]) .ret
def c16_1:zW:=jS (jR [jL 8 1 2,m 9 1,o 10 (.call 37 [(.s 8),(.s 9)]),m 7 10,x 11 7 0,x 12 7 1,o 5 (.alloc [jN 0,.t (.str []),.zV,.zV,.zV,.zV,.zV]),jO (.st 7 (.s 5) (.s 11)),m 6 12] [1,5,6]) c16_0
def c16:zW:=jS (jR [o 2 (.box 1 (.s 0)),o 4 (.cst (.t (.bool false)))] [1,2]) c16_1
def r16:List WC:=[.tmp 4]
def n16:Nat:=23
def c18_1:zW:=jR [m 13 7,jB 14 .add 13 1,m 7 14] [0,1,6,7]
def c18_2:zW:=jR [m 36 6,jL 37 7 8,o 38 (.bsl false 7 [[.int .i64 0,.str [],.str [],.str [],.lst [],.lst [],.lst []]] [(0,(.s 37))]),o 39 (.app 7 128 (.s 36) (.s 38)),m 6 39] [0,1,6,7]
def c18_3:zW:=jS (jR [f 29 6 8,l 30 29,m 31 1,o 32 (.call 18 [(.s 30),(.s 31)]),m 28 32,x 33 28 0,x 34 28 1,f 35 6 8,jO (.st 1 (.s 35) (.s 33)),m 1 34] [0,1,6,7,8]) c18_2
def c18_4:zW:=jR [m 26 1,jB 27 .add 26 1,m 1 27] [0,1,6,7,8]
def c18_5:zW:=jS (jR [m 22 1,o 23 (.call 40 [(.s 22)]),o 24 (.bin .add (.c (.t (.str [107]))) (.s 23)),f 25 1 8,jO (.st 1 (.s 25) (.s 24))] [0,1,6,7,8]) c18_4
def c18_7:zW:=jS (jS (jR [f 19 0 8,l 20 19,jB 21 .eql 20 1] [0,1,6,7,8,21]) (jC 21 c18_5 .skip)) c18_3
def c18_8:zW:=jS (jR [m 15 0,m 16 7,i 17 7 15 16,jL 18 7 17,o 8 (.alloc [jN 0,.t (.str []),.t (.str []),.t (.str []),.zV,.zV,.zV]),jO (.st 7 (.s 8) (.s 18))] [0,1,6,7,8]) c18_7
def c18_11:zW:=jS (jS (jR [m 9 7,m 10 0,e 11 10,b 12 .lss 9 11] [0,1,6,7,12]) (jC 12 .skip (.exit 0))) (jS (.block 1 c18_8) c18_1)
def c18_14:zW:=jS (jS (jR [jI 7 0] [0,1,6,7]) (.block 0 (.loop c18_11))) (jX [m 40 6,m 41 1,m 4 40,m 5 41] [4,5])
def c18:zW:=jS (jR [o 4 (.cst (.zV)),jI 5 0] [0,1]) (jS (jR [o 6 (.cst (.zV))] [0,1,6]) c18_14)
def r18:List WC:=[.tmp 4,.tmp 5]
def n18:Nat:=42
def c19_1:zW:=jX [o 2 (.cst (.t (.str [81,117,101,114,121])))] [2]
def c19_2:zW:=jX [o 2 (.cst (.t (.str [77,117,116,97,116,105,111,110])))] [2]
def c19_3:zW:=jX [o 2 (.cst (.t (.str [83,117,98,115,99,114,105,112,116,105,111,110])))] [2]
def c19:zW:=jS (jR [o 2 (.cst (.t (.str [])))] [0]) (jS (jS (jR [m 3 0] [3]) (.block 0 (jS (jR [jB 5 .eql 3 1,m 4 5] [3,4]) (jC 4 c19_1 (jS (jR [jB 7 .eql 3 2,m 6 7] [3,6]) (jC 6 c19_2 (jS (jR [jB 9 .eql 3 3,m 8 9] [8]) (jC 8 c19_3 .skip)))))))) (jX [o 2 (.cst (.t (.str [])))] [2]))
def r19:List WC:=[.tmp 2]
def n19:Nat:=10
def c21_1:zW:=jR [m 23 6,jB 24 .add 23 1,m 6 24] [1,2,5,6]
def c21_2:zW:=jR [m 96 9,jB 97 .add 96 1,m 9 97] [1,2,5,6,7,9]
def c21_3:zW:=jR [m 98 5,jB 99 .add 98 1,f 100 5 7,l 101 100,m 102 9,i 103 2 101 102,f 104 1 103,l 105 104,m 106 1,o 107 (.call 41 [(.s 105),(.s 106)]),b 108 .add 99 107,m 5 108] [1,2,5,6,7,9]
def c21_6:zW:=jS (jS (jR [m 86 9,f 87 5 7,l 88 87,e 89 88,b 90 .lss 86 89,m 91 90,gm 92 91 5,gm 93 91 1,gb 94 91 .leq 92 93,p 95 91 94] [1,2,5,6,7,9,95]) (jC 95 .skip (.exit 4))) (jS (.block 5 c21_3) c21_2)
def c21_10:zW:=jR [m 55 8,jB 56 .add 55 1,m 8 56] [1,2,5,6,7,8]
def c21_11:zW:=jD [m 57 5,jB 58 .add 57 1,f 59 4 7,l 60 59,m 61 8,i 62 5 60 61,f 63 2 62,f 64 1 63,l 65 64,e 66 65,b 67 .add 58 66,f 68 4 7,l 69 68,m 70 8,i 71 5 69 70,f 72 1 71,l 73 72,m 74 1,o 75 (.call 42 [(.s 73),(.s 74)]),b 76 .add 67 75,f 77 4 7,l 78 77,m 79 8,i 80 5 78 79,f 81 4 80,l 82 81,m 83 1,o 84 (.call 41 [(.s 82),(.s 83)]),b 85 .add 76 84,m 5 85] [[],[0],[],[2],[],[3,4],[5],[6],[7],[8],[1,9],[],[11],[],[12,13],[14],[15],[],[16,17],[10,18],[],[20],[],[21,22],[23],[24],[],[25,26,18],[19,27],[28,27,0,1,2,3,4,5,6,7,8,9,10,11,12,13,14,15,16,17,18,19,20,21,22,23,24,25,26,27,28]] [1,2,5,6,7,8]
def c21_14:zW:=jS (jS (jR [m 45 8,f 46 4 7,l 47 46,e 48 47,b 49 .lss 45 48,m 50 49,gm 51 50 5,gm 52 50 1,gb 53 50 .leq 51 52,p 54 50 53] [1,2,5,6,7,8,54]) (jC 54 .skip (.exit 2))) (jS (.block 3 c21_11) c21_10)
def c21_17:zW:=jS (jS (jR [jI 8 0] [1,2,5,6,7,8]) (.block 2 (.loop c21_14))) (jS (jR [jI 9 0] [1,2,5,6,7,9]) (.block 4 (.loop c21_6)))
def c21_18:zW:=jS (jD [m 30 5,f 31 2 7,l 32 31,e 33 32,b 34 .add 30 33,f 35 3 7,l 36 35,m 37 1,o 38 (.call 41 [(.s 36),(.s 37)]),b 39 .add 34 38,f 40 6 7,l 41 40,m 42 1,o 43 (.call 42 [(.s 41),(.s 42)]),b 44 .add 39 43,m 5 44] [[],[],[1],[2],[0,3],[],[5],[],[6,7],[4,8],[],[10],[],[11,12,8],[9,13],[14,13,0,1,2,3,4,5,6,7,8,9,10,11,12,13,14]] [1,2,5,6,7]) c21_17
def c21_19:zW:=jS (jR [f 25 0 2,l 26 25,m 27 6,i 28 7 26 27,jL 29 7 28,o 7 (.alloc [jN 0,.t (.str []),.zV,.zV,.zV,.zV,.zV]),jO (.st 7 (.s 7) (.s 29))] [1,2,5,6,7]) c21_18
def c21_22:zW:=jS (jS (jR [m 13 6,f 14 0 2,l 15 14,e 16 15,b 17 .lss 13 16,m 18 17,gm 19 18 5,gm 20 18 1,gb 21 18 .leq 19 20,p 22 18 21] [1,2,5,6,22]) (jC 22 .skip (.exit 0))) (jS (.block 1 c21_19) c21_1)
def c21_25:zW:=jS (jS (jR [jI 6 0] [1,2,5,6]) (.block 0 (.loop c21_22))) (jX [m 109 5,m 4 109] [4])
def c21_26:zW:=jS (jR [f 10 0 2,l 11 10,e 12 11,m 5 12] [1,2,5]) c21_25
def c21:zW:=jS (jR [o 2 (.box 1 (.s 0)),jI 4 0] [1,2]) c21_26
def r21:List WC:=[.tmp 4]
def n21:Nat:=110
def c22_4:zW:=jS (jR [f 21 0 1,l 22 21,m 23 3,i 24 7 22 23,jL 25 7 24,o 26 (.call 43 [(.s 25)]),u 27 26] [1,3,27]) (jC 27 (jX [o 2 (.cst (.t (.bool false)))] [2]) .skip)
def c22_7:zW:=jS (jS (jR [m 14 3,f 15 0 1,l 16 15,e 17 16,b 18 .lss 14 17] [1,3,18]) (jC 18 .skip (.exit 0))) (jS (.block 1 c22_4) (jR [m 19 3,jB 20 .add 19 1,m 3 20] [1,3]))
def c22_13:zW:=jS (jS (jR [f 4 0 1,l 5 4,e 6 5,jB 7 .lss 6 1,m 8 7,hf 9 8 0 1,hl 10 8 9,he 11 8 10,hB 12 8 .gtr 11 64,q 13 8 12] [1,13]) (jC 13 (jX [o 2 (.cst (.t (.bool false)))] [2]) .skip)) (jS (jS (jR [jI 3 0] [1,3]) (.block 0 (.loop c22_7))) (jX [o 2 (.cst (.t (.bool true)))] [2]))
def c22:zW:=jS (jR [o 1 (.box 1 (.s 0)),o 2 (.cst (.t (.bool false)))] [1]) c22_13
def r22:List WC:=[.tmp 2]
def n22:Nat:=28
def c23_2:zW:=jR [m 52 3,f 53 1 1,l 54 53,m 55 5,i 56 3 54 55,f 57 2 56,l 58 57,o 59 (.call 44 [(.s 58),(.c (jN 600))]),b 60 .add 52 59,m 3 60] [1,3,5]
def c23_5:zW:=jS (jS (jR [m 41 5,f 42 1 1,l 43 42,e 44 43,b 45 .lss 41 44,m 46 45,gm 47 46 3,gB 48 46 .leq 47 600,p 49 46 48] [1,3,5,49]) (jC 49 .skip (.exit 2))) (jS (.block 3 c23_2) (jR [m 50 5,jB 51 .add 50 1,m 5 51] [1,3,5]))
def c23_10:zW:=jD [m 24 3,f 25 0 1,l 26 25,m 27 4,i 28 4 26 27,f 29 2 28,l 30 29,e 31 30,b 32 .add 24 31,f 33 0 1,l 34 33,m 35 4,i 36 4 34 35,f 37 3 36,l 38 37,o 39 (.call 44 [(.s 38),(.c (jN 600))]),b 40 .add 32 39,m 3 40] [[],[],[1],[],[2,3],[4],[5],[6],[0,7],[],[9],[],[10,11],[12],[13],[14],[8,15],[16,15,0,1,2,3,4,5,6,7,8,9,10,11,12,13,14,15,16]] [1,3,4]
def c23_13:zW:=jS (jS (jR [m 13 4,f 14 0 1,l 15 14,e 16 15,b 17 .lss 13 16,m 18 17,gm 19 18 3,gB 20 18 .leq 19 600,p 21 18 20] [1,3,4,21]) (jC 21 .skip (.exit 0))) (jS (.block 1 c23_10) (jR [m 22 4,jB 23 .add 22 1,m 4 23] [1,3,4]))
def c23_17:zW:=jS (jR [f 6 0 1,l 7 6,e 8 7,f 9 1 1,l 10 9,e 11 10,b 12 .add 8 11,m 3 12] [1,3]) (jS (jS (jR [jI 4 0] [1,3,4]) (.block 0 (.loop c23_13))) (jS (jS (jR [jI 5 0] [1,3,5]) (.block 2 (.loop c23_5))) (jX [m 61 3,jB 62 .gtr 61 600,m 2 62] [2])))
def c23:zW:=jS (jR [o 1 (.box 2 (.s 0)),o 2 (.cst (.t (.bool false)))] [1]) c23_17
def r23:List WC:=[.tmp 2]
def n23:Nat:=63
def c24_4:zW:=jS (jR [f 76 0 7,l 77 76,o 78 (.call 48 [(.s 77)]),u 79 78,m 80 79,hf 81 80 1 7,hl 82 80 81,ho 83 80 (.call 45 [(.s 82)]),ho 84 80 (.un .not (.s 83)),q 85 80 84,m 86 85,hf 87 86 2 7,hl 88 86 87,ho 89 86 (.call 47 [(.s 88),(.c (jN 1))]),ho 90 86 (.un .not (.s 89)),q 91 86 90] [1,6,91]) (jC 91 (jX [o 2 (.cst (.t (.bool false)))] [2]) .skip)
def c24_5:zW:=jS (jR [f 71 1 1,l 72 71,m 73 6,i 74 3 72 73,jL 75 3 74,o 7 (.alloc [.t (.str []),.t (.str []),.zV]),jO (.st 3 (.s 7) (.s 75))] [1,6,7]) c24_4
def c24_8:zW:=jS (jS (jR [m 64 6,f 65 1 1,l 66 65,e 67 66,b 68 .lss 64 67] [1,6,68]) (jC 68 .skip (.exit 2))) (jS (.block 3 c24_5) (jR [m 69 6,jB 70 .add 69 1,m 6 70] [1,6]))
def c24_15:zW:=jS (jR [f 33 0 5,l 34 33,jB 35 .lss 34 1,m 36 35,hf 37 36 0 5,hl 38 36 37,hB 39 36 .gtr 38 3,q 40 36 39,m 41 40,hf 42 41 1 5,hl 43 41 42,ho 44 41 (.bin .neq (.s 43) (.c (.t (.str [])))),hm 45 41 44,gf 46 45 1 5,gl 47 45 46,go 48 45 (.call 45 [(.s 47)]),go 49 45 (.un .not (.s 48)),ho 50 41 (.pick (.s 45) (.s 49) (.c (.t (.bool false)))),q 51 41 50,m 52 51,hf 53 52 2 5,hl 54 52 53,ho 55 52 (.call 46 [(.s 54)]),ho 56 52 (.un .not (.s 55)),q 57 52 56,m 58 57,hf 59 58 3 5,hl 60 58 59,ho 61 58 (.call 47 [(.s 60),(.c (jN 1))]),ho 62 58 (.un .not (.s 61)),q 63 58 62] [1,4,63]) (jC 63 (jX [o 2 (.cst (.t (.bool false)))] [2]) .skip)
def c24_16:zW:=jS (jR [f 28 0 1,l 29 28,m 30 4,i 31 4 29 30,jL 32 4 31,o 5 (.alloc [jN 0,.t (.str []),.zV,.zV]),jO (.st 4 (.s 5) (.s 32))] [1,4,5]) c24_15
def c24_19:zW:=jS (jS (jR [m 21 4,f 22 0 1,l 23 22,e 24 23,b 25 .lss 21 24] [1,4,25]) (jC 25 .skip (.exit 0))) (jS (.block 1 c24_16) (jR [m 26 4,jB 27 .add 26 1,m 4 27] [1,4]))
def c24_25:zW:=jS (jS (jR [m 15 3,jB 16 .lss 15 1,m 17 16,hm 18 17 3,hB 19 17 .gtr 18 64,q 20 17 19] [1,20]) (jC 20 (jX [o 2 (.cst (.t (.bool false)))] [2]) .skip)) (jS (jS (jR [jI 4 0] [1,4]) (.block 0 (.loop c24_19))) (jS (jS (jR [jI 6 0] [1,6]) (.block 2 (.loop c24_8))) (jX [o 2 (.cst (.t (.bool true)))] [2])))
def c24_26:zW:=jS (jR [f 8 0 1,l 9 8,e 10 9,f 11 1 1,l 12 11,e 13 12,b 14 .add 10 13,m 3 14] [1,3]) c24_25
def c24:zW:=jS (jR [o 1 (.box 2 (.s 0)),o 2 (.cst (.t (.bool false)))] [1]) c24_26
def r24:List WC:=[.tmp 2]
def n24:Nat:=92
def c25_1:zW:=jR [m 64 5,o 65 (.build [jN 0,.t (.str [])] [(0,1,(.c (jN 30))),(1,1,(.c (.t (.str [81,117,101,114,121]))))]),o 66 (.bsl false 2 [[.int .i64 0,.str []]] [(0,(.s 65))]),o 67 (.app 2 24 (.s 64) (.s 66)),m 5 67] [5]
def c25_3:zW:=jS (jS (jR [m 59 1,m 60 59,gm 61 60 9,go 62 60 (.un .not (.s 61)),p 63 60 62] [5,63]) (jC 63 c25_1 .skip)) (jX [m 68 5,m 4 68] [4])
def c25_4:zW:=jS (jR [jL 55 1 2,o 56 (.call 37 [(.s 55),(.c (.t (.str [81,117,101,114,121])))]),m 54 56,x 57 54 0,x 58 54 1,o 8 (.alloc [jN 0,.t (.str []),.zV,.zV,.zV,.zV,.zV]),jO (.st 7 (.s 8) (.s 57)),m 9 58] [1,5,9]) c25_3
def c25_5:zW:=jR [m 15 6,jB 16 .add 15 1,m 6 16] [1,2,5,6]
def c25_6:zW:=jR [m 32 5,jL 33 1 2,jL 34 7 7,o 35 (.call 50 [(.s 33),(.s 34)]),o 36 (.app 2 24 (.s 32) (.s 35)),m 5 36] [1,2,5,6]
def c25_7:zW:=jR [m 39 5,jL 40 7 7,o 41 (.call 51 [(.s 40)]),o 42 (.app 2 24 (.s 39) (.s 41)),m 5 42] [1,2,5,6]
def c25_8:zW:=jR [m 45 5,jL 46 1 2,f 47 6 7,l 48 47,f 49 1 7,l 50 49,o 51 (.bin .add (.s 50) (.c (.t (.str [46])))),o 52 (.call 52 [(.s 46),(.s 48),(.s 51),(.c (.t (.str [])))]),o 53 (.app 2 24 (.s 45) (.s 52)),m 5 53] [1,2,5,6]
def c25_10:zW:=jS (jR [jB 44 .eql 28 5,m 43 44] [1,2,5,6,7,43]) (jC 43 c25_8 .skip)
def c25_12:zW:=jS (jR [jB 38 .eql 28 4,m 37 38] [1,2,5,6,7,28,37]) (jC 37 c25_7 c25_10)
def c25_14:zW:=jR [jB 31 .eql 28 2,m 29 31] [1,2,5,6,7,28,29]
def c25_16:zW:=jS (jS (jR [jB 30 .eql 28 1,m 29 30] [1,2,5,6,7,28,29]) (jC 29 .skip c25_14)) (jC 29 c25_6 c25_12)
def c25_18:zW:=jS (jR [f 27 0 7,l 28 27] [1,2,5,6,7,28]) (.block 2 c25_16)
def c25_19:zW:=jS (jR [m 22 5,jL 23 1 2,m 24 6,o 25 (.call 49 [(.s 23),(.s 24)]),o 26 (.app 2 24 (.s 22) (.s 25)),m 5 26] [1,2,5,6,7]) c25_18
def c25_20:zW:=jS (jR [f 17 0 2,l 18 17,m 19 6,i 20 7 18 19,jL 21 7 20,o 7 (.alloc [jN 0,.t (.str []),.zV,.zV,.zV,.zV,.zV]),jO (.st 7 (.s 7) (.s 21))] [1,2,5,6,7]) c25_19
def c25_23:zW:=jS (jS (jR [m 10 6,f 11 0 2,l 12 11,e 13 12,b 14 .lss 10 13] [1,2,5,6,14]) (jC 14 .skip (.exit 0))) (jS (.block 1 c25_20) c25_5)
def c25_26:zW:=jS (jS (jR [jI 6 0] [1,2,5,6]) (.block 0 (.loop c25_23))) c25_4
def c25:zW:=jS (jR [o 2 (.box 1 (.s 0)),o 4 (.cst (.zV))] [1,2]) (jS (jR [o 5 (.cst (.zV))] [1,2,5]) c25_26)
def r25:List WC:=[.tmp 4]
def n25:Nat:=69
def c26_2:zW:=jD [m 20 3,jL 21 1 1,f 22 0 1,l 23 22,m 24 4,i 25 7 23 24,jL 26 7 25,o 27 (.call 53 [(.s 21),(.s 26)]),o 28 (.app 2 24 (.s 20) (.s 27)),m 3 28] [[],[],[],[2],[],[3,4],[5],[1,6],[0,7,7],[8,8,0,1,2,3,4,5,6,7,8]] [1,3,4]
def c26_3:zW:=jD [m 31 3,jL 32 1 1,f 33 0 1,l 34 33,m 35 4,i 36 7 34 35,jL 37 7 36,o 38 (.call 54 [(.s 32),(.s 37)]),o 39 (.app 2 24 (.s 31) (.s 38)),m 3 39] [[],[],[],[2],[],[3,4],[5],[1,6],[0,7,7],[8,8,0,1,2,3,4,5,6,7,8]] [1,3,4]
def c26_5:zW:=jS (jR [jB 30 .eql 17 3,m 29 30] [1,3,4,29]) (jC 29 c26_3 .skip)
def c26_7:zW:=jS (jR [jB 19 .eql 17 1,m 18 19] [1,3,4,17,18]) (jC 18 c26_2 c26_5)
def c26_9:zW:=jS (jR [f 12 0 1,l 13 12,m 14 4,i 15 7 13 14,f 16 0 15,l 17 16] [1,3,4,17]) (.block 2 c26_7)
def c26_12:zW:=jS (jS (jR [m 5 4,f 6 0 1,l 7 6,e 8 7,b 9 .lss 5 8] [1,3,4,9]) (jC 9 .skip (.exit 0))) (jS (.block 1 c26_9) (jR [m 10 4,jB 11 .add 10 1,m 4 11] [1,3,4]))
def c26:zW:=jS (jR [o 1 (.box 1 (.s 0)),o 2 (.cst (.zV))] [1]) (jS (jR [o 3 (.cst (.zV))] [1,3]) (jS (jS (jR [jI 4 0] [1,3,4]) (.block 0 (.loop c26_12))) (jX [m 40 3,m 2 40] [2])))
def r26:List WC:=[.tmp 2]
def n26:Nat:=41
def c27_1:zW:=jR [m 47 7,jB 48 .add 47 1,m 7 48] [2,3,5,7]
def c27_2:zW:=jD [m 85 5,jL 86 1 2,jL 87 2 3,f 88 2 8,l 89 88,jL 90 1 2,f 91 1 8,l 92 91,o 93 (.call 56 [(.s 90),(.s 92)]),f 94 0 8,l 95 94,o 96 (.call 55 [(.s 86),(.s 87),(.s 89),(.s 93),(.s 95)]),o 97 (.app 2 24 (.s 85) (.s 96)),m 5 97] [[],[],[],[],[3],[],[],[6],[5,7],[],[9],[1,2,4,8,10,8],[0,11,11],[12,12,0,1,2,3,4,5,6,7,8,9,10,11,12]] [2,3,5,7]
def c27_3:zW:=jR [m 79 5,f 80 0 8,l 81 80,o 82 (.build [jN 0,.t (.str [])] [(0,1,(.c (jN 26))),(1,1,(.s 81))]),o 83 (.bsl false 2 [[.int .i64 0,.str []]] [(0,(.s 82))]),o 84 (.app 2 24 (.s 79) (.s 83)),m 5 84] [2,3,5,7,8]
def c27_5:zW:=jS (jS (jR [jL 74 2 3,f 75 0 8,l 76 75,o 77 (.call 58 [(.s 74),(.s 76)]),u 78 77] [2,3,5,7,8,78]) (jC 78 c27_3 .skip)) c27_2
def c27_6:zW:=jR [m 68 5,f 69 0 8,l 70 69,o 71 (.build [jN 0,.t (.str [])] [(0,1,(.c (jN 24))),(1,1,(.s 70))]),o 72 (.bsl false 2 [[.int .i64 0,.str []]] [(0,(.s 71))]),o 73 (.app 2 24 (.s 68) (.s 72)),m 5 73] [2,3,5,7,8]
def c27_8:zW:=jS (jS (jR [jL 65 2 3,jL 66 3 8,o 67 (.call 57 [(.s 65),(.s 66)])] [2,3,5,7,8,67]) (jC 67 c27_6 .skip)) c27_5
def c27_9:zW:=jR [m 59 5,f 60 0 8,l 61 60,o 62 (.build [jN 0,.t (.str [])] [(0,1,(.c (jN 24))),(1,1,(.s 61))]),o 63 (.bsl false 2 [[.int .i64 0,.str []]] [(0,(.s 62))]),o 64 (.app 2 24 (.s 59) (.s 63)),m 5 64] [2,3,5,7,8]
def c27_11:zW:=jS (jS (jR [jL 54 1 2,f 55 1 8,l 56 55,o 57 (.call 56 [(.s 54),(.s 56)]),o 58 (.bin .eql (.s 57) (.c (.t (.str []))))] [2,3,5,7,8,58]) (jC 58 c27_9 .skip)) c27_8
def c27_12:zW:=jS (jR [f 49 1 3,l 50 49,m 51 7,i 52 3 50 51,jL 53 3 52,o 8 (.alloc [.t (.str []),.t (.str []),.zV]),jO (.st 3 (.s 8) (.s 53))] [2,3,5,7,8]) c27_11
def c27_15:zW:=jS (jS (jR [m 42 7,f 43 1 3,l 44 43,e 45 44,b 46 .lss 42 45] [2,3,5,7,46]) (jC 46 .skip (.exit 2))) (jS (.block 3 c27_12) c27_1)
def c27_18:zW:=jS (jS (jR [jI 7 0] [2,3,5,7]) (.block 2 (.loop c27_15))) (jX [m 98 5,m 4 98] [4])
def c27_19:zW:=jR [m 14 6,jB 15 .add 14 1,m 6 15] [2,3,5,6]
def c27_20:zW:=jD [m 16 5,jL 17 1 2,jL 18 2 3,f 19 0 3,l 20 19,m 21 6,i 22 4 20 21,f 23 3 22,l 24 23,jL 25 1 2,f 26 0 3,l 27 26,m 28 6,i 29 4 27 28,f 30 0 29,l 31 30,o 32 (.call 19 [(.s 31)]),o 33 (.call 56 [(.s 25),(.s 32)]),f 34 0 3,l 35 34,m 36 6,i 37 4 35 36,f 38 1 37,l 39 38,o 40 (.call 55 [(.s 17),(.s 18),(.s 24),(.s 33),(.s 39)]),o 41 (.app 2 24 (.s 16) (.s 40)),m 5 41] [[],[],[],[],[3],[],[4,5],[6],[7],[],[],[10],[],[11,12],[13],[14],[15],[9,16,16],[],[18],[],[19,20],[21],[22],[1,2,8,17,23,17],[0,24,24],[25,25,0,1,2,3,4,5,6,7,8,9,10,11,12,13,14,15,16,17,18,19,20,21,22,23,24,25]] [2,3,5,6]
def c27_23:zW:=jS (jS (jR [m 9 6,f 10 0 3,l 11 10,e 12 11,b 13 .lss 9 12] [2,3,5,6,13]) (jC 13 .skip (.exit 0))) (jS (.block 1 c27_20) c27_19)
def c27_26:zW:=jS (jS (jR [jI 6 0] [2,3,5,6]) (.block 0 (.loop c27_23))) c27_18
def c27:zW:=jS (jR [o 2 (.box 1 (.s 0)),o 3 (.box 2 (.s 1)),o 4 (.cst (.zV))] [2,3]) (jS (jR [o 5 (.cst (.zV))] [2,3,5]) c27_26)
def r27:List WC:=[.tmp 4]
def n27:Nat:=99
def c29_0:zW:=jX [jL 5 1 2,jL 6 2 3,o 7 (.z0u true false),o 8 (.build [.zV,.zV,.zV,.t (.qG)] [(0,1,(.s 5)),(1,2,(.s 6)),(3,1,(.s 7))]),o 9 (.box 4 (.s 8)),m 4 9] [4]
def c29:zW:=jS (jR [o 2 (.box 1 (.s 0)),o 3 (.box 2 (.s 1)),o 4 (.cst (.t (.QP)))] [2,3]) c29_0
def r29:List WC:=[.tmp 4]
def n29:Nat:=10
def c30_0:zW:=jX [m 50 10,m 51 0,m 52 1,m 53 2,m 54 3,o 55 (.call 67 [(.s 51),(.s 52),(.s 53),(.s 54)]),o 56 (.app 2 24 (.s 50) (.s 55)),m 8 56] [8]
def c30_1:zW:=jR [jB 49 .add 20 1,m 20 49] [0,1,2,3,9,10,18,19,20]
def c30_2:zW:=jR [m 39 10,m 40 3,o 41 (.bin .add (.s 40) (.c (.t (.str [47])))),f 42 1 12,l 43 42,o 44 (.call 64 [(.s 43)]),b 45 .add 41 44,o 46 (.build [jN 0,.t (.str [])] [(0,1,(.c (jN 28))),(1,1,(.s 45))]),o 47 (.bsl false 2 [[.int .i64 0,.str []]] [(0,(.s 46))]),o 48 (.app 2 24 (.s 39) (.s 47)),m 10 48] [0,1,2,3,9,10,18,19,20]
def c30_4:zW:=jS (jR [m 26 9,m 27 13,o 28 (.call 65 [(.s 26),(.s 27)]),m 29 11,b 30 .eql 28 29,m 31 30,gm 32 31 0,gm 33 31 9,gm 34 31 11,go 35 31 (.sll 2 (.s 33) (some (.s 34)) none),gm 36 31 13,go 37 31 (.call 66 [(.s 32),(.s 35),(.s 36)]),p 38 31 37] [0,1,2,3,9,10,12,18,19,20,38]) (jC 38 c30_2 .skip)
def c30_5:zW:=jS (jR [o 25 (.zb4 63 [(.s 12)]),m 13 25] [0,1,2,3,9,10,11,12,13,18,19,20]) c30_4
def c30_6:zW:=jS (jR [m 22 20,i 23 2 18 20,jL 24 2 23,o 12 (.alloc [.t (.str []),.t (.QP)]),m 11 22,jO (.st 2 (.s 12) (.s 24))] [0,1,2,3,9,10,11,12,18,19,20]) c30_5
def c30_9:zW:=jS (jR [b 21 .lss 20 19] [0,1,2,3,9,10,18,19,20,21]) (jS (jC 21 .skip (.exit 0)) (jS (.block 1 c30_6) c30_1))
def c30_12:zW:=jS (jS (jR [m 18 9,e 19 18,jI 20 0] [0,1,2,3,9,10,18,19,20]) (.block 0 (.loop c30_9))) c30_0
def c30_13:zW:=jS (jR [o 10 (.cst (.zV))] [0,1,2,3,9,10]) c30_12
def c30_14:zW:=jS (jR [m 14 0,m 15 1,m 16 2,o 17 (.call 62 [(.s 14),(.s 15),(.s 16)]),m 9 17] [0,1,2,3,9]) c30_13
def c30:zW:=jS (jR [o 8 (.cst (.zV))] [0,1,2,3]) c30_14
def r30:List WC:=[.tmp 8]
def n30:Nat:=57
def c31_1:zW:=jX [o 2 (.cst (.t (.str [81,117,101,114,121])))] [2]
def c31_2:zW:=jX [o 2 (.cst (.t (.str [77,117,116,97,116,105,111,110])))] [2]
def c31_3:zW:=jX [o 2 (.cst (.t (.str [83,117,98,115,99,114,105,112,116,105,111,110])))] [2]
def c31:zW:=jS (jR [o 2 (.cst (.t (.str [])))] [0]) (jS (jS (jR [m 3 0] [3]) (.block 0 (jS (jR [jB 5 .eql 3 1,m 4 5] [3,4]) (jC 4 c31_1 (jS (jR [jB 7 .eql 3 2,m 6 7] [3,6]) (jC 6 c31_2 (jS (jR [jB 9 .eql 3 3,m 8 9] [8]) (jC 8 c31_3 .skip)))))))) (jX [o 2 (.cst (.t (.str [])))] [2]))
def r31:List WC:=[.tmp 2]
def n31:Nat:=10
def c33_2:zW:=jS (jD [m 27 0,n 28 27,f 29 3 28,l 30 29,jL 31 5 3,jO (.nw (.z83 [.str,.ptr,.str,.ptr,.bool] (.s 30) (.s 31) (.c (jN 2))))] [[],[0],[1],[2],[],[3,4,0,1,2,3,4]] []) (jX [o 4 (.cst (.t (.bool true)))] [4])
def c33_4:zW:=jS (jS (jR [m 24 0,jL 25 5 3,o 26 (.call 69 [(.s 24),(.s 25)])] [0,3,26]) (jC 26 c33_2 .skip)) (jX [o 4 (.cst (.t (.bool false)))] [4])
def c33_5:zW:=jS (jD [m 19 0,n 20 19,f 21 3 20,l 22 21,jL 23 5 3,jO (.nw (.z83 [.str,.ptr,.str,.ptr,.bool] (.s 22) (.s 23) (.c (jN 1))))] [[],[0],[1],[2],[],[3,4,0,1,2,3,4]] [0,3]) c33_4
def c33_9:zW:=jS (jS (jD [m 8 0,n 9 8,f 10 3 9,l 11 10,jL 12 5 3,o 13 (.nw (.z2j [.str,.ptr,.str,.ptr,.bool] (jN 0) (.s 11) (.s 12))),m 7 13,x 14 7 0,x 15 7 1,m 5 14,m 6 15] [[],[0],[1],[2],[],[3,4],[5],[6],[6],[7,0,1,2,3,4,5,6,7],[8,9,0,1,2,3,4,5,6,7,8,9]] [0,3,5,6]) (jS (jR [m 16 6] [0,3,5,16]) (jC 16 (jX [m 17 5,jB 18 .eql 17 2,m 4 18] [4]) .skip))) c33_5
def c33:zW:=jS (jR [o 3 (.box 5 (.s 1)),o 4 (.cst (.t (.bool false)))] [0,3]) c33_9
def r33:List WC:=[.tmp 4]
def n33:Nat:=32
def c34_0:zW:=jS (jR [m 13 1,o 14 (.call 39 [(.s 13)]),u 15 14,m 16 15,gm 17 16 6,p 18 16 17,m 19 18,gf 20 19 0 5,gl 21 19 20,gB 22 19 .eql 21 1,gm 23 19 22,hf 24 23 0 5,hl 25 23 24,hB 26 23 .eql 25 2,go 27 19 (.pick (.s 23) (.c (.t (.bool true))) (.s 26)),gm 28 19 27,hf 29 28 0 5,hl 30 28 29,hB 31 28 .eql 30 3,go 32 19 (.pick (.s 28) (.c (.t (.bool true))) (.s 31)),p 33 19 32,m 4 33] [4]) .ret
def c34_1:zW:=jS (jR [jL 8 1 2,m 9 1,o 10 (.call 37 [(.s 8),(.s 9)]),m 7 10,x 11 7 0,x 12 7 1,o 5 (.alloc [jN 0,.t (.str []),.zV,.zV,.zV,.zV,.zV]),jO (.st 7 (.s 5) (.s 11)),m 6 12] [1,5,6]) c34_0
def c34:zW:=jS (jR [o 2 (.box 1 (.s 0)),o 4 (.cst (.t (.bool false)))] [1,2]) c34_1
def r34:List WC:=[.tmp 4]
def n34:Nat:=34
def c37_0:zW:=jX [o 27 (.build [jN 0,.t (.str []),.zV,.zV,.zV,.zV,.zV] []),jO (.st 7 (.s 4) (.s 27)),o 5 (.cst (.t (.bool false)))] [4,5]
def c37_1:zW:=jR [m 12 6,jB 13 .add 12 1,m 6 13] [1,2,4,6]
def c37_2:zW:=jX [f 22 0 2,l 23 22,m 24 6,i 25 7 23 24,jL 26 7 25,jO (.st 7 (.s 4) (.s 26)),o 5 (.cst (.t (.bool true)))] [4,5]
def c37_4:zW:=jS (jR [f 14 0 2,l 15 14,m 16 6,i 17 7 15 16,f 18 1 17,l 19 18,m 20 1,b 21 .eql 19 20] [1,2,4,6,21]) (jC 21 c37_2 .skip)
def c37_7:zW:=jS (jS (jR [m 7 6,f 8 0 2,l 9 8,e 10 9,b 11 .lss 7 10] [1,2,4,6,11]) (jC 11 .skip (.exit 0))) (jS (.block 1 c37_4) c37_1)
def c37:zW:=jS (jR [o 2 (.box 1 (.s 0)),o 4 (.alloc [jN 0,.t (.str []),.zV,.zV,.zV,.zV,.zV]),o 5 (.cst (.t (.bool false)))] [1,2,4]) (jS (jS (jR [jI 6 0] [1,2,4,6]) (.block 0 (.loop c37_7))) c37_0)
def r37:List WC:=[.cell 4 true 7,.tmp 5]
def n37:Nat:=28
def c38_0:zW:=jX [o 27 (.build [.t (.str []),.zV,.t (.str []),.zV,.zV] []),jO (.st 5 (.s 4) (.s 27)),o 5 (.cst (.t (.bool false)))] [4,5]
def c38_1:zW:=jR [m 12 6,jB 13 .add 12 1,m 6 13] [1,2,4,6]
def c38_2:zW:=jX [f 22 4 2,l 23 22,m 24 6,i 25 5 23 24,jL 26 5 25,jO (.st 5 (.s 4) (.s 26)),o 5 (.cst (.t (.bool true)))] [4,5]
def c38_4:zW:=jS (jR [f 14 4 2,l 15 14,m 16 6,i 17 5 15 16,f 18 0 17,l 19 18,m 20 1,b 21 .eql 19 20] [1,2,4,6,21]) (jC 21 c38_2 .skip)
def c38_7:zW:=jS (jS (jR [m 7 6,f 8 4 2,l 9 8,e 10 9,b 11 .lss 7 10] [1,2,4,6,11]) (jC 11 .skip (.exit 0))) (jS (.block 1 c38_4) c38_1)
def c38:zW:=jS (jR [o 2 (.box 7 (.s 0)),o 4 (.alloc [.t (.str []),.zV,.t (.str []),.zV,.zV]),o 5 (.cst (.t (.bool false)))] [1,2,4]) (jS (jS (jR [jI 6 0] [1,2,4,6]) (.block 0 (.loop c38_7))) c38_0)
def r38:List WC:=[.cell 4 true 5,.tmp 5]
def n38:Nat:=28
def c39_0:zW:=jS (jR [m 3 0,o 4 (.bin .eql (.s 3) (.c (.t (.str [73,110,116])))),m 5 4,hm 6 5 0,ho 7 5 (.bin .eql (.s 6) (.c (.t (.str [83,116,114,105,110,103])))),q 8 5 7,m 9 8,hm 10 9 0,ho 11 9 (.bin .eql (.s 10) (.c (.t (.str [66,111,111,108,101,97,110])))),q 12 9 11,m 13 12,hm 14 13 0,ho 15 13 (.bin .eql (.s 14) (.c (.t (.str [73,68])))),q 16 13 15,m 2 16] [2]) .ret
def c39:zW:=jS (jR [o 2 (.cst (.t (.bool false)))] [0]) c39_0
def r39:List WC:=[.tmp 2]
def n39:Nat:=17
def c40_0:zW:=jX [m 8 0,o 9 (.un .neg (.s 8)),o 10 (.call 72 [(.s 9)]),m 2 10] [2]
def c40_1:zW:=jS (jR [m 5 0,o 6 (.call 72 [(.s 5)]),o 7 (.bin .add (.c (.t (.str [45]))) (.s 6)),m 2 7] [2]) .ret
def c40_3:zW:=jS (jS (jR [m 3 0,jB 4 .lss 3 0] [0,4]) (jC 4 c40_1 .skip)) c40_0
def c40:zW:=jS (jR [o 2 (.cst (.t (.str [])))] [0]) c40_3
def r40:List WC:=[.tmp 2]
def n40:Nat:=11
def c41_1:zW:=jR [m 17 6,jB 18 .add 17 1,m 6 18] [0,1,5,6]
def c41_2:zW:=jR [m 34 7,jB 35 .add 34 1,m 7 35] [0,1,5,6,7]
def c41_3:zW:=jR [m 36 5,jB 37 .add 36 1,m 38 0,m 39 6,i 40 2 38 39,f 41 1 40,l 42 41,m 43 7,i 44 6 42 43,f 45 1 44,jL 46 5 45,m 47 1,o 48 (.call 73 [(.s 46),(.s 47)]),b 49 .add 37 48,m 5 49] [0,1,5,6,7]
def c41_6:zW:=jS (jS (jR [m 21 7,m 22 0,m 23 6,i 24 2 22 23,f 25 1 24,l 26 25,e 27 26,b 28 .lss 21 27,m 29 28,gm 30 29 5,gm 31 29 1,gb 32 29 .leq 30 31,p 33 29 32] [0,1,5,6,7,33]) (jC 33 .skip (.exit 2))) (jS (.block 3 c41_3) c41_2)
def c41_10:zW:=jS (jR [m 19 5,jB 20 .add 19 1,m 5 20] [0,1,5,6]) (jS (jR [jI 7 0] [0,1,5,6,7]) (.block 2 (.loop c41_6)))
def c41_13:zW:=jS (jS (jR [m 8 6,m 9 0,e 10 9,b 11 .lss 8 10,m 12 11,gm 13 12 5,gm 14 12 1,gb 15 12 .leq 13 14,p 16 12 15] [0,1,5,6,16]) (jC 16 .skip (.exit 0))) (jS (.block 1 c41_10) c41_1)
def c41_16:zW:=jS (jS (jR [jI 6 0] [0,1,5,6]) (.block 0 (.loop c41_13))) (jX [m 50 5,m 4 50] [4])
def c41:zW:=jS (jR [jI 4 0] [0,1]) (jS (jR [jI 5 0] [0,1,5]) c41_16)
def r41:List WC:=[.tmp 4]
def n41:Nat:=51
def c42_1:zW:=jR [m 16 6,jB 17 .add 16 1,m 6 17] [0,1,5,6]
def c42_2:zW:=jD [m 18 5,jB 19 .add 18 1,m 20 0,m 21 6,i 22 10 20 21,f 23 1 22,f 24 1 23,l 25 24,e 26 25,b 27 .add 19 26,m 28 0,m 29 6,i 30 10 28 29,f 31 4 30,jL 32 5 31,m 33 1,o 34 (.call 73 [(.s 32),(.s 33)]),b 35 .add 27 34,m 36 0,m 37 6,i 38 10 36 37,f 39 9 38,l 40 39,m 41 1,o 42 (.call 41 [(.s 40),(.s 41)]),b 43 .add 35 42,m 5 43] [[],[0],[],[],[2,3],[4],[5],[6],[7],[1,8],[],[],[10,11],[12],[13],[],[14,15],[9,16],[],[],[18,19],[20],[21],[],[22,23,16],[17,24],[25,24,0,1,2,3,4,5,6,7,8,9,10,11,12,13,14,15,16,17,18,19,20,21,22,23,24,25]] [0,1,5,6]
def c42_5:zW:=jS (jS (jR [m 7 6,m 8 0,e 9 8,b 10 .lss 7 9,m 11 10,gm 12 11 5,gm 13 11 1,gb 14 11 .leq 12 13,p 15 11 14] [0,1,5,6,15]) (jC 15 .skip (.exit 0))) (jS (.block 1 c42_2) c42_1)
def c42:zW:=jS (jR [jI 4 0] [0,1]) (jS (jR [jI 5 0] [0,1,5]) (jS (jS (jR [jI 6 0] [0,1,5,6]) (.block 0 (.loop c42_5))) (jX [m 44 5,m 4 44] [4])))
def r42:List WC:=[.tmp 4]
def n42:Nat:=45
def c43_1:zW:=jX [f 58 4 1,l 59 58,o 60 (.call 75 [(.s 59)]),m 61 60,gm 62 61 6,p 63 61 62,m 64 63,gm 65 64 7,p 66 64 65,m 2 66] [2]
def c43_2:zW:=jX [m 69 4,m 70 69,gf 71 70 4 1,gl 72 70 71,go 73 70 (.call 75 [(.s 72)]),p 74 70 73,m 75 74,gm 76 75 6,p 77 75 76,m 78 77,gm 79 78 7,p 80 78 79,m 2 80] [2]
def c43_3:zW:=jS (jR [m 83 4,m 84 83,gm 85 84 5,p 86 84 85,m 87 86,gf 88 87 5 1,gl 89 87 88,go 90 87 (.call 76 [(.s 89),(.c (.t (.bool true)))]),p 91 87 90,m 92 91,gm 93 92 7,p 94 92 93,m 2 94] [2]) .ret
def c43_4:zW:=jS (jR [m 97 4,m 98 97,gm 99 98 5,p 100 98 99,m 101 100,gf 102 101 5 1,gl 103 101 102,go 104 101 (.call 76 [(.s 103),(.c (.t (.bool false)))]),p 105 101 104,m 106 105,gm 107 106 7,p 108 106 107,m 2 108] [2]) .ret
def c43_5:zW:=jX [m 111 4,m 112 111,gm 113 112 5,p 114 112 113,m 115 114,gm 116 115 6,p 117 115 116,m 118 117,gf 119 118 6 1,gl 120 118 119,ge 121 118 120,gB 122 118 .gtr 121 0,p 123 118 122,m 124 123,gf 125 124 6 1,gl 126 124 125,go 127 124 (.call 77 [(.s 126)]),p 128 124 127,m 2 128] [2]
def c43_7:zW:=jS (jR [jB 110 .eql 55 5,m 109 110] [1,4,5,6,109]) (jC 109 c43_5 .skip)
def c43_9:zW:=jS (jR [jB 96 .eql 55 4,m 95 96] [1,4,5,6,7,55,95]) (jC 95 c43_4 c43_7)
def c43_11:zW:=jS (jR [jB 82 .eql 55 3,m 81 82] [1,4,5,6,7,55,81]) (jC 81 c43_3 c43_9)
def c43_13:zW:=jS (jR [jB 68 .eql 55 2,m 67 68] [1,4,5,6,7,55,67]) (jC 67 c43_2 c43_11)
def c43_15:zW:=jS (jR [jB 57 .eql 55 1,m 56 57] [1,4,5,6,7,55,56]) (jC 56 c43_1 c43_13)
def c43_17:zW:=jS (jS (jR [f 54 0 1,l 55 54] [1,4,5,6,7,55]) (.block 2 c43_15)) (jX [o 2 (.cst (.t (.bool false)))] [2])
def c43_18:zW:=jS (jD [f 38 2 1,l 39 38,e 40 39,jB 41 .eql 40 0,f 42 4 1,l 43 42,e 44 43,jB 45 .eql 44 0,f 46 5 1,l 47 46,e 48 47,jB 49 .eql 48 0,f 50 6 1,l 51 50,e 52 51,jB 53 .eql 52 0,m 4 41,m 5 45,m 6 49,m 7 53] [[],[0],[1],[2],[],[4],[5],[6],[],[8],[9],[10],[],[12],[13],[14],[3,0,1,2,3],[7,16,0,1,2,3,4,5,6,7,16],[11,17,0,1,2,3,4,5,6,7,8,9,10,11,16,17],[15,18,0,1,2,3,4,5,6,7,8,9,10,11,12,13,14,15,16,17,18]] [1,4,5,6,7]) c43_17
def c43_22:zW:=jS (jR [f 31 2 1,l 32 31,m 33 3,i 34 1 32 33,l 35 34,o 36 (.call 45 [(.s 35)]),u 37 36] [1,3,37]) (jC 37 (jX [o 2 (.cst (.t (.bool false)))] [2]) .skip)
def c43_25:zW:=jS (jS (jR [m 24 3,f 25 2 1,l 26 25,e 27 26,b 28 .lss 24 27] [1,3,28]) (jC 28 .skip (.exit 0))) (jS (.block 1 c43_22) (jR [m 29 3,jB 30 .add 29 1,m 3 30] [1,3]))
def c43_31:zW:=jS (jS (jR [f 8 1 1,l 9 8,o 10 (.call 45 [(.s 9)]),u 11 10,m 12 11,hf 13 12 3 1,hl 14 12 13,ho 15 12 (.call 74 [(.s 14)]),ho 16 12 (.un .not (.s 15)),q 17 12 16,m 18 17,hf 19 18 2 1,hl 20 18 19,he 21 18 20,hB 22 18 .gtr 21 64,q 23 18 22] [1,23]) (jC 23 (jX [o 2 (.cst (.t (.bool false)))] [2]) .skip)) (jS (jS (jR [jI 3 0] [1,3]) (.block 0 (.loop c43_25))) c43_18)
def c43:zW:=jS (jR [o 1 (.box 7 (.s 0)),o 2 (.cst (.t (.bool false)))] [1]) c43_31
def r43:List WC:=[.tmp 2]
def n43:Nat:=129
def c44_1:zW:=jR [m 17 6,jB 18 .add 17 1,m 6 18] [0,1,5,6]
def c44_2:zW:=jR [m 62 5,m 63 0,m 64 6,i 65 7 63 64,f 66 6 65,l 67 66,m 68 1,m 69 5,b 70 .sub 68 69,o 71 (.call 44 [(.s 67),(.s 70)]),b 72 .add 62 71,m 5 72] [0,1,5,6]
def c44_3:zW:=jR [m 48 7,jB 49 .add 48 1,m 7 49] [0,1,5,6,7]
def c44_4:zW:=jR [m 50 5,m 51 0,m 52 6,i 53 7 51 52,f 54 4 53,l 55 54,m 56 7,i 57 6 55 56,f 58 1 57,jL 59 5 58,o 60 (.call 78 [(.s 59)]),b 61 .add 50 60,m 5 61] [0,1,5,6,7]
def c44_7:zW:=jS (jS (jR [m 35 7,m 36 0,m 37 6,i 38 7 36 37,f 39 4 38,l 40 39,e 41 40,b 42 .lss 35 41,m 43 42,gm 44 43 5,gm 45 43 1,gb 46 43 .leq 44 45,p 47 43 46] [0,1,5,6,7,47]) (jC 47 .skip (.exit 2))) (jS (.block 3 c44_4) c44_3)
def c44_10:zW:=jS (jS (jR [jI 7 0] [0,1,5,6,7]) (.block 2 (.loop c44_7))) c44_2
def c44_11:zW:=jS (jD [m 19 5,jB 20 .add 19 1,m 21 0,m 22 6,i 23 7 21 22,f 24 4 23,l 25 24,e 26 25,b 27 .add 20 26,m 28 0,m 29 6,i 30 7 28 29,f 31 5 30,l 32 31,e 33 32,b 34 .add 27 33,m 5 34] [[],[0],[],[],[2,3],[4],[5],[6],[1,7],[],[],[9,10],[11],[12],[13],[8,14],[15,0,1,2,3,4,5,6,7,8,9,10,11,12,13,14,15]] [0,1,5,6]) c44_10
def c44_14:zW:=jS (jS (jR [m 8 6,m 9 0,e 10 9,b 11 .lss 8 10,m 12 11,gm 13 12 5,gm 14 12 1,gb 15 12 .leq 13 14,p 16 12 15] [0,1,5,6,16]) (jC 16 .skip (.exit 0))) (jS (.block 1 c44_11) c44_1)
def c44_17:zW:=jS (jS (jR [jI 6 0] [0,1,5,6]) (.block 0 (.loop c44_14))) (jX [m 73 5,m 4 73] [4])
def c44:zW:=jS (jR [jI 4 0] [0,1]) (jS (jR [jI 5 0] [0,1,5]) c44_17)
def r44:List WC:=[.tmp 4]
def n44:Nat:=74
def c45_4:zW:=jS (jR [m 18 0,m 19 3,o 20 (.ixs (.s 18) (.s 19)),o 21 (.call 79 [(.s 20)]),u 22 21,m 23 22,gm 24 23 3,gB 25 23 .eql 24 0,gm 26 23 25,hm 27 26 0,hm 28 26 3,ho 29 26 (.ixs (.s 27) (.s 28)),ho 30 26 (.call 80 [(.s 29)]),ho 31 26 (.un .not (.s 30)),go 32 23 (.pick (.s 26) (.c (.t (.bool true))) (.s 31)),p 33 23 32] [0,3,33]) (jC 33 (jX [o 2 (.cst (.t (.bool false)))] [2]) .skip)
def c45_7:zW:=jS (jS (jR [m 12 3,m 13 0,o 14 (.lens (.s 13)),b 15 .lss 12 14] [0,3,15]) (jC 15 .skip (.exit 0))) (jS (.block 1 c45_4) (jR [m 16 3,jB 17 .add 16 1,m 3 17] [0,3]))
def c45_13:zW:=jS (jS (jR [m 4 0,o 5 (.lens (.s 4)),jB 6 .lss 5 1,m 7 6,hm 8 7 0,ho 9 7 (.lens (.s 8)),hB 10 7 .gtr 9 64,q 11 7 10] [0,11]) (jC 11 (jX [o 2 (.cst (.t (.bool false)))] [2]) .skip)) (jS (jS (jR [jI 3 0] [0,3]) (.block 0 (.loop c45_7))) (jX [o 2 (.cst (.t (.bool true)))] [2]))
def c45:zW:=jS (jR [o 2 (.cst (.t (.bool false)))] [0]) c45_13
def r45:List WC:=[.tmp 2]
def n45:Nat:=34
def c46_0:zW:=jX [m 46 0,e 47 46,jB 48 .leq 47 16,m 2 48] [2]
def c46_4:zW:=jS (jR [f 37 3 4,l 38 37,u 39 38,m 40 39,gf 41 40 4 4,gf 42 40 0 41,gl 43 40 42,gB 44 40 .neq 43 0,p 45 40 44] [0,3,45]) (jC 45 (jX [o 2 (.cst (.t (.bool false)))] [2]) .skip)
def c46_7:zW:=jS (jS (jR [f 15 0 4,l 16 15,o 17 (.call 45 [(.s 16)]),u 18 17,m 19 18,hf 20 19 1 4,hL 21 19 2 20,ho 22 19 (.call 81 [(.s 21)]),ho 23 19 (.un .not (.s 22)),q 24 19 23,m 25 24,hf 26 25 4 4,hL 27 25 5 26,ho 28 25 (.call 82 [(.s 27)]),ho 29 25 (.un .not (.s 28)),q 30 25 29,m 31 30,hf 32 31 4 4,hL 33 31 5 32,ho 34 31 (.call 83 [(.s 33)]),ho 35 31 (.un .not (.s 34)),q 36 31 35] [0,3,4,36]) (jC 36 (jX [o 2 (.cst (.t (.bool false)))] [2]) .skip)) c46_4
def c46_8:zW:=jS (jR [m 11 0,m 12 3,i 13 9 11 12,jL 14 9 13,o 4 (.alloc [.t (.str []),.t (.str []),.zV,.t (.bool false),jN 0,jN 0,.t (.str []),.zV,.zV]),jO (.st 9 (.s 4) (.s 14))] [0,3,4]) c46_7
def c46_11:zW:=jS (jS (jR [m 5 3,m 6 0,e 7 6,b 8 .lss 5 7] [0,3,8]) (jC 8 .skip (.exit 0))) (jS (.block 1 c46_8) (jR [m 9 3,jB 10 .add 9 1,m 3 10] [0,3]))
def c46:zW:=jS (jR [o 2 (.cst (.t (.bool false)))] [0]) (jS (jS (jR [jI 3 0] [0,3]) (.block 0 (.loop c46_11))) c46_0)
def r46:List WC:=[.tmp 2]
def n46:Nat:=49
def c47_4:zW:=jS (jR [m 24 0,m 25 5,i 26 7 24 25,jL 27 7 26,m 28 1,o 29 (.call 84 [(.s 27),(.s 28)]),u 30 29] [0,1,5,30]) (jC 30 (jX [o 4 (.cst (.t (.bool false)))] [4]) .skip)
def c47_7:zW:=jS (jS (jR [m 18 5,m 19 0,e 20 19,b 21 .lss 18 20] [0,1,5,21]) (jC 21 .skip (.exit 0))) (jS (.block 1 c47_4) (jR [m 22 5,jB 23 .add 22 1,m 5 23] [0,1,5]))
def c47_13:zW:=jS (jS (jR [m 6 0,e 7 6,jB 8 .eql 7 0,m 9 8,hm 10 9 0,he 11 9 10,hB 12 9 .gtr 11 64,q 13 9 12,m 14 13,hm 15 14 1,hB 16 14 .gtr 15 24,q 17 14 16] [0,1,17]) (jC 17 (jX [o 4 (.cst (.t (.bool false)))] [4]) .skip)) (jS (jS (jR [jI 5 0] [0,1,5]) (.block 0 (.loop c47_7))) (jX [o 4 (.cst (.t (.bool true)))] [4]))
def c47:zW:=jS (jR [o 4 (.cst (.t (.bool false)))] [0,1]) c47_13
def r47:List WC:=[.tmp 4]
def n47:Nat:=31
def c48_0:zW:=jS (jR [m 3 0,o 4 (.call 45 [(.s 3)]),m 5 4,gm 6 5 0,go 7 5 (.bin .neq (.s 6) (.c (.t (.str [111,110])))),p 8 5 7,m 2 8] [2]) .ret
def c48:zW:=jS (jR [o 2 (.cst (.t (.bool false)))] [0]) c48_0
def r48:List WC:=[.tmp 2]
def n48:Nat:=9
def c49_0:zW:=jX [m 93 8,m 4 93] [4]
def c49_1:zW:=jR [m 87 8,f 88 1 5,l 89 88,o 90 (.build [jN 0,.t (.str [])] [(0,1,(.c (jN 5))),(1,1,(.s 89))]),o 91 (.bsl false 2 [[.int .i64 0,.str []]] [(0,(.s 90))]),o 92 (.app 2 24 (.s 87) (.s 91)),m 8 92] [8]
def c49_3:zW:=jS (jS (jR [jL 84 1 2,jL 85 7 5,o 86 (.call 87 [(.s 84),(.s 85)])] [5,8,86]) (jC 86 c49_1 .skip)) c49_0
def c49_4:zW:=jR [m 78 8,f 79 1 5,l 80 79,o 81 (.build [jN 0,.t (.str [])] [(0,1,(.c (jN 9))),(1,1,(.s 80))]),o 82 (.bsl false 2 [[.int .i64 0,.str []]] [(0,(.s 81))]),o 83 (.app 2 24 (.s 78) (.s 82)),m 8 83] [2,5,8]
def c49_6:zW:=jS (jS (jR [m 62 9,m 63 62,gf 64 63 0 5,gl 65 63 64,gB 66 63 .neq 65 1,p 67 63 66,m 68 67,hf 69 68 0 5,hl 70 68 69,hB 71 68 .lss 70 1,q 72 68 71,m 73 72,hf 74 73 0 5,hl 75 73 74,hB 76 73 .gtr 75 5,q 77 73 76] [2,5,8,77]) (jC 77 c49_4 .skip)) c49_3
def c49_7:zW:=jS (jR [f 49 1 5,l 50 49,o 51 (.bin .eql (.s 50) (.c (.t (.str [81,117,101,114,121])))),m 52 51,hf 53 52 1 5,hl 54 52 53,ho 55 52 (.bin .eql (.s 54) (.c (.t (.str [77,117,116,97,116,105,111,110])))),q 56 52 55,m 57 56,hf 58 57 1 5,hl 59 57 58,ho 60 57 (.bin .eql (.s 59) (.c (.t (.str [83,117,98,115,99,114,105,112,116,105,111,110])))),q 61 57 60,m 9 61] [2,5,8,9]) c49_6
def c49_8:zW:=jR [m 43 8,f 44 1 5,l 45 44,o 46 (.build [jN 0,.t (.str [])] [(0,1,(.c (jN 8))),(1,1,(.s 45))]),o 47 (.bsl false 2 [[.int .i64 0,.str []]] [(0,(.s 46))]),o 48 (.app 2 24 (.s 43) (.s 47)),m 8 48] [2,5,8]
def c49_10:zW:=jS (jS (jR [jL 41 7 5,o 42 (.call 86 [(.s 41)])] [2,5,8,42]) (jC 42 c49_8 .skip)) c49_7
def c49_11:zW:=jS (jR [f 35 1 5,l 36 35,m 37 6,f 38 1 5,l 39 38,o 40 (.call 85 [(.s 36),(.c (.t (.bool false))),(.s 37),(.s 39)]),m 8 40] [2,5,8]) c49_10
def c49_12:zW:=jR [m 21 7,jB 22 .add 21 1,m 7 22] [1,2,5,6,7]
def c49_13:zW:=jD [m 23 6,m 24 23,hf 25 24 0 2,hl 26 24 25,hm 27 24 7,hi 28 24 7 26 27,hf 29 24 1 28,hl 30 24 29,hf 31 24 1 5,hl 32 24 31,hb 33 24 .eql 30 32,q 34 24 33,m 6 34] [[],[0],[1],[2,1],[1],[3,4,1],[5,1],[6,1],[1],[8,1],[7,9,1],[1,10],[11,1,0,1,2,3,4,5,6,7,8,9,10,11]] [1,2,5,6,7]
def c49_16:zW:=jS (jS (jR [m 18 7,m 19 1,b 20 .lss 18 19] [1,2,5,6,7,20]) (jC 20 .skip (.exit 0))) (jS (.block 1 c49_13) c49_12)
def c49_19:zW:=jS (jS (jR [jI 7 0] [1,2,5,6,7]) (.block 0 (.loop c49_16))) c49_11
def c49_20:zW:=jS (jR [f 15 1 5,l 16 15,o 17 (.call 39 [(.s 16)]),m 6 17] [1,2,5,6]) c49_19
def c49_21:zW:=jS (jR [f 10 0 2,l 11 10,m 12 1,i 13 7 11 12,jL 14 7 13,o 5 (.alloc [jN 0,.t (.str []),.zV,.zV,.zV,.zV,.zV]),jO (.st 7 (.s 5) (.s 14))] [1,2,5]) c49_20
def c49:zW:=jS (jR [o 2 (.box 1 (.s 0)),o 4 (.cst (.zV))] [1,2]) c49_21
def r49:List WC:=[.tmp 4]
def n49:Nat:=94
def c50_1:zW:=jR [m 18 6,jB 19 .add 18 1,m 6 19] [2,3,5,6]
def c50_2:zW:=jR [m 86 5,jL 87 1 2,f 88 1 7,l 89 88,m 90 8,o 91 (.bin .add (.s 90) (.c (.t (.str [40])))),o 92 (.call 52 [(.s 87),(.s 89),(.s 91),(.c (.t (.str [41])))]),o 93 (.app 2 24 (.s 86) (.s 92)),m 5 93] [2,3,5,6]
def c50_3:zW:=jR [m 63 5,m 64 8,o 65 (.build [jN 0,.t (.str [])] [(0,1,(.c (jN 8))),(1,1,(.s 64))]),o 66 (.bsl false 2 [[.int .i64 0,.str []]] [(0,(.s 65))]),o 67 (.app 2 24 (.s 63) (.s 66)),m 5 67] [2,3,5,6,7,8]
def c50_4:zW:=jR [m 81 5,m 82 8,o 83 (.build [jN 0,.t (.str [])] [(0,1,(.c (jN 10))),(1,1,(.s 82))]),o 84 (.bsl false 2 [[.int .i64 0,.str []]] [(0,(.s 83))]),o 85 (.app 2 24 (.s 81) (.s 84)),m 5 85] [2,3,5,6,7,8]
def c50_6:zW:=jS (jR [f 68 2 7,f 69 0 68,l 70 69,o 71 (.call 39 [(.s 70)]),u 72 71,m 73 72,gm 74 73 12,p 75 73 74,m 76 75,gf 77 76 0 11,gl 78 76 77,gB 79 76 .eql 78 5,p 80 76 79] [2,3,5,6,7,8,80]) (jC 80 c50_4 .skip)
def c50_8:zW:=jS (jS (jR [jL 57 1 2,f 58 2 7,f 59 0 58,l 60 59,o 61 (.call 88 [(.s 57),(.s 60)]),u 62 61] [2,3,5,6,7,8,11,12,62]) (jC 62 c50_3 c50_6)) c50_2
def c50_9:zW:=jS (jR [jL 50 1 2,f 51 2 7,f 52 0 51,l 53 52,o 54 (.call 37 [(.s 50),(.s 53)]),m 49 54,x 55 49 0,x 56 49 1,o 11 (.alloc [jN 0,.t (.str []),.zV,.zV,.zV,.zV,.zV]),jO (.st 7 (.s 11) (.s 55)),m 12 56] [2,3,5,6,7,8,11,12]) c50_8
def c50_10:zW:=jS (jR [m 42 5,f 43 0 7,l 44 43,m 45 10,m 46 8,o 47 (.call 85 [(.s 44),(.c (.t (.bool false))),(.s 45),(.s 46)]),o 48 (.app 2 24 (.s 42) (.s 47)),m 5 48] [2,3,5,6,7,8]) c50_9
def c50_11:zW:=jS (jD [f 32 4 3,l 33 32,m 34 6,o 35 (.sll 5 (.s 33) none (some (.s 34))),o 36 (.build [jN 0,.t (.str []),.zV,.zV,.zV,.zV,.zV] [(4,1,(.s 35))]),f 37 0 7,l 38 37,o 39 (.call 38 [(.s 36),(.s 38)]),m 31 39,x 40 31 0,x 41 31 1,o 9 (.alloc [.t (.str []),.zV,.t (.str []),.zV,.zV]),jO (.st 5 (.s 9) (.s 40)),m 10 41] [[],[0],[],[1,2],[3],[],[5],[4,6],[7],[8],[8],[],[11,9,7,0,1,2,3,4,5,6,7,8,9,11],[10,12,0,1,2,3,4,5,6,7,8,9,10,11,12]] [2,3,5,6,7,8,10]) c50_10
def c50_12:zW:=jS (jR [f 25 1 3,l 26 25,o 27 (.bin .add (.s 26) (.c (.t (.str [46])))),f 28 0 7,l 29 28,b 30 .add 27 29,m 8 30] [2,3,5,6,7,8]) c50_11
def c50_13:zW:=jS (jR [f 20 4 3,l 21 20,m 22 6,i 23 5 21 22,jL 24 5 23,o 7 (.alloc [.t (.str []),.zV,.t (.str []),.zV,.zV]),jO (.st 5 (.s 7) (.s 24))] [2,3,5,6,7]) c50_12
def c50_16:zW:=jS (jS (jR [m 13 6,f 14 4 3,l 15 14,e 16 15,b 17 .lss 13 16] [2,3,5,6,17]) (jC 17 .skip (.exit 0))) (jS (.block 1 c50_13) c50_1)
def c50_19:zW:=jS (jS (jR [jI 6 0] [2,3,5,6]) (.block 0 (.loop c50_16))) (jX [m 94 5,m 4 94] [4])
def c50:zW:=jS (jR [o 2 (.box 1 (.s 0)),o 3 (.box 7 (.s 1)),o 4 (.cst (.zV))] [2,3]) (jS (jR [o 5 (.cst (.zV))] [2,3,5]) c50_19)
def r50:List WC:=[.tmp 4]
def n50:Nat:=95
def c51_2:zW:=jR [m 37 3,m 38 5,m 39 5,o 40 (.bin .eql (.s 39) (.c (.t (.str [116,114,117,101])))),m 41 40,hm 42 41 5,ho 43 41 (.bin .eql (.s 42) (.c (.t (.str [102,97,108,115,101])))),q 44 41 43,m 45 44,hm 46 45 5,ho 47 45 (.bin .eql (.s 46) (.c (.t (.str [110,117,108,108])))),q 48 45 47,m 49 6,f 50 1 1,l 51 50,o 52 (.bin .add (.s 51) (.c (.t (.str [46])))),m 53 5,b 54 .add 52 53,o 55 (.call 85 [(.s 38),(.s 48),(.s 49),(.s 54)]),o 56 (.app 2 24 (.s 37) (.s 55)),m 3 56] [1,3,4]
def c51_3:zW:=jR [m 24 7,jB 25 .add 24 1,m 7 25] [1,3,4,5,6,7]
def c51_4:zW:=jR [m 26 6,m 27 26,hf 28 27 5 1,hl 29 27 28,hm 30 27 7,hi 31 27 2 29 30,hf 32 27 0 31,hl 33 27 32,hm 34 27 5,hb 35 27 .eql 33 34,q 36 27 35,m 6 36] [1,3,4,5,6,7]
def c51_7:zW:=jS (jS (jR [m 21 7,m 22 4,b 23 .lss 21 22] [1,3,4,5,6,7,23]) (jC 23 .skip (.exit 2))) (jS (.block 3 c51_4) c51_3)
def c51_10:zW:=jS (jS (jR [jI 7 0] [1,3,4,5,6,7]) (.block 2 (.loop c51_7))) c51_2
def c51_11:zW:=jS (jR [o 6 (.cst (.t (.bool false)))] [1,3,4,5,6]) c51_10
def c51_12:zW:=jS (jR [f 15 5 1,l 16 15,m 17 4,i 18 2 16 17,f 19 0 18,l 20 19,m 5 20] [1,3,4,5]) c51_11
def c51_15:zW:=jS (jS (jR [m 8 4,f 9 5 1,l 10 9,e 11 10,b 12 .lss 8 11] [1,3,4,12]) (jC 12 .skip (.exit 0))) (jS (.block 1 c51_12) (jR [m 13 4,jB 14 .add 13 1,m 4 14] [1,3,4]))
def c51:zW:=jS (jR [o 1 (.box 7 (.s 0)),o 2 (.cst (.zV))] [1]) (jS (jR [o 3 (.cst (.zV))] [1,3]) (jS (jS (jR [jI 4 0] [1,3,4]) (.block 0 (.loop c51_15))) (jX [m 57 3,m 2 57] [2])))
def r51:List WC:=[.tmp 2]
def n51:Nat:=58
def c52_1:zW:=jR [m 18 10,jB 19 .add 18 1,m 10 19] [1,2,3,4,9,10]
def c52_2:zW:=jR [m 60 9,m 61 11,o 62 (.build [jN 0,.t (.str [])] [(0,1,(.c (jN 8))),(1,1,(.s 61))]),o 63 (.bsl false 2 [[.int .i64 0,.str []]] [(0,(.s 62))]),o 64 (.app 2 24 (.s 60) (.s 63)),m 9 64] [1,2,3,4,9,10]
def c52_3:zW:=jR [m 74 9,m 75 11,o 76 (.build [jN 0,.t (.str [])] [(0,1,(.c (jN 10))),(1,1,(.s 75))]),o 77 (.bsl false 2 [[.int .i64 0,.str []]] [(0,(.s 76))]),o 78 (.app 2 24 (.s 74) (.s 77)),m 9 78] [1,2,3,4,9,10]
def c52_5:zW:=jS (jD [jL 65 1 4,m 66 1,m 67 10,i 68 10 66 67,f 69 1 68,f 70 0 69,l 71 70,o 72 (.call 90 [(.s 65),(.s 71)]),u 73 72] [[],[],[],[1,2],[3],[4],[5],[0,6],[7]] [1,2,3,4,9,10,11,73]) (jC 73 c52_3 .skip)
def c52_7:zW:=jS (jD [jL 51 1 4,m 52 1,m 53 10,i 54 10 52 53,f 55 1 54,f 56 0 55,l 57 56,o 58 (.call 88 [(.s 51),(.s 57)]),u 59 58] [[],[],[],[1,2],[3],[4],[5],[0,6],[7]] [1,2,3,4,9,10,11,59]) (jC 59 c52_2 c52_5)
def c52_8:zW:=jS (jR [m 41 9,m 42 1,m 43 10,i 44 10 42 43,f 45 0 44,l 46 45,m 47 13,m 48 11,o 49 (.call 85 [(.s 46),(.c (.t (.bool false))),(.s 47),(.s 48)]),o 50 (.app 2 24 (.s 41) (.s 49)),m 9 50] [1,2,3,4,9,10,11]) c52_7
def c52_9:zW:=jS (jD [m 30 1,m 31 10,o 32 (.sll 10 (.s 30) none (some (.s 31))),m 33 1,m 34 10,i 35 10 33 34,f 36 0 35,l 37 36,o 38 (.call 89 [(.s 32),(.s 37)]),m 29 38,x 39 29 0,x 40 29 1,o 12 (.alloc [.t (.str []),.t (.str []),.zV,.t (.bool false),jN 0,jN 0,.t (.str []),.zV,.zV,.zV]),jO (.st 10 (.s 12) (.s 39)),m 13 40] [[],[],[0,1],[],[],[3,4],[5],[6],[2,7],[8],[9],[9],[],[12,10,8,0,1,2,3,4,5,6,7,8,9,10,12],[11,13,0,1,2,3,4,5,6,7,8,9,10,11,12,13]] [1,2,3,4,9,10,11,13]) c52_8
def c52_10:zW:=jS (jR [m 20 2,m 21 1,m 22 10,i 23 10 21 22,f 24 0 23,l 25 24,b 26 .add 20 25,m 27 3,b 28 .add 26 27,m 11 28] [1,2,3,4,9,10,11]) c52_9
def c52_13:zW:=jS (jS (jR [m 14 10,m 15 1,e 16 15,b 17 .lss 14 16] [1,2,3,4,9,10,17]) (jC 17 .skip (.exit 0))) (jS (.block 1 c52_10) c52_1)
def c52_16:zW:=jS (jS (jR [jI 10 0] [1,2,3,4,9,10]) (.block 0 (.loop c52_13))) (jX [m 79 9,m 8 79] [8])
def c52_17:zW:=jS (jR [o 9 (.cst (.zV))] [1,2,3,4,9]) c52_16
def c52:zW:=jS (jR [o 4 (.box 1 (.s 0)),o 8 (.cst (.zV))] [1,2,3,4]) c52_17
def r52:List WC:=[.tmp 8]
def n52:Nat:=80
def c53_1:zW:=jR [m 16 6,jB 17 .add 16 1,m 6 17] [2,3,5,6]
def c53_2:zW:=jR [m 63 10,jB 64 .add 63 1,m 10 64] [2,3,5,6,8,10]
def c53_3:zW:=jD [m 65 5,jL 66 1 2,jL 67 7 3,f 68 4 8,l 69 68,m 70 10,i 71 5 69 70,jL 72 5 71,o 73 (.call 93 [(.s 66),(.s 67),(.s 72)]),o 74 (.app 2 24 (.s 65) (.s 73)),m 5 74] [[],[],[],[],[3],[],[4,5],[6],[1,2,7],[0,8,8],[9,9,0,1,2,3,4,5,6,7,8,9]] [2,3,5,6,8,10]
def c53_6:zW:=jS (jS (jR [m 58 10,f 59 4 8,l 60 59,e 61 60,b 62 .lss 58 61] [2,3,5,6,8,10,62]) (jC 62 .skip (.exit 2))) (jS (.block 3 c53_3) c53_2)
def c53_10:zW:=jS (jD [jL 49 1 2,f 50 2 3,l 51 50,m 52 6,i 53 1 51 52,l 54 53,o 55 (.call 37 [(.s 49),(.s 54)]),m 48 55,x 56 48 0,x 57 48 1,o 8 (.alloc [jN 0,.t (.str []),.zV,.zV,.zV,.zV,.zV]),jO (.st 7 (.s 8) (.s 56)),m 9 57] [[],[],[1],[],[2,3],[4],[0,5],[6],[7],[7],[],[10,8,6,0,1,2,3,4,5,6,7,8,10],[9,11,0,1,2,3,4,5,6,7,8,9,10,11]] [2,3,5,6,8]) (jS (jR [jI 10 0] [2,3,5,6,8,10]) (.block 2 (.loop c53_6)))
def c53_11:zW:=jS (jR [m 41 5,m 42 7,f 43 1 3,l 44 43,o 45 (.build [jN 0,.t (.str [])] [(0,1,(.s 42)),(1,1,(.s 44))]),o 46 (.bsl false 2 [[.int .i64 0,.str []]] [(0,(.s 45))]),o 47 (.app 2 24 (.s 41) (.s 46)),m 5 47] [2,3,5,6]) (.exit 1)
def c53_13:zW:=jS (jS (jR [m 39 7,jB 40 .neq 39 0] [2,3,5,6,7,40]) (jC 40 c53_11 .skip)) c53_10
def c53_16:zW:=jS (jS (jD [m 25 7,jB 26 .eql 25 0,m 27 26,gf 28 27 2 3,gl 29 27 28,gm 30 27 6,go 31 27 (.sll 1 (.s 29) none (some (.s 30))),gf 32 27 2 3,gl 33 27 32,gm 34 27 6,gi 35 27 1 33 34,gl 36 27 35,go 37 27 (.call 92 [(.s 31),(.s 36)]),p 38 27 37] [[],[0],[1],[2],[3,2],[2],[4,5,2],[2],[7,2],[2],[8,9,2],[10,2],[6,11,2,2],[2,12]] [2,3,5,6,7,38]) (jC 38 (jR [jI 7 7] [2,3,5,6,7]) .skip)) c53_13
def c53_17:zW:=jS (jD [jL 18 1 2,f 19 2 3,l 20 19,m 21 6,i 22 1 20 21,l 23 22,o 24 (.call 91 [(.s 18),(.s 23),(.c (jN 2))]),m 7 24] [[],[],[1],[],[2,3],[4],[0,5],[6,6,0,1,2,3,4,5,6]] [2,3,5,6,7]) c53_16
def c53_20:zW:=jS (jS (jR [m 11 6,f 12 2 3,l 13 12,e 14 13,b 15 .lss 11 14] [2,3,5,6,15]) (jC 15 .skip (.exit 0))) (jS (.block 1 c53_17) c53_1)
def c53_23:zW:=jS (jS (jR [jI 6 0] [2,3,5,6]) (.block 0 (.loop c53_20))) (jX [m 75 5,m 4 75] [4])
def c53:zW:=jS (jR [o 2 (.box 1 (.s 0)),o 3 (.box 7 (.s 1)),o 4 (.cst (.zV))] [2,3]) (jS (jR [o 5 (.cst (.zV))] [2,3,5]) c53_23)
def r53:List WC:=[.tmp 4]
def n53:Nat:=76
def c54_1:zW:=jR [m 14 6,jB 15 .add 14 1,m 6 15] [2,3,5,6]
def c54_2:zW:=jR [m 38 5,m 39 8,f 40 1 3,l 41 40,o 42 (.bin .add (.s 41) (.c (.t (.str [46])))),m 43 7,b 44 .add 42 43,o 45 (.build [jN 0,.t (.str [])] [(0,1,(.s 39)),(1,1,(.s 44))]),o 46 (.bsl false 2 [[.int .i64 0,.str []]] [(0,(.s 45))]),o 47 (.app 2 24 (.s 38) (.s 46)),m 5 47] [2,3,5,6]
def c54_4:zW:=jS (jR [m 36 8,jB 37 .neq 36 0] [2,3,5,6,7,8,37]) (jC 37 c54_2 .skip)
def c54_7:zW:=jS (jS (jR [m 25 8,jB 26 .eql 25 0,m 27 26,gf 28 27 5 3,gl 29 27 28,gm 30 27 6,go 31 27 (.sll 2 (.s 29) none (some (.s 30))),go 32 27 (.build [jN 0,.t (.str []),.zV,.zV,.zV,.zV,.zV] [(5,1,(.s 31))]),gm 33 27 7,go 34 27 (.call 94 [(.s 32),(.s 33)]),p 35 27 34] [2,3,5,6,7,8,35]) (jC 35 (jR [jI 8 7] [2,3,5,6,7,8]) .skip)) c54_4
def c54_8:zW:=jS (jR [jL 22 1 2,m 23 7,o 24 (.call 91 [(.s 22),(.s 23),(.c (jN 1))]),m 8 24] [2,3,5,6,7,8]) c54_7
def c54_9:zW:=jS (jR [f 16 5 3,l 17 16,m 18 6,i 19 2 17 18,f 20 0 19,l 21 20,m 7 21] [2,3,5,6,7]) c54_8
def c54_12:zW:=jS (jS (jR [m 9 6,f 10 5 3,l 11 10,e 12 11,b 13 .lss 9 12] [2,3,5,6,13]) (jC 13 .skip (.exit 0))) (jS (.block 1 c54_9) c54_1)
def c54_15:zW:=jS (jS (jR [jI 6 0] [2,3,5,6]) (.block 0 (.loop c54_12))) (jX [m 48 5,m 4 48] [4])
def c54:zW:=jS (jR [o 2 (.box 1 (.s 0)),o 3 (.box 7 (.s 1)),o 4 (.cst (.zV))] [2,3]) (jS (jR [o 5 (.cst (.zV))] [2,3,5]) c54_15)
def r54:List WC:=[.tmp 4]
def n54:Nat:=49
def c55_1:zW:=jR [m 21 12,jB 22 .add 21 1,m 12 22] [2,3,4,5,6,11,12]
def c55_2:zW:=jR [m 57 11,m 58 4,o 59 (.build [jN 0,.t (.str [])] [(0,1,(.c (jN 24))),(1,1,(.s 58))]),o 60 (.bsl false 2 [[.int .i64 0,.str []]] [(0,(.s 59))]),o 61 (.app 2 24 (.s 57) (.s 60)),m 11 61] [2,3,4,5,6,11,12]
def c55_3:zW:=jD [m 62 11,jL 63 1 5,m 64 3,jL 65 1 5,f 66 1 14,l 67 66,o 68 (.call 56 [(.s 65),(.s 67)]),m 69 4,o 70 (.call 96 [(.s 63),(.s 64),(.s 68),(.s 69)]),o 71 (.app 2 24 (.s 62) (.s 70)),m 11 71] [[],[],[],[],[],[4],[3,5],[],[1,2,6,7,6],[0,8,8],[9,9,0,1,2,3,4,5,6,7,8,9]] [2,3,4,5,6,11,12]
def c55_5:zW:=jS (jR [m 55 15,u 56 55] [2,3,4,5,6,11,12,14,56]) (jC 56 c55_2 c55_3)
def c55_6:zW:=jS (jR [jL 49 2 6,f 50 2 13,l 51 50,o 52 (.call 95 [(.s 49),(.s 51)]),m 48 52,x 53 48 0,x 54 48 1,o 14 (.alloc [.t (.str []),.t (.str []),.zV]),jO (.st 3 (.s 14) (.s 53)),m 15 54] [2,3,4,5,6,11,12,14,15]) c55_5
def c55_7:zW:=jR [m 96 11,jL 97 1 5,jL 98 2 6,f 99 6 13,l 100 99,m 101 16,m 102 4,o 103 (.call 55 [(.s 97),(.s 98),(.s 100),(.s 101),(.s 102)]),o 104 (.app 2 24 (.s 96) (.s 103)),m 11 104] [2,3,4,5,6,11,12]
def c55_8:zW:=jR [m 89 11,jL 90 1 5,m 91 3,m 92 16,m 93 4,o 94 (.call 96 [(.s 90),(.s 91),(.s 92),(.s 93)]),o 95 (.app 2 24 (.s 89) (.s 94)),m 11 95] [2,3,4,5,6,11,12,13,16]
def c55_9:zW:=jR [m 84 11,m 85 4,o 86 (.build [jN 0,.t (.str [])] [(0,1,(.c (jN 24))),(1,1,(.s 85))]),o 87 (.bsl false 2 [[.int .i64 0,.str []]] [(0,(.s 86))]),o 88 (.app 2 24 (.s 84) (.s 87)),m 11 88] [2,3,4,5,6,11,12,13,16]
def c55_11:zW:=jS (jS (jR [m 82 16,o 83 (.bin .eql (.s 82) (.c (.t (.str []))))] [2,3,4,5,6,11,12,13,16,83]) (jC 83 c55_9 .skip)) c55_8
def c55_12:zW:=jS (jR [jL 78 1 5,f 79 3 13,l 80 79,o 81 (.call 56 [(.s 78),(.s 80)]),m 16 81] [2,3,4,5,6,11,12,13,16]) c55_11
def c55_14:zW:=jS (jS (jR [f 75 3 13,l 76 75,o 77 (.bin .neq (.s 76) (.c (.t (.str []))))] [2,3,4,5,6,11,12,13,16,77]) (jC 77 c55_12 .skip)) c55_7
def c55_15:zW:=jS (jR [m 74 3,m 16 74] [2,3,4,5,6,11,12,13,16]) c55_14
def c55_16:zW:=jD [m 29 11,jL 30 1 5,jL 31 2 6,f 32 6 13,l 33 32,jL 34 1 5,m 35 3,f 36 2 13,l 37 36,o 38 (.call 97 [(.s 34),(.s 35),(.s 37)]),m 39 4,o 40 (.bin .add (.s 39) (.c (.t (.str [47])))),jL 41 7 13,o 42 (.call 98 [(.s 41)]),b 43 .add 40 42,o 44 (.call 55 [(.s 30),(.s 31),(.s 33),(.s 38),(.s 43)]),o 45 (.app 2 24 (.s 29) (.s 44)),m 11 45] [[],[],[],[],[3],[],[],[],[7],[5,6,8],[],[10],[],[12,9],[11,13],[1,2,4,9,14,13],[0,15,15],[16,16,0,1,2,3,4,5,6,7,8,9,10,11,12,13,14,15,16]] [2,3,4,5,6,11,12]
def c55_18:zW:=jS (jR [jB 73 .eql 28 3,m 72 73] [2,3,4,5,6,11,12,13,72]) (jC 72 c55_15 c55_16)
def c55_20:zW:=jS (jR [jB 47 .eql 28 2,m 46 47] [2,3,4,5,6,11,12,13,28,46]) (jC 46 c55_6 c55_18)
def c55_22:zW:=jS (jR [f 27 0 13,l 28 27] [2,3,4,5,6,11,12,13,28]) (.block 2 c55_20)
def c55_23:zW:=jS (jR [m 23 2,m 24 12,i 25 7 23 24,jL 26 7 25,o 13 (.alloc [jN 0,.t (.str []),.t (.str []),.t (.str []),.zV,.zV,.zV]),jO (.st 7 (.s 13) (.s 26))] [2,3,4,5,6,11,12,13]) c55_22
def c55_26:zW:=jS (jS (jR [m 17 12,m 18 2,e 19 18,b 20 .lss 17 19] [2,3,4,5,6,11,12,20]) (jC 20 .skip (.exit 0))) (jS (.block 1 c55_23) c55_1)
def c55_29:zW:=jS (jS (jR [jI 12 0] [2,3,4,5,6,11,12]) (.block 0 (.loop c55_26))) (jX [m 105 11,m 10 105] [10])
def c55_30:zW:=jS (jR [o 11 (.cst (.zV))] [2,3,4,5,6,11]) c55_29
def c55:zW:=jS (jR [o 5 (.box 1 (.s 0)),o 6 (.box 2 (.s 1)),o 10 (.cst (.zV))] [2,3,4,5,6]) c55_30
def r55:List WC:=[.tmp 10]
def n55:Nat:=106
def c56_3:zW:=jS (jS (jR [jL 5 1 2,m 6 1,o 7 (.call 34 [(.s 5),(.s 6)])] [1,7]) (jC 7 (jX [m 8 1,m 4 8] [4]) .skip)) (jX [o 4 (.cst (.t (.str [])))] [4])
def c56:zW:=jS (jR [o 2 (.box 1 (.s 0)),o 4 (.cst (.t (.str [])))] [1,2]) c56_3
def r56:List WC:=[.tmp 4]
def n56:Nat:=9
def c57_0:zW:=jX [m 14 5,f 15 0 3,l 16 15,o 17 (.call 100 [(.s 14),(.s 16)]),m 4 17] [4]
def c57_1:zW:=jS (jR [jL 8 2 2,f 9 2 3,l 10 9,o 11 (.call 99 [(.s 8),(.s 10),(.c (.zV))]),m 7 11,x 12 7 0,x 13 7 1,m 5 12,m 6 13] [3,5]) c57_0
def c57:zW:=jS (jR [o 2 (.box 2 (.s 0)),o 3 (.box 3 (.s 1)),o 4 (.cst (.t (.bool false)))] [2,3]) c57_1
def r57:List WC:=[.tmp 4]
def n57:Nat:=18
def c58_4:zW:=jS (jR [m 26 6,m 27 1,o 28 (.call 100 [(.s 26),(.s 27)])] [1,2,5,28]) (jC 28 (jX [o 4 (.cst (.t (.bool true)))] [4]) .skip)
def c58_5:zW:=jS (jD [jL 16 2 2,f 17 0 2,l 18 17,m 19 5,i 20 4 18 19,f 21 3 20,l 22 21,o 23 (.call 99 [(.s 16),(.s 22),(.c (.zV))]),m 15 23,x 24 15 0,x 25 15 1,m 6 24,m 7 25] [[],[],[1],[],[2,3],[4],[5],[0,6],[7],[8],[8],[9,7,0,1,2,3,4,5,6,7,8,9],[10,11,0,1,2,3,4,5,6,7,8,9,10,11]] [1,2,5,6]) c58_4
def c58_8:zW:=jS (jS (jR [m 8 5,f 9 0 2,l 10 9,e 11 10,b 12 .lss 8 11] [1,2,5,12]) (jC 12 .skip (.exit 0))) (jS (.block 1 c58_5) (jR [m 13 5,jB 14 .add 13 1,m 5 14] [1,2,5]))
def c58:zW:=jS (jR [o 2 (.box 2 (.s 0)),o 4 (.cst (.t (.bool false)))] [1,2]) (jS (jS (jR [jI 5 0] [1,2,5]) (.block 0 (.loop c58_8))) (jX [o 4 (.cst (.t (.bool false)))] [4]))
def r58:List WC:=[.tmp 4]
def n58:Nat:=29
def c62_0:zW:=jX [m 7 0,m 8 1,m 9 2,o 10 (.z0u false true),o 11 (.call 102 [(.s 7),(.s 8),(.s 9),(.s 10),(.c (.zV))]),m 6 11] [6]
def c62:zW:=jS (jR [o 6 (.cst (.zV))] [0,1,2]) c62_0
def r62:List WC:=[.tmp 6]
def n62:Nat:=12
def c63_0:zW:=jS (jD [f 4 1 2,l 5 4,o 6 (.call 64 [(.s 5)]),f 7 1 1,l 8 7,o 9 (.call 64 [(.s 8)]),b 10 .eql 6 9,m 3 10] [[],[0],[1],[],[3],[4,2],[2,5],[6,5,0,1,2,3,4,5,6]] [3]) .ret
def c63:zW:=jS (jR [o 2 (.box 2 (.s 0)),o 3 (.cst (.t (.bool false)))] [1,2]) c63_0
def r63:List WC:=[.tmp 3]
def n63:Nat:=11
def c64_0:zW:=jX [m 12 0,n 13 12,f 14 2 13,l 15 14,m 2 15] [2]
def c64_1:zW:=jX [m 8 0,n 9 8,f 10 1 9,l 11 10,m 2 11] [2]
def c64_3:zW:=jS (jS (jR [m 3 0,n 4 3,f 5 1 4,l 6 5,o 7 (.bin .neq (.s 6) (.c (.t (.str []))))] [0,7]) (jC 7 c64_1 .skip)) c64_0
def c64:zW:=jS (jR [o 2 (.cst (.t (.str [])))] [0]) c64_3
def r64:List WC:=[.tmp 2]
def n64:Nat:=16
def c65_4:zW:=jS (jR [m 11 1,m 12 0,m 13 5,i 14 2 12 13,jL 15 2 14,o 16 (.Qo (.s 11) [(.s 15)])] [0,1,5,7,8,16]) (jC 16 (jX [m 17 5,m 4 17] [4]) .skip)
def c65_11:zW:=jS (jS (jR [m 6 0,e 7 6,jI 8 0] [0,1,7,8]) (.block 0 (.loop (jS (jR [b 9 .lss 8 7] [0,1,7,8,9]) (jS (jC 9 .skip (.exit 0)) (jS (.block 1 (jS (jR [m 10 8,m 5 10] [0,1,5,7,8]) c65_4)) (jR [jB 18 .add 8 1,m 8 18] [0,1,7,8]))))))) (jX [jI 4 (-1)] [4])
def c65:zW:=jS (jR [jI 4 0] [0,1]) c65_11
def r65:List WC:=[.tmp 4]
def n65:Nat:=19
def c66_1:zW:=jR [jB 43 .add 13 1,m 13 43] [0,1,2,11,12,13]
def c66_2:zW:=jR [jB 42 .add 23 1,m 23 42] [0,1,2,8,11,12,13,21,22,23]
def c66_5:zW:=jS (jR [m 27 2,jL 28 2 8,o 29 (.Qo (.s 27) [(.s 28)]),m 30 29,gm 31 30 2,gL 32 30 2 10,go 33 30 (.Qo (.s 31) [(.s 32)]),p 34 30 33,m 35 34,gm 36 35 0,gL 37 35 2 8,gL 38 35 2 10,go 39 35 (.build [.t (.str []),.t (.QP),.t (.str []),.t (.QP),.t (.bool false)] [(0,2,(.s 37)),(2,2,(.s 38))]),go 40 35 (.call 33 [(.s 36),(.s 39)]),p 41 35 40] [0,1,2,8,11,12,13,21,22,23,41]) (jC 41 (jX [o 6 (.cst (.t (.bool true)))] [6]) .skip)
def c66_6:zW:=jS (jR [i 25 2 21 23,jL 26 2 25,o 10 (.alloc [.t (.str []),.t (.QP)]),jO (.st 2 (.s 10) (.s 26))] [0,1,2,8,10,11,12,13,21,22,23]) c66_5
def c66_9:zW:=jS (jR [b 24 .lss 23 22] [0,1,2,8,11,12,13,21,22,23,24]) (jS (jC 24 .skip (.exit 2)) (jS (.block 3 c66_6) c66_2))
def c66_12:zW:=jS (jR [m 18 1,m 19 7,jB 20 .add 19 1,o 21 (.sll 2 (.s 18) (some (.s 20)) none),e 22 21,jI 23 0] [0,1,2,8,11,12,13,21,22,23]) (.block 2 (.loop c66_9))
def c66_13:zW:=jS (jR [m 15 13,i 16 2 11 13,jL 17 2 16,o 8 (.alloc [.t (.str []),.t (.QP)]),m 7 15,jO (.st 2 (.s 8) (.s 17))] [0,1,2,7,8,11,12,13]) c66_12
def c66_16:zW:=jS (jR [b 14 .lss 13 12] [0,1,2,11,12,13,14]) (jS (jC 14 .skip (.exit 0)) (jS (.block 1 c66_13) c66_1))
def c66_19:zW:=jS (jS (jR [m 11 1,e 12 11,jI 13 0] [0,1,2,11,12,13]) (.block 0 (.loop c66_16))) (jX [o 6 (.cst (.t (.bool false)))] [6])
def c66:zW:=jS (jR [o 6 (.cst (.t (.bool false)))] [0,1,2]) c66_19
def r66:List WC:=[.tmp 6]
def n66:Nat:=44
def c67_1:zW:=jR [jB 67 .add 15 1,m 15 67] [0,1,2,3,9,14,15]
def c67_2:zW:=jR [m 55 9,m 56 0,m 57 11,n 58 57,f 59 6 58,l 60 59,m 61 12,m 62 3,o 63 (.call 67 [(.s 56),(.s 60),(.s 61),(.s 62)]),o 64 (.app 2 24 (.s 55) (.s 63)),m 9 64] [0,1,2,3,9,14,15]
def c67_3:zW:=jR [m 51 11,n 52 51,f 53 3 52,l 54 53,m 12 54] [0,1,2,3,9,11,12,14,15]
def c67_5:zW:=jS (jS (jR [m 46 11,n 47 46,f 48 3 47,l 49 48,o 50 (.bin .neq (.s 49) (.c (.t (.str []))))] [0,1,2,3,9,11,12,14,15,50]) (jC 50 c67_3 .skip)) c67_2
def c67_6:zW:=jS (jR [m 45 2,m 12 45] [0,1,2,3,9,11,12,14,15]) c67_5
def c67_7:zW:=jD [m 25 9,m 26 0,m 27 11,n 28 27,f 29 6 28,l 30 29,m 31 0,m 32 2,m 33 11,o 34 (.build [.t (.str []),.t (.QP)] [(0,1,(.s 32)),(1,1,(.s 33))]),o 35 (.call 103 [(.s 31),(.s 34)]),m 36 3,o 37 (.bin .add (.s 36) (.c (.t (.str [47])))),m 38 11,o 39 (.call 64 [(.s 38)]),b 40 .add 37 39,o 41 (.call 30 [(.s 26),(.s 30),(.s 35),(.s 40)]),o 42 (.app 2 24 (.s 25) (.s 41)),m 9 42] [[],[],[],[2],[3],[4],[],[],[],[7,8],[6,9],[],[11],[],[13,10],[12,14],[1,5,10,15,14],[0,16,16],[17,17,0,1,2,3,4,5,6,7,8,9,10,11,12,13,14,15,16,17]] [0,1,2,3,9,14,15]
def c67_9:zW:=jS (jR [jB 66 .eql 24 2,m 65 66] [0,1,2,3,9,11,14,15,65]) (jC 65 .skip c67_7)
def c67_11:zW:=jS (jR [jB 44 .eql 24 3,m 43 44] [0,1,2,3,9,11,14,15,24,43]) (jC 43 c67_6 c67_9)
def c67_13:zW:=jS (jR [m 21 11,n 22 21,f 23 0 22,l 24 23] [0,1,2,3,9,11,14,15,24]) (.block 2 c67_11)
def c67_14:zW:=jS (jR [m 18 1,m 19 10,i 20 7 18 19,m 11 20] [0,1,2,3,9,11,14,15]) c67_13
def c67_15:zW:=jS (jR [m 17 15,m 10 17] [0,1,2,3,9,10,14,15]) c67_14
def c67_18:zW:=jS (jR [b 16 .lss 15 14] [0,1,2,3,9,14,15,16]) (jS (jC 16 .skip (.exit 0)) (jS (.block 1 c67_15) c67_1))
def c67_21:zW:=jS (jS (jR [m 13 1,e 14 13,jI 15 0] [0,1,2,3,9,14,15]) (.block 0 (.loop c67_18))) (jX [m 68 9,m 8 68] [8])
def c67_22:zW:=jS (jR [o 9 (.cst (.zV))] [0,1,2,3,9]) c67_21
def c67:zW:=jS (jR [o 8 (.cst (.zV))] [0,1,2,3]) c67_22
def r67:List WC:=[.tmp 8]
def n67:Nat:=69
def c69_1:zW:=jR [jB 167 .add 141 1,m 141 167] [0,9,11,139,140,141]
def c69_2:zW:=jR [jB 166 .add 147 1,m 147 166] [0,9,11,13,139,140,141,145,146,147]
def c69_5:zW:=jS (jD [f 151 1 13,l 152 151,o 153 (.call 64 [(.s 152)]),f 154 1 15,l 155 154,o 156 (.call 64 [(.s 155)]),b 157 .eql 153 156,m 158 157,gm 159 158 0,gL 160 158 2 13,gL 161 158 2 15,gm 162 158 9,go 163 158 (.build [.t (.str []),.t (.QP),.t (.str []),.t (.QP),.t (.bool false)] [(0,2,(.s 160)),(2,2,(.s 161)),(4,1,(.s 162))]),go 164 158 (.call 33 [(.s 159),(.s 163)]),p 165 158 164] [[],[0],[1],[],[3],[4,2],[2,5],[6,5],[7],[7],[7],[7],[9,10,11,7],[8,12,7,7],[7,13]] [0,9,11,13,139,140,141,145,146,147,165]) (jC 165 (jX [o 4 (.cst (.t (.bool true)))] [4]) .skip)
def c69_6:zW:=jS (jR [i 149 2 145 147,jL 150 2 149,o 15 (.alloc [.t (.str []),.t (.QP)]),jO (.st 2 (.s 15) (.s 150))] [0,9,11,13,15,139,140,141,145,146,147]) c69_5
def c69_9:zW:=jS (jR [b 148 .lss 147 146] [0,9,11,13,139,140,141,145,146,147,148]) (jS (jC 148 .skip (.exit 2)) (jS (.block 3 c69_6) c69_2))
def c69_12:zW:=jS (jR [m 145 11,e 146 145,jI 147 0] [0,9,11,13,139,140,141,145,146,147]) (.block 2 (.loop c69_9))
def c69_13:zW:=jS (jR [i 143 2 139 141,jL 144 2 143,o 13 (.alloc [.t (.str []),.t (.QP)]),jO (.st 2 (.s 13) (.s 144))] [0,9,11,13,139,140,141]) c69_12
def c69_16:zW:=jS (jR [b 142 .lss 141 140] [0,9,11,139,140,141,142]) (jS (jC 142 .skip (.exit 0)) (jS (.block 1 c69_13) c69_1))
def c69_19:zW:=jS (jS (jR [m 139 10,e 140 139,jI 141 0] [0,9,11,139,140,141]) (.block 0 (.loop c69_16))) (jX [o 4 (.cst (.t (.bool false)))] [4])
def c69_20:zW:=jS (jD [m 119 0,f 120 0 3,f 121 1 120,l 122 121,n 123 122,f 124 6 123,l 125 124,f 126 0 5,l 127 126,o 128 (.call 62 [(.s 119),(.s 125),(.s 127)]),m 129 0,f 130 2 3,f 131 1 130,l 132 131,n 133 132,f 134 6 133,l 135 134,f 136 0 7,l 137 136,o 138 (.call 62 [(.s 129),(.s 135),(.s 137)]),m 10 128,m 11 138] [[],[],[1],[2],[3],[4],[5],[],[7],[0,6,8],[],[],[11],[12],[13],[14],[15],[],[17],[10,16,18,9],[9,19,0,1,2,3,4,5,6,7,8,9],[19,20,0,1,2,3,4,5,6,7,8,9,10,11,12,13,14,15,16,17,18,19,20]] [0,9,10,11]) c69_19
def c69_23:zW:=jS (jS (jD [m 86 9,u 87 86,m 88 87,gf 89 88 0 3,gf 90 88 1 89,gl 91 88 90,go 92 88 (.z2N (.s 91)),gf 93 88 2 92,gl 94 88 93,gf 95 88 2 3,gf 96 88 1 95,gl 97 88 96,go 98 88 (.z2N (.s 97)),gf 99 88 2 98,gl 100 88 99,gb 101 88 .neq 94 100,gm 102 88 101,hf 103 102 0 3,hf 104 102 1 103,hl 105 102 104,ho 106 102 (.z2N (.s 105)),hf 107 102 4 106,hl 108 102 107,hf 109 102 2 3,hf 110 102 1 109,hl 111 102 110,ho 112 102 (.z2N (.s 111)),hf 113 102 4 112,hl 114 102 113,ho 115 102 (.call 110 [(.s 108),(.s 114)]),ho 116 102 (.un .not (.s 115)),go 117 88 (.pick (.s 102) (.c (.t (.bool true))) (.s 116)),p 118 88 117] [[],[0],[1],[2],[3,2],[4,2],[5,2],[6,2],[7,2],[2],[9,2],[10,2],[11,2],[12,2],[13,2],[8,14,2],[15,2,2],[16],[17,16],[18,16],[19,16],[20,16],[21,16],[16],[23,16],[24,16],[25,16],[26,16],[27,16],[22,28,16,16],[29,16],[16,30,2],[2,31]] [0,3,5,7,9,118]) (jC 118 (jX [o 4 (.cst (.t (.bool true)))] [4]) .skip)) c69_20
def c69_24:zW:=jS (jR [f 61 4 3,l 62 61,m 63 62,hf 64 63 0 3,hf 65 63 0 64,hl 66 63 65,hf 67 63 2 3,hf 68 63 0 67,hl 69 63 68,hb 70 63 .neq 66 69,hm 71 63 70,gm 72 71 0,gf 73 71 0 3,gf 74 71 0 73,gl 75 71 74,go 76 71 (.call 109 [(.s 72),(.s 75)]),ho 77 63 (.pick (.s 71) (.s 76) (.c (.t (.bool false)))),hm 78 63 77,gm 79 78 0,gf 80 78 2 3,gf 81 78 0 80,gl 82 78 81,go 83 78 (.call 109 [(.s 79),(.s 82)]),ho 84 63 (.pick (.s 78) (.s 83) (.c (.t (.bool false)))),q 85 63 84,m 9 85] [0,3,5,7,9]) c69_23
def c69_27:zW:=jS (jS (jR [m 56 0,jL 57 2 5,jL 58 2 7,o 59 (.call 108 [(.s 56),(.s 57),(.s 58)]),u 60 59] [0,3,5,7,60]) (jC 60 (jX [o 4 (.cst (.t (.bool true)))] [4]) .skip)) c69_24
def c69_30:zW:=jS (jS (jR [m 50 6,u 51 50,m 52 51,hm 53 52 8,ho 54 52 (.un .not (.s 53)),q 55 52 54] [0,3,5,7,55]) (jC 55 (jX [o 4 (.cst (.t (.bool false)))] [4]) .skip)) c69_27
def c69_31:zW:=jS (jD [m 34 0,n 35 34,f 36 0 35,jL 37 1 36,f 38 2 3,f 39 0 38,l 40 39,f 41 2 3,f 42 1 41,l 43 42,n 44 43,f 45 2 44,l 46 45,o 47 (.call 107 [(.s 37),(.s 40),(.s 46)]),m 33 47,x 48 33 0,x 49 33 1,o 7 (.alloc [.t (.str []),.zV]),jO (.st 2 (.s 7) (.s 48)),m 8 49] [[],[0],[1],[2],[],[4],[5],[],[7],[8],[9],[10],[11],[3,6,12],[13],[14],[14],[],[17,15,13,0,1,2,3,4,5,6,7,8,9,10,11,12,13,14,15,17],[16,18,0,1,2,3,4,5,6,7,8,9,10,11,12,13,14,15,16,17,18]] [0,3,5,6,7,8]) c69_30
def c69_32:zW:=jS (jD [m 17 0,n 18 17,f 19 0 18,jL 20 1 19,f 21 0 3,f 22 0 21,l 23 22,f 24 0 3,f 25 1 24,l 26 25,n 27 26,f 28 2 27,l 29 28,o 30 (.call 107 [(.s 20),(.s 23),(.s 29)]),m 16 30,x 31 16 0,x 32 16 1,o 5 (.alloc [.t (.str []),.zV]),jO (.st 2 (.s 5) (.s 31)),m 6 32] [[],[0],[1],[2],[],[4],[5],[],[7],[8],[9],[10],[11],[3,6,12],[13],[14],[14],[],[17,15,13,0,1,2,3,4,5,6,7,8,9,10,11,12,13,14,15,17],[16,18,0,1,2,3,4,5,6,7,8,9,10,11,12,13,14,15,16,17,18]] [0,3,5,6]) c69_31
def c69:zW:=jS (jR [o 3 (.box 5 (.s 1)),o 4 (.cst (.t (.bool false)))] [0,3]) c69_32
def r69:List WC:=[.tmp 4]
def n69:Nat:=168
def c70_0:zW:=jX [f 3 1 1,l 4 3,e 5 4,jB 6 .gtr 5 0,m 7 6,gf 8 7 1 1,gl 9 7 8,go 10 7 (.ia 1 (.s 9) (.c (jN 0))),gl 11 7 10,gB 12 7 .eql 11 1,p 13 7 12,m 2 13] [2]
def c70:zW:=jS (jR [o 1 (.box 2 (.s 0)),o 2 (.cst (.t (.bool false)))] [1]) c70_0
def r70:List WC:=[.tmp 2]
def n70:Nat:=14
def c72_0:zW:=jX [m 13 0,jB 14 .quo 13 10,o 15 (.call 72 [(.s 14)]),m 16 3,b 17 .add 15 16,m 2 17] [2]
def c72_3:zW:=jS (jS (jR [m 10 0,jB 11 .gtr 10 (-10)] [0,3,11]) (jC 11 (jX [m 12 3,m 2 12] [2]) .skip)) c72_0
def c72_4:zW:=jS (jR [m 4 0,jB 5 .rem 4 10,o 6 (.bin .sub (.c (jN 48)) (.s 5)),o 7 (.conv .u8 (.s 6)),o 8 (.bsl true 1 [[.int .u8 0]] [(0,(.s 7))]),o 9 (.nw (.z9Z (.s 8))),m 3 9] [0,3]) c72_3
def c72:zW:=jS (jR [o 2 (.cst (.t (.str [])))] [0]) c72_4
def r72:List WC:=[.tmp 2]
def n72:Nat:=18
def c73_1:zW:=jR [m 43 7,jB 44 .add 43 1,m 7 44] [1,2,5,7]
def c73_2:zW:=jR [m 45 5,f 46 3 2,l 47 46,m 48 7,i 49 5 47 48,jL 50 5 49,m 51 1,o 52 (.call 73 [(.s 50),(.s 51)]),b 53 .add 45 52,m 5 53] [1,2,5,7]
def c73_5:zW:=jS (jS (jR [m 33 7,f 34 3 2,l 35 34,e 36 35,b 37 .lss 33 36,m 38 37,gm 39 38 5,gm 40 38 1,gb 41 38 .leq 39 40,p 42 38 41] [1,2,5,7,42]) (jC 42 .skip (.exit 2))) (jS (.block 3 c73_2) c73_1)
def c73_9:zW:=jR [m 22 6,jB 23 .add 22 1,m 6 23] [1,2,5,6]
def c73_10:zW:=jR [m 24 5,jB 25 .add 24 1,f 26 4 2,l 27 26,m 28 6,i 29 1 27 28,l 30 29,o 31 (.lens (.s 30)),b 32 .add 25 31,m 5 32] [1,2,5,6]
def c73_13:zW:=jS (jS (jR [m 12 6,f 13 4 2,l 14 13,e 15 14,b 16 .lss 12 15,m 17 16,gm 18 17 5,gm 19 17 1,gb 20 17 .leq 18 19,p 21 17 20] [1,2,5,6,21]) (jC 21 .skip (.exit 0))) (jS (.block 1 c73_10) c73_9)
def c73_16:zW:=jS (jS (jR [jI 6 0] [1,2,5,6]) (.block 0 (.loop c73_13))) (jS (jS (jR [jI 7 0] [1,2,5,7]) (.block 2 (.loop c73_5))) (jX [m 54 5,m 4 54] [4]))
def c73_17:zW:=jS (jR [f 8 2 2,l 9 8,o 10 (.lens (.s 9)),o 11 (.bin .add (.c (jN 1)) (.s 10)),m 5 11] [1,2,5]) c73_16
def c73:zW:=jS (jR [o 2 (.box 5 (.s 0)),jI 4 0] [1,2]) c73_17
def r73:List WC:=[.tmp 4]
def n73:Nat:=55
def c74_5:zW:=jS (jR [f 49 0 5,l 50 49,o 51 (.call 45 [(.s 50)]),u 52 51,m 53 52,hf 54 53 1 5,hL 55 53 5 54,ho 56 53 (.call 82 [(.s 55)]),ho 57 53 (.un .not (.s 56)),q 58 53 57,m 59 58,hf 60 59 1 5,hL 61 59 5 60,ho 62 59 (.call 111 [(.s 61)]),ho 63 59 (.un .not (.s 62)),q 64 59 63] [0,3,4,64]) (jC 64 (jX [o 2 (.cst (.t (.bool false)))] [2]) .skip)
def c74_6:zW:=jS (jR [m 41 0,m 42 3,i 43 2 41 42,f 44 1 43,l 45 44,m 46 4,i 47 6 45 46,jL 48 6 47,o 5 (.alloc [.t (.str []),jN 0,jN 0,.t (.str []),.zV,.zV]),jO (.st 6 (.s 5) (.s 48))] [0,3,4,5]) c74_5
def c74_9:zW:=jS (jS (jR [m 31 4,m 32 0,m 33 3,i 34 2 32 33,f 35 1 34,l 36 35,e 37 36,b 38 .lss 31 37] [0,3,4,38]) (jC 38 .skip (.exit 2))) (jS (.block 3 c74_6) (jR [m 39 4,jB 40 .add 39 1,m 4 40] [0,3,4]))
def c74_15:zW:=jS (jS (jR [m 15 0,m 16 3,i 17 2 15 16,f 18 0 17,l 19 18,o 20 (.call 45 [(.s 19)]),u 21 20,m 22 21,hm 23 22 0,hm 24 22 3,hi 25 22 2 23 24,hf 26 22 1 25,hl 27 22 26,he 28 22 27,hB 29 22 .gtr 28 16,q 30 22 29] [0,3,30]) (jC 30 (jX [o 2 (.cst (.t (.bool false)))] [2]) .skip)) (jS (jR [jI 4 0] [0,3,4]) (.block 2 (.loop c74_9)))
def c74_18:zW:=jS (jS (jR [m 9 3,m 10 0,e 11 10,b 12 .lss 9 11] [0,3,12]) (jC 12 .skip (.exit 0))) (jS (.block 1 c74_15) (jR [m 13 3,jB 14 .add 13 1,m 3 14] [0,3]))
def c74_24:zW:=jS (jS (jR [m 6 0,e 7 6,jB 8 .gtr 7 16] [0,8]) (jC 8 (jX [o 2 (.cst (.t (.bool false)))] [2]) .skip)) (jS (jS (jR [jI 3 0] [0,3]) (.block 0 (.loop c74_18))) (jX [o 2 (.cst (.t (.bool true)))] [2]))
def c74:zW:=jS (jR [o 2 (.cst (.t (.bool false)))] [0]) c74_24
def r74:List WC:=[.tmp 2]
def n74:Nat:=65
def c75_4:zW:=jS (jR [m 18 0,m 19 3,i 20 5 18 19,f 21 0 20,l 22 21,o 23 (.call 45 [(.s 22)]),u 24 23,m 25 24,hm 26 25 0,hm 27 25 3,hi 28 25 5 26 27,hf 29 25 1 28,hl 30 25 29,ho 31 25 (.call 77 [(.s 30)]),ho 32 25 (.un .not (.s 31)),q 33 25 32,m 34 33,hm 35 34 0,hm 36 34 3,hi 37 34 5 35 36,hf 38 34 2 37,hL 39 34 2 38,ho 40 34 (.call 81 [(.s 39)]),ho 41 34 (.un .not (.s 40)),q 42 34 41,m 43 42,hm 44 43 0,hm 45 43 3,hi 46 43 5 44 45,hf 47 43 4 46,hl 48 43 47,ho 49 43 (.call 74 [(.s 48)]),ho 50 43 (.un .not (.s 49)),q 51 43 50] [0,3,51]) (jC 51 (jX [o 2 (.cst (.t (.bool false)))] [2]) .skip)
def c75_7:zW:=jS (jS (jR [m 12 3,m 13 0,e 14 13,b 15 .lss 12 14] [0,3,15]) (jC 15 .skip (.exit 0))) (jS (.block 1 c75_4) (jR [m 16 3,jB 17 .add 16 1,m 3 17] [0,3]))
def c75_13:zW:=jS (jS (jR [m 4 0,e 5 4,jB 6 .lss 5 1,m 7 6,hm 8 7 0,he 9 7 8,hB 10 7 .gtr 9 64,q 11 7 10] [0,11]) (jC 11 (jX [o 2 (.cst (.t (.bool false)))] [2]) .skip)) (jS (jS (jR [jI 3 0] [0,3]) (.block 0 (.loop c75_7))) (jX [o 2 (.cst (.t (.bool true)))] [2]))
def c75:zW:=jS (jR [o 2 (.cst (.t (.bool false)))] [0]) c75_13
def r75:List WC:=[.tmp 2]
def n75:Nat:=52
def c76_4:zW:=jS (jR [m 20 0,m 21 5,i 22 2 20 21,f 23 0 22,l 24 23,o 25 (.call 45 [(.s 24)]),u 26 25,m 27 26,hm 28 27 0,hm 29 27 5,hi 30 27 2 28 29,hf 31 27 1 30,hl 32 27 31,ho 33 27 (.call 74 [(.s 32)]),ho 34 27 (.un .not (.s 33)),q 35 27 34,m 36 35,hm 37 36 1,hm 38 36 37,gm 39 38 0,gm 40 38 5,gi 41 38 2 39 40,gf 42 38 1 41,gl 43 38 42,ge 44 38 43,gB 45 38 .gtr 44 0,ho 46 36 (.pick (.s 38) (.s 45) (.c (.t (.bool false)))),q 47 36 46] [0,1,5,47]) (jC 47 (jX [o 4 (.cst (.t (.bool false)))] [4]) .skip)
def c76_7:zW:=jS (jS (jR [m 14 5,m 15 0,e 16 15,b 17 .lss 14 16] [0,1,5,17]) (jC 17 .skip (.exit 0))) (jS (.block 1 c76_4) (jR [m 18 5,jB 19 .add 18 1,m 5 19] [0,1,5]))
def c76_13:zW:=jS (jS (jR [m 6 0,e 7 6,jB 8 .lss 7 1,m 9 8,hm 10 9 0,he 11 9 10,hB 12 9 .gtr 11 64,q 13 9 12] [0,1,13]) (jC 13 (jX [o 4 (.cst (.t (.bool false)))] [4]) .skip)) (jS (jS (jR [jI 5 0] [0,1,5]) (.block 0 (.loop c76_7))) (jX [o 4 (.cst (.t (.bool true)))] [4]))
def c76:zW:=jS (jR [o 4 (.cst (.t (.bool false)))] [0,1]) c76_13
def r76:List WC:=[.tmp 4]
def n76:Nat:=48
def c77_4:zW:=jS (jR [f 34 3 4,l 35 34,m 36 35,gf 37 36 4 4,gL 38 36 5 37,go 39 36 (.call 82 [(.s 38)]),go 40 36 (.un .not (.s 39)),gm 41 36 40,hf 42 41 4 4,hL 43 41 5 42,ho 44 41 (.call 111 [(.s 43)]),ho 45 41 (.un .not (.s 44)),go 46 36 (.pick (.s 41) (.c (.t (.bool true))) (.s 45)),p 47 36 46,m 48 47,hf 49 48 3 4,hl 50 48 49,ho 51 48 (.un .not (.s 50)),hm 52 48 51,gf 53 52 4 4,gL 54 52 5 53,go 55 52 (.call 112 [(.s 54)]),go 56 52 (.un .not (.s 55)),ho 57 48 (.pick (.s 52) (.s 56) (.c (.t (.bool false)))),q 58 48 57] [0,3,58]) (jC 58 (jX [o 2 (.cst (.t (.bool false)))] [2]) .skip)
def c77_7:zW:=jS (jS (jR [f 18 0 4,l 19 18,o 20 (.call 45 [(.s 19)]),u 21 20,m 22 21,hf 23 22 1 4,hL 24 22 2 23,ho 25 22 (.call 81 [(.s 24)]),ho 26 22 (.un .not (.s 25)),q 27 22 26,m 28 27,hf 29 28 9 4,hl 30 28 29,ho 31 28 (.call 74 [(.s 30)]),ho 32 28 (.un .not (.s 31)),q 33 28 32] [0,3,4,33]) (jC 33 (jX [o 2 (.cst (.t (.bool false)))] [2]) .skip)) c77_4
def c77_8:zW:=jS (jR [m 14 0,m 15 3,i 16 10 14 15,jL 17 10 16,o 4 (.alloc [.t (.str []),.t (.str []),.zV,.t (.bool false),jN 0,jN 0,.t (.str []),.zV,.zV,.zV]),jO (.st 10 (.s 4) (.s 17))] [0,3,4]) c77_7
def c77_11:zW:=jS (jS (jR [m 8 3,m 9 0,e 10 9,b 11 .lss 8 10] [0,3,11]) (jC 11 .skip (.exit 0))) (jS (.block 1 c77_8) (jR [m 12 3,jB 13 .add 12 1,m 3 13] [0,3]))
def c77_17:zW:=jS (jS (jR [m 5 0,e 6 5,jB 7 .gtr 6 16] [0,7]) (jC 7 (jX [o 2 (.cst (.t (.bool false)))] [2]) .skip)) (jS (jS (jR [jI 3 0] [0,3]) (.block 0 (.loop c77_11))) (jX [o 2 (.cst (.t (.bool true)))] [2]))
def c77:zW:=jS (jR [o 2 (.cst (.t (.bool false)))] [0]) c77_17
def r77:List WC:=[.tmp 2]
def n77:Nat:=59
def c78_2:zW:=jR [m 12 3,f 13 3 1,l 14 13,m 15 4,i 16 5 14 15,jL 17 5 16,o 18 (.call 78 [(.s 17)]),b 19 .add 12 18,m 3 19] [1,3,4]
def c78_5:zW:=jS (jS (jR [m 5 4,f 6 3 1,l 7 6,e 8 7,b 9 .lss 5 8] [1,3,4,9]) (jC 9 .skip (.exit 0))) (jS (.block 1 c78_2) (jR [m 10 4,jB 11 .add 10 1,m 4 11] [1,3,4]))
def c78:zW:=jS (jR [o 1 (.box 5 (.s 0)),jI 2 0] [1]) (jS (jR [jI 3 1] [1,3]) (jS (jS (jR [jI 4 0] [1,3,4]) (.block 0 (.loop c78_5))) (jX [m 20 3,m 2 20] [2])))
def r78:List WC:=[.tmp 2]
def n78:Nat:=21
def c79_0:zW:=jS (jR [m 3 0,o 4 (.bin .geq (.s 3) (.c (.t (.int .u8 65)))),m 5 4,gm 6 5 0,go 7 5 (.bin .leq (.s 6) (.c (.t (.int .u8 90)))),p 8 5 7,m 9 8,hm 10 9 0,ho 11 9 (.bin .geq (.s 10) (.c (.t (.int .u8 97)))),hm 12 9 11,gm 13 12 0,go 14 12 (.bin .leq (.s 13) (.c (.t (.int .u8 122)))),ho 15 9 (.pick (.s 12) (.s 14) (.c (.t (.bool false)))),q 16 9 15,m 17 16,hm 18 17 0,ho 19 17 (.bin .eql (.s 18) (.c (.t (.int .u8 95)))),q 20 17 19,m 2 20] [2]) .ret
def c79:zW:=jS (jR [o 2 (.cst (.t (.bool false)))] [0]) c79_0
def r79:List WC:=[.tmp 2]
def n79:Nat:=21
def c80_0:zW:=jS (jR [m 3 0,o 4 (.bin .geq (.s 3) (.c (.t (.int .u8 48)))),m 5 4,gm 6 5 0,go 7 5 (.bin .leq (.s 6) (.c (.t (.int .u8 57)))),p 8 5 7,m 2 8] [2]) .ret
def c80:zW:=jS (jR [o 2 (.cst (.t (.bool false)))] [0]) c80_0
def r80:List WC:=[.tmp 2]
def n80:Nat:=9
def c81_4:zW:=jS (jR [m 35 3,jB 36 .gtr 35 0,m 37 36,gf 38 37 1 1,gl 39 37 38,gm 40 37 3,gi 41 37 1 39 40,gl 42 37 41,gB 43 37 .eql 42 1,p 44 37 43,m 45 44,gf 46 45 1 1,gl 47 45 46,gm 48 45 3,gB 49 45 .sub 48 1,gi 50 45 1 47 49,gl 51 45 50,gB 52 45 .eql 51 1,p 53 45 52] [1,3,53]) (jC 53 (jX [o 2 (.cst (.t (.bool false)))] [2]) .skip)
def c81_7:zW:=jS (jS (jR [f 21 1 1,l 22 21,m 23 3,i 24 1 22 23,l 25 24,jB 26 .neq 25 1,m 27 26,gf 28 27 1 1,gl 29 27 28,gm 30 27 3,gi 31 27 1 29 30,gl 32 27 31,gB 33 27 .neq 32 2,p 34 27 33] [1,3,34]) (jC 34 (jX [o 2 (.cst (.t (.bool false)))] [2]) .skip)) c81_4
def c81_10:zW:=jS (jS (jR [m 14 3,f 15 1 1,l 16 15,e 17 16,b 18 .lss 14 17] [1,3,18]) (jC 18 .skip (.exit 0))) (jS (.block 1 c81_7) (jR [m 19 3,jB 20 .add 19 1,m 3 20] [1,3]))
def c81_16:zW:=jS (jS (jR [f 4 0 1,l 5 4,o 6 (.call 45 [(.s 5)]),u 7 6,m 8 7,hf 9 8 1 1,hl 10 8 9,he 11 8 10,hB 12 8 .gtr 11 24,q 13 8 12] [1,13]) (jC 13 (jX [o 2 (.cst (.t (.bool false)))] [2]) .skip)) (jS (jS (jR [jI 3 0] [1,3]) (.block 0 (.loop c81_10))) (jX [o 2 (.cst (.t (.bool true)))] [2]))
def c81:zW:=jS (jR [o 1 (.box 2 (.s 0)),o 2 (.cst (.t (.bool false)))] [1]) c81_16
def r81:List WC:=[.tmp 2]
def n81:Nat:=54
def c82_0:zW:=jS (jR [jL 3 5 1,o 4 (.call 78 [(.s 3)]),jB 5 .leq 4 4096,m 6 5,gL 7 6 5 1,go 8 6 (.call 113 [(.s 7)]),gB 9 6 .leq 8 24,p 10 6 9,m 11 10,gL 12 11 5 1,go 13 11 (.call 114 [(.s 12),(.c (.t (.bool true)))]),p 14 11 13,m 2 14] [2]) .ret
def c82:zW:=jS (jR [o 1 (.box 5 (.s 0)),o 2 (.cst (.t (.bool false)))] [1]) c82_0
def r82:List WC:=[.tmp 2]
def n82:Nat:=15
def c83_0:zW:=jX [f 18 0 1,l 19 18,jB 20 .neq 19 7,m 2 20] [2]
def c83_4:zW:=jS (jR [f 11 3 1,l 12 11,m 13 3,i 14 5 12 13,jL 15 5 14,o 16 (.call 83 [(.s 15)]),u 17 16] [1,3,17]) (jC 17 (jX [o 2 (.cst (.t (.bool false)))] [2]) .skip)
def c83_7:zW:=jS (jS (jR [m 4 3,f 5 3 1,l 6 5,e 7 6,b 8 .lss 4 7] [1,3,8]) (jC 8 .skip (.exit 0))) (jS (.block 1 c83_4) (jR [m 9 3,jB 10 .add 9 1,m 3 10] [1,3]))
def c83:zW:=jS (jR [o 1 (.box 5 (.s 0)),o 2 (.cst (.t (.bool false)))] [1]) (jS (jS (jR [jI 3 0] [1,3]) (.block 0 (.loop c83_7))) c83_0)
def r83:List WC:=[.tmp 2]
def n83:Nat:=21
def c84_1:zW:=jS (jR [f 19 2 2,l 20 19,o 21 (.call 45 [(.s 20)]),m 22 21,gf 23 22 1 2,gl 24 22 23,go 25 22 (.bin .eql (.s 24) (.c (.t (.str [])))),gm 26 22 25,hf 27 26 1 2,hl 28 26 27,ho 29 26 (.call 45 [(.s 28)]),go 30 22 (.pick (.s 26) (.c (.t (.bool true))) (.s 29)),p 31 22 30,m 32 31,gf 33 32 3 2,gl 34 32 33,go 35 32 (.bin .eql (.s 34) (.c (.t (.str [])))),p 36 32 35,m 37 36,gf 38 37 6 2,gl 39 37 38,ge 40 37 39,gB 41 37 .eql 40 0,gm 42 37 41,hf 43 42 6 2,hl 44 42 43,hm 45 42 1,hB 46 42 .add 45 1,ho 47 42 (.call 47 [(.s 44),(.s 46)]),go 48 37 (.pick (.s 42) (.c (.t (.bool true))) (.s 47)),p 49 37 48,m 4 49] [4]) .ret
def c84_2:zW:=jS (jR [f 52 2 2,l 53 52,o 54 (.call 48 [(.s 53)]),m 55 54,gf 56 55 1 2,gl 57 55 56,go 58 55 (.bin .eql (.s 57) (.c (.t (.str [])))),p 59 55 58,m 60 59,gf 61 60 3 2,gl 62 60 61,go 63 60 (.bin .eql (.s 62) (.c (.t (.str [])))),p 64 60 63,m 65 64,gf 66 65 4 2,gl 67 65 66,ge 68 65 67,gB 69 65 .eql 68 0,p 70 65 69,m 71 70,gf 72 71 6 2,gl 73 71 72,ge 74 71 73,gB 75 71 .eql 74 0,p 76 71 75,m 4 76] [4]) .ret
def c84_3:zW:=jS (jR [f 79 2 2,l 80 79,o 81 (.bin .eql (.s 80) (.c (.t (.str [])))),m 82 81,gf 83 82 1 2,gl 84 82 83,go 85 82 (.bin .eql (.s 84) (.c (.t (.str [])))),p 86 82 85,m 87 86,gf 88 87 3 2,gl 89 87 88,go 90 87 (.bin .eql (.s 89) (.c (.t (.str [])))),gm 91 87 90,hf 92 91 3 2,hl 93 91 92,ho 94 91 (.call 45 [(.s 93)]),go 95 87 (.pick (.s 91) (.c (.t (.bool true))) (.s 94)),p 96 87 95,m 97 96,gf 98 97 4 2,gl 99 97 98,ge 100 97 99,gB 101 97 .eql 100 0,p 102 97 101,m 103 102,gf 104 103 6 2,gl 105 103 104,gm 106 103 1,gB 107 103 .add 106 1,go 108 103 (.call 47 [(.s 105),(.s 107)]),p 109 103 108,m 4 109] [4]) .ret
def c84_5:zW:=jS (jR [jB 78 .eql 16 3,m 77 78] [1,2,77]) (jC 77 c84_3 .skip)
def c84_7:zW:=jS (jR [jB 51 .eql 16 2,m 50 51] [1,2,16,50]) (jC 50 c84_2 c84_5)
def c84_9:zW:=jS (jR [jB 18 .eql 16 1,m 17 18] [1,2,16,17]) (jC 17 c84_1 c84_7)
def c84_11:zW:=jS (jS (jR [f 15 0 2,l 16 15] [1,2,16]) (.block 0 c84_9)) (jX [o 4 (.cst (.t (.bool false)))] [4])
def c84_14:zW:=jS (jS (jR [f 5 5 2,l 6 5,o 7 (.call 115 [(.s 6)]),u 8 7,m 9 8,hf 10 9 4 2,hl 11 9 10,ho 12 9 (.call 116 [(.s 11)]),ho 13 9 (.un .not (.s 12)),q 14 9 13] [1,2,14]) (jC 14 (jX [o 4 (.cst (.t (.bool false)))] [4]) .skip)) c84_11
def c84:zW:=jS (jR [o 2 (.box 7 (.s 0)),o 4 (.cst (.t (.bool false)))] [1,2]) c84_14
def r84:List WC:=[.tmp 4]
def n84:Nat:=110
def c85_1:zW:=jR [m 22 9,m 23 3,o 24 (.build [jN 0,.t (.str [])] [(0,1,(.c (jN 7))),(1,1,(.s 23))]),o 25 (.bsl false 2 [[.int .i64 0,.str []]] [(0,(.s 24))]),o 26 (.app 2 24 (.s 22) (.s 25)),m 9 26] [9]
def c85_4:zW:=jR [m 16 9,m 17 3,o 18 (.build [jN 0,.t (.str [])] [(0,1,(.c (jN 6))),(1,1,(.s 17))]),o 19 (.bsl false 2 [[.int .i64 0,.str []]] [(0,(.s 18))]),o 20 (.app 2 24 (.s 16) (.s 19)),m 9 20] [2,3,9]
def c85_6:zW:=jS (jS (jR [m 10 1,m 11 10,hm 12 11 0,ho 13 11 (.call 117 [(.s 12)]),ho 14 11 (.un .not (.s 13)),q 15 11 14] [2,3,9,15]) (jC 15 c85_4 .skip)) (jS (jS (jR [m 21 2] [3,9,21]) (jC 21 c85_1 .skip)) (jX [m 27 9,m 8 27] [8]))
def c85_7:zW:=jS (jR [o 9 (.cst (.zV))] [0,1,2,3,9]) c85_6
def c85:zW:=jS (jR [o 8 (.cst (.zV))] [0,1,2,3]) c85_7
def r85:List WC:=[.tmp 8]
def n85:Nat:=28
def c86_1:zW:=jX [f 8 4 1,l 9 8,e 10 9,jB 11 .eql 10 0,m 2 11] [2]
def c86_2:zW:=jX [f 15 5 1,l 16 15,e 17 16,jB 18 .eql 17 0,m 2 18] [2]
def c86_3:zW:=jX [f 21 6 1,l 22 21,e 23 22,jB 24 .eql 23 0,m 2 24] [2]
def c86_5:zW:=jS (jR [jB 20 .eql 4 5,m 19 20] [1,19]) (jC 19 c86_3 .skip)
def c86_9:zW:=jS (jS (jR [jB 13 .eql 4 3,m 12 13] [1,4,12]) (jC 12 .skip (jR [jB 14 .eql 4 4,m 12 14] [1,4,12]))) (jC 12 c86_2 c86_5)
def c86_13:zW:=jS (jS (jR [jB 6 .eql 4 1,m 5 6] [1,4,5]) (jC 5 .skip (jR [jB 7 .eql 4 2,m 5 7] [1,4,5]))) (jC 5 c86_1 c86_9)
def c86_15:zW:=jS (jS (jR [f 3 0 1,l 4 3] [1,4]) (.block 0 c86_13)) (jX [o 2 (.cst (.t (.bool false)))] [2])
def c86:zW:=jS (jR [o 1 (.box 7 (.s 0)),o 2 (.cst (.t (.bool false)))] [1]) c86_15
def r86:List WC:=[.tmp 2]
def n86:Nat:=25
def c87_0:zW:=jX [m 38 5,f 39 1 3,l 40 39,o 41 (.call 119 [(.s 38),(.s 40)]),m 4 41] [4]
def c87_1:zW:=jR [m 21 6,jB 22 .add 21 1,m 6 22] [2,3,5,6]
def c87_2:zW:=jR [jL 32 1 2,jL 33 7 7,f 34 1 3,l 35 34,m 36 5,o 37 (.call 118 [(.s 32),(.s 33),(.s 35),(.s 36)]),m 5 37] [2,3,5,6]
def c87_3:zW:=jS (jD [jL 24 1 2,m 25 5,m 26 6,i 27 1 25 26,l 28 27,o 29 (.call 37 [(.s 24),(.s 28)]),m 23 29,x 30 23 0,x 31 23 1,o 7 (.alloc [jN 0,.t (.str []),.zV,.zV,.zV,.zV,.zV]),jO (.st 7 (.s 7) (.s 30)),m 8 31] [[],[],[],[1,2],[3],[0,4],[5],[6],[6],[],[9,7,5,0,1,2,3,4,5,6,7,9],[8,10,0,1,2,3,4,5,6,7,8,9,10]] [2,3,5,6,7]) c87_2
def c87_6:zW:=jS (jS (jR [m 17 6,m 18 5,e 19 18,b 20 .lss 17 19] [2,3,5,6,20]) (jC 20 .skip (.exit 0))) (jS (.block 1 c87_3) c87_1)
def c87_10:zW:=jS (jR [jL 12 1 2,jL 13 7 3,f 14 1 3,l 15 14,o 16 (.call 118 [(.s 12),(.s 13),(.s 15),(.c (.zV))]),m 5 16] [2,3,5]) (jS (jS (jR [jI 6 0] [2,3,5,6]) (.block 0 (.loop c87_6))) c87_0)
def c87_13:zW:=jS (jS (jR [f 9 0 3,l 10 9,jB 11 .neq 10 5] [2,3,11]) (jC 11 (jX [o 4 (.cst (.t (.bool false)))] [4]) .skip)) c87_10
def c87:zW:=jS (jR [o 2 (.box 1 (.s 0)),o 3 (.box 7 (.s 1)),o 4 (.cst (.t (.bool false)))] [2,3]) c87_13
def r87:List WC:=[.tmp 4]
def n87:Nat:=42
def c88_0:zW:=jX [m 13 1,o 14 (.call 39 [(.s 13)]),m 15 14,hm 16 15 6,q 17 15 16,m 4 17] [4]
def c88_1:zW:=jS (jR [jL 8 1 2,m 9 1,o 10 (.call 37 [(.s 8),(.s 9)]),m 7 10,x 11 7 0,x 12 7 1,o 5 (.alloc [jN 0,.t (.str []),.zV,.zV,.zV,.zV,.zV]),jO (.st 7 (.s 5) (.s 11)),m 6 12] [1,6]) c88_0
def c88:zW:=jS (jR [o 2 (.box 1 (.s 0)),o 4 (.cst (.t (.bool false)))] [1,2]) c88_1
def r88:List WC:=[.tmp 4]
def n88:Nat:=18
def c89_0:zW:=jX [o 24 (.build [.t (.str []),.t (.str []),.zV,.t (.bool false),jN 0,jN 0,.t (.str []),.zV,.zV,.zV] []),jO (.st 10 (.s 4) (.s 24)),o 5 (.cst (.t (.bool false)))] [4,5]
def c89_1:zW:=jR [m 11 6,jB 12 .add 11 1,m 6 12] [0,1,4,6]
def c89_2:zW:=jX [m 20 0,m 21 6,i 22 10 20 21,jL 23 10 22,jO (.st 10 (.s 4) (.s 23)),o 5 (.cst (.t (.bool true)))] [4,5]
def c89_4:zW:=jS (jR [m 13 0,m 14 6,i 15 10 13 14,f 16 0 15,l 17 16,m 18 1,b 19 .eql 17 18] [0,1,4,6,19]) (jC 19 c89_2 .skip)
def c89_7:zW:=jS (jS (jR [m 7 6,m 8 0,e 9 8,b 10 .lss 7 9] [0,1,4,6,10]) (jC 10 .skip (.exit 0))) (jS (.block 1 c89_4) c89_1)
def c89:zW:=jS (jR [o 4 (.alloc [.t (.str []),.t (.str []),.zV,.t (.bool false),jN 0,jN 0,.t (.str []),.zV,.zV,.zV]),o 5 (.cst (.t (.bool false)))] [0,1,4]) (jS (jS (jR [jI 6 0] [0,1,4,6]) (.block 0 (.loop c89_7))) c89_0)
def r89:List WC:=[.cell 4 true 10,.tmp 5]
def n89:Nat:=25
def c90_0:zW:=jS (jR [jL 13 1 2,m 14 1,o 15 (.call 16 [(.s 13),(.s 14)]),m 16 15,hm 17 16 6,hm 18 16 17,gf 19 18 0 5,gl 20 18 19,gB 21 18 .eql 20 5,ho 22 16 (.pick (.s 18) (.s 21) (.c (.t (.bool false)))),q 23 16 22,m 4 23] [4]) .ret
def c90_1:zW:=jS (jR [jL 8 1 2,m 9 1,o 10 (.call 37 [(.s 8),(.s 9)]),m 7 10,x 11 7 0,x 12 7 1,o 5 (.alloc [jN 0,.t (.str []),.zV,.zV,.zV,.zV,.zV]),jO (.st 7 (.s 5) (.s 11)),m 6 12] [1,2,5,6]) c90_0
def c90:zW:=jS (jR [o 2 (.box 1 (.s 0)),o 4 (.cst (.t (.bool false)))] [1,2]) c90_1
def r90:List WC:=[.tmp 4]
def n90:Nat:=24
def c91_3:zW:=jS (jS (jR [f 22 0 7,l 23 22,m 24 2,b 25 .neq 23 24] [25]) (jC 25 (jX [jI 6 9] [6]) .skip)) (jX [jI 6 0] [6])
def c91_6:zW:=jS (jS (jR [m 15 8,u 16 15,m 17 16,gm 18 17 1,go 19 17 (.call 39 [(.s 18)]),go 20 17 (.un .not (.s 19)),p 21 17 20] [2,7,21]) (jC 21 (jX [jI 6 8] [6]) .skip)) c91_3
def c91_7:zW:=jS (jR [jL 10 1 3,m 11 1,o 12 (.call 37 [(.s 10),(.s 11)]),m 9 12,x 13 9 0,x 14 9 1,o 7 (.alloc [jN 0,.t (.str []),.zV,.zV,.zV,.zV,.zV]),jO (.st 7 (.s 7) (.s 13)),m 8 14] [1,2,7,8]) c91_6
def c91:zW:=jS (jR [o 3 (.box 1 (.s 0)),jI 6 0] [1,2,3]) c91_7
def r91:List WC:=[.tmp 6]
def n91:Nat:=26
def c92_4:zW:=jS (jR [m 12 0,m 13 5,i 14 1 12 13,l 15 14,m 16 1,b 17 .eql 15 16] [0,1,5,17]) (jC 17 (jX [o 4 (.cst (.t (.bool true)))] [4]) .skip)
def c92_7:zW:=jS (jS (jR [m 6 5,m 7 0,e 8 7,b 9 .lss 6 8] [0,1,5,9]) (jC 9 .skip (.exit 0))) (jS (.block 1 c92_4) (jR [m 10 5,jB 11 .add 10 1,m 5 11] [0,1,5]))
def c92:zW:=jS (jR [o 4 (.cst (.t (.bool false)))] [0,1]) (jS (jS (jR [jI 5 0] [0,1,5]) (.block 0 (.loop c92_7))) (jX [o 4 (.cst (.t (.bool false)))] [4]))
def r92:List WC:=[.tmp 4]
def n92:Nat:=18
def c93_1:zW:=jR [m 99 14,jB 100 .add 99 1,m 14 100] [5,7,8,10,14]
def c93_2:zW:=jR [m 133 10,m 134 7,o 135 (.bin .add (.s 134) (.c (.t (.str [40])))),f 136 1 8,l 137 136,m 138 14,i 139 10 137 138,f 140 0 139,l 141 140,b 142 .add 135 141,o 143 (.bin .add (.s 142) (.c (.t (.str [41])))),o 144 (.build [jN 0,.t (.str [])] [(0,1,(.c (jN 22))),(1,1,(.s 143))]),o 145 (.bsl false 2 [[.int .i64 0,.str []]] [(0,(.s 144))]),o 146 (.app 2 24 (.s 133) (.s 145)),m 10 146] [5,7,8,10,14]
def c93_4:zW:=jS (jR [m 113 16,u 114 113,m 115 114,gf 116 115 1 8,gl 117 115 116,gm 118 115 14,gi 119 115 10 117 118,gf 120 115 1 119,gL 121 115 2 120,go 122 115 (.call 70 [(.s 121)]),p 123 115 122,m 124 123,gf 125 124 1 8,gl 126 124 125,gm 127 124 14,gi 128 124 10 126 127,gf 129 124 3 128,gl 130 124 129,go 131 124 (.un .not (.s 130)),p 132 124 131] [5,7,8,10,14,132]) (jC 132 c93_2 .skip)
def c93_5:zW:=jS (jD [f 102 1 5,l 103 102,f 104 1 8,l 105 104,m 106 14,i 107 10 105 106,f 108 0 107,l 109 108,o 110 (.call 89 [(.s 103),(.s 109)]),m 101 110,x 111 101 0,x 112 101 1,o 15 (.alloc [.t (.str []),.t (.str []),.zV,.t (.bool false),jN 0,jN 0,.t (.str []),.zV,.zV,.zV]),jO (.st 10 (.s 15) (.s 111)),m 16 112] [[],[0],[],[2],[],[3,4],[5],[6],[1,7],[8],[9],[9],[],[12,10,8,0,1,2,3,4,5,6,7,8,9,10,12],[11,13,0,1,2,3,4,5,6,7,8,9,10,11,12,13]] [5,7,8,10,14,16]) c93_4
def c93_8:zW:=jS (jS (jR [m 94 14,f 95 1 8,l 96 95,e 97 96,b 98 .lss 94 97] [5,7,8,10,14,98]) (jC 98 .skip (.exit 2))) (jS (.block 3 c93_5) c93_1)
def c93_11:zW:=jS (jS (jR [jI 14 0] [5,7,8,10,14]) (.block 2 (.loop c93_8))) (jX [m 147 10,m 6 147] [6])
def c93_12:zW:=jR [m 52 11,jB 53 .add 52 1,m 11 53] [5,7,8,10,11]
def c93_13:zW:=jR [m 80 10,m 81 7,o 82 (.bin .add (.s 81) (.c (.t (.str [40])))),f 83 1 5,l 84 83,m 85 11,i 86 10 84 85,f 87 0 86,l 88 87,b 89 .add 82 88,o 90 (.bin .add (.s 89) (.c (.t (.str [41])))),o 91 (.build [jN 0,.t (.str [])] [(0,1,(.c (jN 22))),(1,1,(.s 90))]),o 92 (.bsl false 2 [[.int .i64 0,.str []]] [(0,(.s 91))]),o 93 (.app 2 24 (.s 80) (.s 92)),m 10 93] [5,7,8,10,11]
def c93_15:zW:=jS (jD [m 66 13,u 67 66,m 68 67,hf 69 68 1 12,hL 70 68 2 69,hf 71 68 1 5,hl 72 68 71,hm 73 68 11,hi 74 68 10 72 73,hf 75 68 1 74,hL 76 68 2 75,ho 77 68 (.call 121 [(.s 70),(.s 76)]),ho 78 68 (.un .not (.s 77)),q 79 68 78] [[],[0],[1],[2],[3,2],[2],[5,2],[2],[6,7,2],[8,2],[9,2],[4,10,2,2],[11,2],[2,12]] [5,7,8,10,11,79]) (jC 79 c93_13 .skip)
def c93_16:zW:=jS (jD [f 55 1 8,l 56 55,f 57 1 5,l 58 57,m 59 11,i 60 10 58 59,f 61 0 60,l 62 61,o 63 (.call 89 [(.s 56),(.s 62)]),m 54 63,x 64 54 0,x 65 54 1,o 12 (.alloc [.t (.str []),.t (.str []),.zV,.t (.bool false),jN 0,jN 0,.t (.str []),.zV,.zV,.zV]),jO (.st 10 (.s 12) (.s 64)),m 13 65] [[],[0],[],[2],[],[3,4],[5],[6],[1,7],[8],[9],[9],[],[12,10,8,0,1,2,3,4,5,6,7,8,9,10,12],[11,13,0,1,2,3,4,5,6,7,8,9,10,11,12,13]] [5,7,8,10,11,12,13]) c93_15
def c93_19:zW:=jS (jS (jR [m 47 11,f 48 1 5,l 49 48,e 50 49,b 51 .lss 47 50] [5,7,8,10,11,51]) (jC 51 .skip (.exit 0))) (jS (.block 1 c93_16) c93_12)
def c93_20:zW:=.loop c93_19
def c93_22:zW:=jS (jS (jR [jI 11 0] [5,7,8,10,11]) (.block 0 c93_20)) c93_11
def c93_23:zW:=jR [m 42 10,m 43 7,o 44 (.build [jN 0,.t (.str [])] [(0,1,(.c (jN 10))),(1,1,(.s 43))]),o 45 (.bsl false 2 [[.int .i64 0,.str []]] [(0,(.s 44))]),o 46 (.app 2 24 (.s 42) (.s 45)),m 10 46] [5,7,8,10]
def c93_25:zW:=jS (jS (jR [jL 35 1 3,f 36 2 8,jL 37 2 36,f 38 2 5,jL 39 2 38,o 40 (.call 120 [(.s 35),(.s 37),(.s 39)]),u 41 40] [5,7,8,10,41]) (jC 41 c93_23 .skip)) c93_22
def c93_26:zW:=jS (jR [o 10 (.cst (.zV))] [3,5,7,8,10]) c93_25
def c93_27:zW:=jS (jR [m 32 7,o 33 (.build [jN 0,.t (.str [])] [(0,1,(.c (jN 20))),(1,1,(.s 32))]),o 34 (.bsl true 2 [[.int .i64 0,.str []]] [(0,(.s 33))]),m 6 34] [6]) .ret
def c93_29:zW:=jS (jS (jR [m 30 9,u 31 30] [3,5,7,8,31]) (jC 31 c93_27 .skip)) c93_26
def c93_30:zW:=jS (jR [jL 24 7 4,f 25 0 5,l 26 25,o 27 (.call 38 [(.s 24),(.s 26)]),m 23 27,x 28 23 0,x 29 23 1,o 8 (.alloc [.t (.str []),.zV,.t (.str []),.zV,.zV]),jO (.st 5 (.s 8) (.s 28)),m 9 29] [3,5,7,8,9]) c93_29
def c93_31:zW:=jS (jR [f 17 1 4,l 18 17,o 19 (.bin .add (.s 18) (.c (.t (.str [46])))),f 20 0 5,l 21 20,b 22 .add 19 21,m 7 22] [3,4,5,7]) c93_30
def c93:zW:=jS (jR [o 3 (.box 1 (.s 0)),o 4 (.box 7 (.s 1)),o 5 (.box 5 (.s 2)),o 6 (.cst (.zV))] [3,4,5]) c93_31
def r93:List WC:=[.tmp 6]
def n93:Nat:=148
def c94_4:zW:=jS (jR [f 13 5 2,l 14 13,m 15 5,i 16 2 14 15,f 17 0 16,l 18 17,m 19 1,b 20 .eql 18 19] [1,2,5,20]) (jC 20 (jX [o 4 (.cst (.t (.bool true)))] [4]) .skip)
def c94_7:zW:=jS (jS (jR [m 6 5,f 7 5 2,l 8 7,e 9 8,b 10 .lss 6 9] [1,2,5,10]) (jC 10 .skip (.exit 0))) (jS (.block 1 c94_4) (jR [m 11 5,jB 12 .add 11 1,m 5 12] [1,2,5]))
def c94:zW:=jS (jR [o 2 (.box 7 (.s 0)),o 4 (.cst (.t (.bool false)))] [1,2]) (jS (jS (jR [jI 5 0] [1,2,5]) (.block 0 (.loop c94_7))) (jX [o 4 (.cst (.t (.bool false)))] [4]))
def r94:List WC:=[.tmp 4]
def n94:Nat:=21
def c95_0:zW:=jX [o 27 (.build [.t (.str []),.t (.str []),.zV] []),jO (.st 3 (.s 4) (.s 27)),o 5 (.cst (.t (.bool false)))] [4,5]
def c95_1:zW:=jR [m 12 6,jB 13 .add 12 1,m 6 13] [1,2,4,6]
def c95_2:zW:=jX [f 22 1 2,l 23 22,m 24 6,i 25 3 23 24,jL 26 3 25,jO (.st 3 (.s 4) (.s 26)),o 5 (.cst (.t (.bool true)))] [4,5]
def c95_4:zW:=jS (jR [f 14 1 2,l 15 14,m 16 6,i 17 3 15 16,f 18 0 17,l 19 18,m 20 1,b 21 .eql 19 20] [1,2,4,6,21]) (jC 21 c95_2 .skip)
def c95_7:zW:=jS (jS (jR [m 7 6,f 8 1 2,l 9 8,e 10 9,b 11 .lss 7 10] [1,2,4,6,11]) (jC 11 .skip (.exit 0))) (jS (.block 1 c95_4) c95_1)
def c95:zW:=jS (jR [o 2 (.box 2 (.s 0)),o 4 (.alloc [.t (.str []),.t (.str []),.zV]),o 5 (.cst (.t (.bool false)))] [1,2,4]) (jS (jS (jR [jI 6 0] [1,2,4,6]) (.block 0 (.loop c95_7))) c95_0)
def r95:List WC:=[.cell 4 true 3,.tmp 5]
def n95:Nat:=28
def c96_0:zW:=jS (jR [m 21 3,o 22 (.build [jN 0,.t (.str [])] [(0,1,(.c (jN 25))),(1,1,(.s 21))]),o 23 (.bsl true 2 [[.int .i64 0,.str []]] [(0,(.s 22))]),m 8 23] [8]) .ret
def c96_3:zW:=jS (jS (jR [m 9 1,o 10 (.bin .eql (.s 9) (.c (.t (.str [])))),m 11 10,hm 12 11 2,ho 13 11 (.bin .eql (.s 12) (.c (.t (.str [])))),q 14 11 13,m 15 14,hL 16 15 1 4,hm 17 15 1,hm 18 15 2,ho 19 15 (.call 122 [(.s 16),(.s 17),(.s 18)]),q 20 15 19] [3,20]) (jC 20 (jX [o 8 (.cst (.zV))] [8]) .skip)) c96_0
def c96:zW:=jS (jR [o 4 (.box 1 (.s 0)),o 8 (.cst (.zV))] [1,2,3,4]) c96_3
def r96:List WC:=[.tmp 8]
def n96:Nat:=24
def c97_0:zW:=jX [jL 33 1 3,f 34 2 9,f 35 0 34,l 36 35,o 37 (.call 56 [(.s 33),(.s 36)]),m 6 37] [6]
def c97_3:zW:=jS (jS (jR [m 23 1,o 24 (.bin .eql (.s 23) (.c (.t (.str [])))),m 25 24,hm 26 25 8,ho 27 25 (.un .not (.s 26)),q 28 25 27,m 29 28,hm 30 29 10,ho 31 29 (.un .not (.s 30)),q 32 29 31] [3,9,32]) (jC 32 (jX [o 6 (.cst (.t (.str [])))] [6]) .skip)) c97_0
def c97_4:zW:=jS (jR [jL 18 7 7,m 19 2,o 20 (.call 38 [(.s 18),(.s 19)]),m 17 20,x 21 17 0,x 22 17 1,o 9 (.alloc [.t (.str []),.zV,.t (.str []),.zV,.zV]),jO (.st 5 (.s 9) (.s 21)),m 10 22] [1,3,8,9,10]) c97_3
def c97_5:zW:=jS (jR [jL 12 1 3,m 13 1,o 14 (.call 37 [(.s 12),(.s 13)]),m 11 14,x 15 11 0,x 16 11 1,o 7 (.alloc [jN 0,.t (.str []),.zV,.zV,.zV,.zV,.zV]),jO (.st 7 (.s 7) (.s 15)),m 8 16] [1,2,3,7,8]) c97_4
def c97:zW:=jS (jR [o 3 (.box 1 (.s 0)),o 6 (.cst (.t (.str [])))] [1,2,3]) c97_5
def r97:List WC:=[.tmp 6]
def n97:Nat:=38
def c98_3:zW:=jS (jS (jR [f 3 1 1,l 4 3,o 5 (.bin .neq (.s 4) (.c (.t (.str []))))] [1,5]) (jC 5 (jX [f 6 1 1,l 7 6,m 2 7] [2]) .skip)) (jX [f 8 2 1,l 9 8,m 2 9] [2])
def c98:zW:=jS (jR [o 1 (.box 7 (.s 0)),o 2 (.cst (.t (.str [])))] [1]) c98_3
def r98:List WC:=[.tmp 2]
def n98:Nat:=10
def c99_1:zW:=jR [m 19 9,jB 20 .add 19 1,m 9 20] [1,2,3,8,9]
def c99_2:zW:=jR [m 67 8,m 68 67,gm 69 68 14,p 70 68 69,m 8 70] [1,2,3,8,9]
def c99_3:zW:=jS (jR [m 66 13,m 2 66] [1,2,3,8,9,14]) c99_2
def c99_4:zW:=jS (jR [jL 60 2 3,m 61 10,m 62 2,o 63 (.call 99 [(.s 60),(.s 61),(.s 62)]),m 59 63,x 64 59 0,x 65 59 1,m 13 64,m 14 65] [1,3,8,9,13,14]) c99_3
def c99_5:zW:=jR [f 57 2 11,l 58 57,m 10 58] [1,2,3,8,9,10]
def c99_6:zW:=jS (jR [m 52 2,f 53 0 11,l 54 53,o 55 (.bsl false 1 [[.str []]] [(0,(.s 54))]),o 56 (.app 1 16 (.s 52) (.s 55)),m 2 56] [1,2,3,8,9,11]) c99_5
def c99_8:zW:=jS (jS (jR [m 44 12,u 45 44,m 46 45,hm 47 46 2,hf 48 46 0 11,hl 49 46 48,ho 50 46 (.call 100 [(.s 47),(.s 49)]),q 51 46 50] [1,2,3,8,9,11,51]) (jC 51 (.exit 1) .skip)) c99_6
def c99_9:zW:=jR [o 8 (.cst (.t (.bool false)))] [1,2,3,8,9,11,12]
def c99_11:zW:=jS (jS (jR [m 42 12,u 43 42] [1,2,3,8,9,11,12,43]) (jC 43 c99_9 .skip)) c99_8
def c99_12:zW:=jS (jD [jL 33 2 3,m 34 1,m 35 9,i 36 7 34 35,f 37 2 36,l 38 37,o 39 (.call 95 [(.s 33),(.s 38)]),m 32 39,x 40 32 0,x 41 32 1,o 11 (.alloc [.t (.str []),.t (.str []),.zV]),jO (.st 3 (.s 11) (.s 40)),m 12 41] [[],[],[],[1,2],[3],[4],[0,5],[6],[7],[7],[],[10,8,6,0,1,2,3,4,5,6,7,8,10],[9,11,0,1,2,3,4,5,6,7,8,9,10,11]] [1,2,3,8,9,11,12]) c99_11
def c99_14:zW:=jS (jS (jR [m 26 1,m 27 9,i 28 7 26 27,f 29 0 28,l 30 29,jB 31 .eql 30 2] [1,2,3,8,9,10,31]) (jC 31 c99_12 .skip)) c99_4
def c99_15:zW:=jS (jR [m 21 1,m 22 9,i 23 7 21 22,f 24 6 23,l 25 24,m 10 25] [1,2,3,8,9,10]) c99_14
def c99_18:zW:=jS (jS (jR [m 15 9,m 16 1,e 17 16,b 18 .lss 15 17] [1,2,3,8,9,18]) (jC 18 .skip (.exit 0))) (jS (.block 1 c99_15) c99_1)
def c99_21:zW:=jS (jS (jR [jI 9 0] [1,2,3,8,9]) (.block 0 (.loop c99_18))) (jX [m 71 2,m 72 8,m 6 71,m 7 72] [6,7])
def c99_22:zW:=jS (jR [o 8 (.cst (.t (.bool true)))] [1,2,3,8]) c99_21
def c99:zW:=jS (jR [o 3 (.box 2 (.s 0)),o 6 (.cst (.zV)),o 7 (.cst (.t (.bool false)))] [1,2,3]) c99_22
def r99:List WC:=[.tmp 6,.tmp 7]
def n99:Nat:=73
def c100_4:zW:=jS (jR [m 12 0,m 13 5,i 14 1 12 13,l 15 14,m 16 1,b 17 .eql 15 16] [0,1,5,17]) (jC 17 (jX [o 4 (.cst (.t (.bool true)))] [4]) .skip)
def c100_7:zW:=jS (jS (jR [m 6 5,m 7 0,e 8 7,b 9 .lss 6 8] [0,1,5,9]) (jC 9 .skip (.exit 0))) (jS (.block 1 c100_4) (jR [m 10 5,jB 11 .add 10 1,m 5 11] [0,1,5]))
def c100:zW:=jS (jR [o 4 (.cst (.t (.bool false)))] [0,1]) (jS (jS (jR [jI 5 0] [0,1,5]) (.block 0 (.loop c100_7))) (jX [o 4 (.cst (.t (.bool false)))] [4]))
def r100:List WC:=[.tmp 4]
def n100:Nat:=18
def c102_1:zW:=jR [jB 101 .add 20 1,m 20 101] [0,1,2,3,4,19,20]
def c102_2:zW:=jR [m 48 0,m 49 12,n 50 49,f 51 6 50,l 52 51,m 53 13,m 54 3,m 55 4,o 56 (.call 102 [(.s 48),(.s 52),(.s 53),(.s 54),(.s 55)]),m 4 56] [0,1,2,3,4,19,20]
def c102_3:zW:=jR [m 44 12,n 45 44,f 46 3 45,l 47 46,m 13 47] [0,1,2,3,4,12,13,19,20]
def c102_5:zW:=jS (jS (jR [m 39 12,n 40 39,f 41 3 40,l 42 41,o 43 (.bin .neq (.s 42) (.c (.t (.str []))))] [0,1,2,3,4,12,13,19,20,43]) (jC 43 c102_3 .skip)) c102_2
def c102_6:zW:=jS (jR [m 38 2,m 13 38] [0,1,2,3,4,12,13,19,20]) c102_5
def c102_7:zW:=jD [m 91 0,m 92 0,f 93 0 14,l 94 93,o 95 (.call 125 [(.s 92),(.s 94)]),f 96 1 14,l 97 96,m 98 3,m 99 4,o 100 (.call 102 [(.s 91),(.s 95),(.s 97),(.s 98),(.s 99)]),m 4 100] [[],[],[],[2],[1,3],[],[5],[],[],[0,4,6,7,8,4],[9,9,0,1,2,3,4,5,6,7,8,9]] [0,1,2,3,4,19,20]
def c102_8:zW:=jS (jR [m 85 3,m 86 12,n 87 86,f 88 2 87,l 89 88,o 90 (.build [] []),jO (.nw (.z9S [.str] false (.s 85) (.s 89) (.s 90)))] [0,1,2,3,4,14,19,20]) c102_7
def c102_10:zW:=jS (jR [m 80 15,u 81 80,m 82 81,hm 83 82 17,q 84 82 83] [0,1,2,3,4,12,14,19,20,84]) (jC 84 (.exit 1) .skip)
def c102_11:zW:=jS (jS (jR [m 72 3,m 73 12,n 74 73,f 75 2 74,l 76 75,o 77 (.nw (.lookup [.str] false (.agg []) true (.s 72) (.s 76))),m 71 77,x 78 71 0,x 79 71 1,o 16 (.alloc []),jO (.st 0 (.s 16) (.s 78)),m 17 79] [0,1,2,3,4,12,14,15,17,19,20]) c102_10) c102_8
def c102_12:zW:=jS (jD [m 60 0,n 61 60,f 62 1 61,jL 63 2 62,m 64 12,n 65 64,f 66 2 65,l 67 66,o 68 (.call 124 [(.s 63),(.s 67)]),m 59 68,x 69 59 0,x 70 59 1,o 14 (.alloc [.t (.str []),.t (.str []),.zV]),jO (.st 3 (.s 14) (.s 69)),m 15 70] [[],[0],[1],[2],[],[4],[5],[6],[3,7],[8],[9],[9],[],[12,10,8,0,1,2,3,4,5,6,7,8,9,10,12],[11,13,0,1,2,3,4,5,6,7,8,9,10,11,12,13]] [0,1,2,3,4,12,14,15,19,20]) c102_11
def c102_13:zW:=jR [m 30 4,m 31 2,m 32 12,o 33 (.build [.t (.str []),.t (.QP)] [(0,1,(.s 31)),(1,1,(.s 32))]),o 34 (.bsl false 2 [[.str [],.QP]] [(0,(.s 33))]),o 35 (.app 2 24 (.s 30) (.s 34)),m 4 35] [0,1,2,3,4,19,20]
def c102_15:zW:=jS (jR [jB 58 .eql 29 2,m 57 58] [0,1,2,3,4,12,19,20,57]) (jC 57 c102_12 c102_13)
def c102_17:zW:=jS (jR [jB 37 .eql 29 3,m 36 37] [0,1,2,3,4,12,19,20,29,36]) (jC 36 c102_6 c102_15)
def c102_19:zW:=jS (jR [m 26 12,n 27 26,f 28 0 27,l 29 28] [0,1,2,3,4,12,19,20,29]) (.block 2 c102_17)
def c102_20:zW:=jS (jR [m 23 1,m 24 11,i 25 7 23 24,m 12 25] [0,1,2,3,4,12,19,20]) c102_19
def c102_21:zW:=jS (jR [m 22 20,m 11 22] [0,1,2,3,4,11,19,20]) c102_20
def c102_24:zW:=jS (jR [b 21 .lss 20 19] [0,1,2,3,4,19,20,21]) (jS (jC 21 .skip (.exit 0)) (jS (.block 1 c102_21) c102_1))
def c102_27:zW:=jS (jS (jR [m 18 1,e 19 18,jI 20 0] [0,1,2,3,4,19,20]) (.block 0 (.loop c102_24))) (jX [m 102 4,m 10 102] [10])
def c102:zW:=jS (jR [o 10 (.cst (.zV))] [0,1,2,3,4]) c102_27
def r102:List WC:=[.tmp 10]
def n102:Nat:=103
def c103_3:zW:=jS (jS (jR [m 22 6,u 23 22] [5,23]) (jC 23 (jX [o 4 (.cst (.t (.str [])))] [4]) .skip)) (jX [f 24 0 5,l 25 24,m 4 25] [4])
def c103_4:zW:=jS (jD [m 8 0,n 9 8,f 10 0 9,jL 11 1 10,f 12 0 3,l 13 12,f 14 1 3,l 15 14,n 16 15,f 17 2 16,l 18 17,o 19 (.call 107 [(.s 11),(.s 13),(.s 18)]),m 7 19,x 20 7 0,x 21 7 1,o 5 (.alloc [.t (.str []),.zV]),jO (.st 2 (.s 5) (.s 20)),m 6 21] [[],[0],[1],[2],[],[4],[],[6],[7],[8],[9],[3,5,10],[11],[12],[12],[],[15,13,11,0,1,2,3,4,5,6,7,8,9,10,11,12,13,15],[14,16,0,1,2,3,4,5,6,7,8,9,10,11,12,13,14,15,16]] [5,6]) c103_3
def c103:zW:=jS (jR [o 3 (.box 2 (.s 1)),o 4 (.cst (.t (.str [])))] [0,3]) c103_4
def r103:List WC:=[.tmp 4]
def n103:Nat:=26
def c107_0:zW:=jS (jD [f 36 2 10,f 37 0 36,l 38 37,f 39 2 10,f 40 1 39,l 41 40,o 42 (.call 132 [(.s 41)]),o 43 (.build [.t (.str []),.zV] [(0,1,(.s 38)),(1,1,(.s 42))]),jO (.st 2 (.s 6) (.s 43)),o 7 (.cst (.t (.bool true)))] [[],[0],[1],[],[3],[4],[5],[2,6],[7,6,0,1,2,3,4,5,6,7],[8,0,1,2,3,4,5,6,7,8]] [6,7]) .ret
def c107_1:zW:=jX [o 35 (.build [.t (.str []),.zV] []),jO (.st 2 (.s 6) (.s 35)),o 7 (.cst (.t (.bool false)))] [6,7]
def c107_3:zW:=jS (jS (jR [m 33 11,u 34 33] [6,10,34]) (jC 34 c107_1 .skip)) c107_0
def c107_4:zW:=jS (jR [jL 28 7 8,m 29 2,o 30 (.call 131 [(.s 28),(.s 29)]),m 27 30,x 31 27 0,x 32 27 1,o 10 (.alloc [.t (.str []),.zV,.t (.str []),.zV,.zV]),jO (.st 5 (.s 10) (.s 31)),m 11 32] [6,10,11]) c107_3
def c107_5:zW:=jS (jR [jL 22 1 3,m 23 1,o 24 (.call 130 [(.s 22),(.s 23)]),m 21 24,x 25 21 0,x 26 21 1,o 8 (.alloc [jN 0,.t (.str []),.zV,.zV,.zV,.zV,.zV]),jO (.st 7 (.s 8) (.s 25)),m 9 26] [2,6,8]) c107_4
def c107_6:zW:=jS (jR [o 19 (.call 129 [(.c (.t (.str [83,116,114,105,110,103])))]),o 20 (.call 128 [(.s 19)]),jO (.st 2 (.s 6) (.s 20)),o 7 (.cst (.t (.bool true)))] [6,7]) .ret
def c107_8:zW:=jS (jS (jR [m 17 2,o 18 (.bin .eql (.s 17) (.c (.t (.str [95,95,116,121,112,101,110,97,109,101]))))] [1,2,3,6,18]) (jC 18 c107_6 .skip)) c107_5
def c107_9:zW:=jX [o 16 (.build [.t (.str []),.zV] []),jO (.st 2 (.s 6) (.s 16)),o 7 (.cst (.t (.bool false)))] [6,7]
def c107_11:zW:=jS (jS (jR [jL 12 1 3,m 13 1,o 14 (.call 127 [(.s 12),(.s 13)]),u 15 14] [1,2,3,6,15]) (jC 15 c107_9 .skip)) c107_8
def c107:zW:=jS (jR [o 3 (.box 1 (.s 0)),o 6 (.alloc [.t (.str []),.zV]),o 7 (.cst (.t (.bool false)))] [1,2,3,6]) c107_11
def r107:List WC:=[.cell 6 true 2,.tmp 7]
def n107:Nat:=44
def c108_0:zW:=jS (jD [jL 13 2 4,jL 14 2 5,o 15 (.call 134 [(.s 13),(.s 14)]),m 16 15,hm 17 16 0,ho 18 16 (.z2N (.s 17)),hf 19 16 0 18,hL 20 16 1 19,hf 21 16 0 4,hl 22 16 21,ho 23 16 (.call 127 [(.s 20),(.s 22)]),hm 24 16 23,gm 25 24 0,go 26 24 (.z2N (.s 25)),gf 27 24 0 26,gL 28 24 1 27,gf 29 24 0 5,gl 30 24 29,go 31 24 (.call 127 [(.s 28),(.s 30)]),ho 32 16 (.pick (.s 24) (.s 31) (.c (.t (.bool false)))),q 33 16 32,m 6 33] [[],[],[0,1],[2,2],[3],[4,3],[5,3],[6,3],[3],[8,3],[7,9,3,3],[10,10,3],[11],[12,11],[13,11],[14,11],[11],[16,11],[15,17,11,11],[11,18,3],[3,19],[20,18,0,1,2,3,4,5,6,7,8,9,10,11,12,13,14,15,16,17,18,19,20]] [6]) .ret
def c108_3:zW:=jS (jS (jR [f 7 1 4,l 8 7,f 9 1 5,l 10 9,o 11 (.call 133 [(.s 8),(.s 10)]),u 12 11] [0,4,5,12]) (jC 12 (jX [o 6 (.cst (.t (.bool false)))] [6]) .skip)) c108_0
def c108:zW:=jS (jR [o 4 (.box 2 (.s 1)),o 5 (.box 2 (.s 2)),o 6 (.cst (.t (.bool false)))] [0,4,5]) c108_3
def r108:List WC:=[.tmp 6]
def n108:Nat:=34
def c110_0:zW:=jX [m 5 0,e 6 5,m 7 1,e 8 7,b 9 .eql 6 8,m 10 9,gm 11 10 0,gm 12 10 1,go 13 10 (.call 135 [(.s 11),(.s 12)]),p 14 10 13,m 15 14,gm 16 15 1,gm 17 15 0,go 18 15 (.call 135 [(.s 16),(.s 17)]),p 19 15 18,m 4 19] [4]
def c110:zW:=jS (jR [o 4 (.cst (.t (.bool false)))] [0,1]) c110_0
def r110:List WC:=[.tmp 4]
def n110:Nat:=20
def c111_0:zW:=jX [f 18 0 1,l 19 18,jB 20 .neq 19 7,m 2 20] [2]
def c111_4:zW:=jS (jR [f 11 3 1,l 12 11,m 13 3,i 14 5 12 13,jL 15 5 14,o 16 (.call 111 [(.s 15)]),u 17 16] [1,3,17]) (jC 17 (jX [o 2 (.cst (.t (.bool false)))] [2]) .skip)
def c111_7:zW:=jS (jS (jR [m 4 3,f 5 3 1,l 6 5,e 7 6,b 8 .lss 4 7] [1,3,8]) (jC 8 .skip (.exit 0))) (jS (.block 1 c111_4) (jR [m 9 3,jB 10 .add 9 1,m 3 10] [1,3]))
def c111:zW:=jS (jR [o 1 (.box 5 (.s 0)),o 2 (.cst (.t (.bool false)))] [1]) (jS (jS (jR [jI 3 0] [1,3]) (.block 0 (.loop c111_7))) c111_0)
def r111:List WC:=[.tmp 2]
def n111:Nat:=21
def c112_0:zW:=jS (jR [f 3 0 1,l 4 3,jB 5 .eql 4 0,m 6 5,gf 7 6 1 1,gl 8 6 7,gB 9 6 .eql 8 0,p 10 6 9,m 11 10,gf 12 11 2 1,gl 13 11 12,go 14 11 (.bin .eql (.s 13) (.c (.t (.str [])))),p 15 11 14,m 16 15,gf 17 16 3 1,gl 18 16 17,ge 19 16 18,gB 20 16 .eql 19 0,p 21 16 20,m 22 21,gf 23 22 4 1,gl 24 22 23,ge 25 22 24,gB 26 22 .eql 25 0,p 27 22 26,m 2 27] [2]) .ret
def c112:zW:=jS (jR [o 1 (.box 5 (.s 0)),o 2 (.cst (.t (.bool false)))] [1]) c112_0
def r112:List WC:=[.tmp 2]
def n112:Nat:=28
def c113_2:zW:=jR [m 12 3,f 13 3 1,l 14 13,m 15 4,i 16 5 14 15,jL 17 5 16,o 18 (.call 113 [(.s 17)]),o 19 (.zbP (.s 12) (.s 18)),m 3 19] [1,3,4]
def c113_5:zW:=jS (jS (jR [m 5 4,f 6 3 1,l 7 6,e 8 7,b 9 .lss 5 8] [1,3,4,9]) (jC 9 .skip (.exit 0))) (jS (.block 1 c113_2) (jR [m 10 4,jB 11 .add 10 1,m 4 11] [1,3,4]))
def c113:zW:=jS (jR [o 1 (.box 5 (.s 0)),jI 2 0] [1]) (jS (jR [jI 3 0] [1,3]) (jS (jS (jR [jI 4 0] [1,3,4]) (.block 0 (.loop c113_5))) (jX [m 20 3,jB 21 .add 20 1,m 2 21] [2])))
def r113:List WC:=[.tmp 2]
def n113:Nat:=22
def c114_4:zW:=jS (jR [f 35 3 2,l 36 35,m 37 6,i 38 5 36 37,jL 39 5 38,m 40 1,o 41 (.call 114 [(.s 39),(.s 40)]),u 42 41] [1,2,6,42]) (jC 42 (jX [o 4 (.cst (.t (.bool false)))] [4]) .skip)
def c114_7:zW:=jS (jS (jR [m 28 6,f 29 3 2,l 30 29,e 31 30,b 32 .lss 28 31] [1,2,6,32]) (jC 32 .skip (.exit 2))) (jS (.block 3 c114_4) (jR [m 33 6,jB 34 .add 33 1,m 6 34] [1,2,6]))
def c114_14:zW:=jS (jR [m 18 1,m 19 18,gf 20 19 4 2,gl 21 19 20,gm 22 19 5,gi 23 19 1 21 22,gl 24 19 23,go 25 19 (.call 45 [(.s 24)]),go 26 19 (.un .not (.s 25)),p 27 19 26] [1,2,5,27]) (jC 27 (jX [o 4 (.cst (.t (.bool false)))] [4]) .skip)
def c114_17:zW:=jS (jS (jR [m 11 5,f 12 4 2,l 13 12,e 14 13,b 15 .lss 11 14] [1,2,5,15]) (jC 15 .skip (.exit 0))) (jS (.block 1 c114_14) (jR [m 16 5,jB 17 .add 16 1,m 5 17] [1,2,5]))
def c114_20:zW:=jS (jS (jR [jI 5 0] [1,2,5]) (.block 0 (.loop c114_17))) (jS (jS (jR [jI 6 0] [1,2,6]) (.block 2 (.loop c114_7))) (jX [o 4 (.cst (.t (.bool true)))] [4]))
def c114_23:zW:=jS (jS (jR [jL 7 5 2,m 8 1,o 9 (.call 136 [(.s 7),(.s 8)]),u 10 9] [1,2,10]) (jC 10 (jX [o 4 (.cst (.t (.bool false)))] [4]) .skip)) c114_20
def c114:zW:=jS (jR [o 2 (.box 5 (.s 0)),o 4 (.cst (.t (.bool false)))] [1,2]) c114_23
def r114:List WC:=[.tmp 4]
def n114:Nat:=43
def c115_0:zW:=jX [m 26 0,e 27 26,jB 28 .leq 27 16,m 2 28] [2]
def c115_4:zW:=jS (jR [m 10 0,m 11 3,i 12 2 10 11,f 13 0 12,l 14 13,o 15 (.call 45 [(.s 14)]),u 16 15,m 17 16,hm 18 17 0,hm 19 17 3,hi 20 17 2 18 19,hf 21 17 1 20,hl 22 17 21,ho 23 17 (.call 116 [(.s 22)]),ho 24 17 (.un .not (.s 23)),q 25 17 24] [0,3,25]) (jC 25 (jX [o 2 (.cst (.t (.bool false)))] [2]) .skip)
def c115_7:zW:=jS (jS (jR [m 4 3,m 5 0,e 6 5,b 7 .lss 4 6] [0,3,7]) (jC 7 .skip (.exit 0))) (jS (.block 1 c115_4) (jR [m 8 3,jB 9 .add 8 1,m 3 9] [0,3]))
def c115:zW:=jS (jR [o 2 (.cst (.t (.bool false)))] [0]) (jS (jS (jR [jI 3 0] [0,3]) (.block 0 (.loop c115_7))) c115_0)
def r115:List WC:=[.tmp 2]
def n115:Nat:=29
def c116_0:zW:=jX [m 26 0,e 27 26,jB 28 .leq 27 16,m 2 28] [2]
def c116_4:zW:=jS (jR [m 10 0,m 11 3,i 12 6 10 11,f 13 0 12,l 14 13,o 15 (.call 45 [(.s 14)]),u 16 15,m 17 16,hm 18 17 0,hm 19 17 3,hi 20 17 6 18 19,hf 21 17 1 20,hL 22 17 5 21,ho 23 17 (.call 82 [(.s 22)]),ho 24 17 (.un .not (.s 23)),q 25 17 24] [0,3,25]) (jC 25 (jX [o 2 (.cst (.t (.bool false)))] [2]) .skip)
def c116_7:zW:=jS (jS (jR [m 4 3,m 5 0,e 6 5,b 7 .lss 4 6] [0,3,7]) (jC 7 .skip (.exit 0))) (jS (.block 1 c116_4) (jR [m 8 3,jB 9 .add 8 1,m 3 9] [0,3]))
def c116:zW:=jS (jR [o 2 (.cst (.t (.bool false)))] [0]) (jS (jS (jR [jI 3 0] [0,3]) (.block 0 (.loop c116_7))) c116_0)
def r116:List WC:=[.tmp 2]
def n116:Nat:=29
def c117_0:zW:=jX [m 3 0,o 4 (.call 45 [(.s 3)]),m 5 4,gm 6 5 0,go 7 5 (.call 137 [(.s 6)]),go 8 5 (.un .not (.s 7)),p 9 5 8,m 2 9] [2]
def c117:zW:=jS (jR [o 2 (.cst (.t (.bool false)))] [0]) c117_0
def r117:List WC:=[.tmp 2]
def n117:Nat:=10
def c118_1:zW:=jR [m 18 9,jB 19 .add 18 1,m 9 19] [2,3,4,5,9]
def c118_2:zW:=jR [m 56 3,f 57 0 10,l 58 57,o 59 (.bsl false 1 [[.str []]] [(0,(.s 58))]),o 60 (.app 1 16 (.s 56) (.s 59)),m 3 60] [2,3,4,5,9]
def c118_4:zW:=jS (jR [jL 33 2 10,o 34 (.call 138 [(.s 33)]),m 35 34,gf 36 35 0 10,gl 37 35 36,gm 38 35 2,gb 39 35 .eql 37 38,gm 40 35 39,hm 41 40 12,hm 42 40 41,gf 43 42 0 11,gl 44 42 43,gB 45 42 .eql 44 5,ho 46 40 (.pick (.s 42) (.s 45) (.c (.t (.bool false)))),go 47 35 (.pick (.s 40) (.c (.t (.bool true))) (.s 46)),p 48 35 47,m 49 48,gm 50 49 3,gf 51 49 0 10,gl 52 49 51,go 53 49 (.call 119 [(.s 50),(.s 52)]),go 54 49 (.un .not (.s 53)),p 55 49 54] [2,3,4,5,9,10,55]) (jC 55 c118_2 .skip)
def c118_5:zW:=jS (jR [jL 27 1 4,f 28 0 10,l 29 28,o 30 (.call 37 [(.s 27),(.s 29)]),m 26 30,x 31 26 0,x 32 26 1,o 11 (.alloc [jN 0,.t (.str []),.zV,.zV,.zV,.zV,.zV]),jO (.st 7 (.s 11) (.s 31)),m 12 32] [2,3,4,5,9,10,11,12]) c118_4
def c118_6:zW:=jS (jR [f 20 6 5,l 21 20,m 22 9,i 23 10 21 22,f 24 1 23,jL 25 2 24,o 10 (.alloc [.t (.str []),.zV]),jO (.st 2 (.s 10) (.s 25))] [2,3,4,5,9,10]) c118_5
def c118_9:zW:=jS (jS (jR [m 13 9,f 14 6 5,l 15 14,e 16 15,b 17 .lss 13 16] [2,3,4,5,9,17]) (jC 17 .skip (.exit 0))) (jS (.block 1 c118_6) c118_1)
def c118_12:zW:=jS (jS (jR [jI 9 0] [2,3,4,5,9]) (.block 0 (.loop c118_9))) (jX [m 61 3,m 8 61] [8])
def c118:zW:=jS (jR [o 4 (.box 1 (.s 0)),o 5 (.box 7 (.s 1)),o 8 (.cst (.zV))] [2,3,4,5]) c118_12
def r118:List WC:=[.tmp 8]
def n118:Nat:=62
def c119_4:zW:=jS (jR [m 12 0,m 13 5,i 14 1 12 13,l 15 14,m 16 1,b 17 .eql 15 16] [0,1,5,17]) (jC 17 (jX [o 4 (.cst (.t (.bool true)))] [4]) .skip)
def c119_7:zW:=jS (jS (jR [m 6 5,m 7 0,e 8 7,b 9 .lss 6 8] [0,1,5,9]) (jC 9 .skip (.exit 0))) (jS (.block 1 c119_4) (jR [m 10 5,jB 11 .add 10 1,m 5 11] [0,1,5]))
def c119:zW:=jS (jR [o 4 (.cst (.t (.bool false)))] [0,1]) (jS (jS (jR [jI 5 0] [0,1,5]) (.block 0 (.loop c119_7))) (jX [o 4 (.cst (.t (.bool false)))] [4]))
def r119:List WC:=[.tmp 4]
def n119:Nat:=18
def c120_0:zW:=jS (jR [m 48 8,u 49 48,m 50 49,gm 51 50 10,go 52 50 (.un .not (.s 51)),p 53 50 52,m 54 53,gf 55 54 0 4,gl 56 54 55,gf 57 54 0 5,gl 58 54 57,gb 59 54 .eql 56 58,gm 60 54 59,hL 61 60 1 3,hf 62 60 0 4,hl 63 60 62,hf 64 60 0 5,hl 65 60 64,ho 66 60 (.call 141 [(.s 61),(.s 63),(.s 65)]),go 67 54 (.pick (.s 60) (.c (.t (.bool true))) (.s 66)),p 68 54 67,m 6 68] [6]) .ret
def c120_1:zW:=jX [jL 44 1 3,jL 45 2 7,jL 46 2 9,o 47 (.call 120 [(.s 44),(.s 45),(.s 46)]),m 6 47] [6]
def c120_3:zW:=jS (jS (jR [m 40 8,m 41 40,gm 42 41 10,p 43 41 42] [3,4,5,7,8,9,10,43]) (jC 43 c120_1 .skip)) c120_0
def c120_4:zW:=jS (jR [jL 36 2 5,o 37 (.call 140 [(.s 36)]),m 35 37,x 38 35 0,x 39 35 1,o 9 (.alloc [.t (.str []),.zV]),jO (.st 2 (.s 9) (.s 38)),m 10 39] [3,4,5,7,8,9,10]) c120_3
def c120_5:zW:=jS (jR [jL 31 2 4,o 32 (.call 140 [(.s 31)]),m 30 32,x 33 30 0,x 34 30 1,o 7 (.alloc [.t (.str []),.zV]),jO (.st 2 (.s 7) (.s 33)),m 8 34] [3,4,5,7,8]) c120_4
def c120_6:zW:=jS (jD [jL 25 1 3,jL 26 2 4,o 27 (.call 139 [(.s 26)]),jL 28 2 5,o 29 (.call 120 [(.s 25),(.s 27),(.s 28)]),m 6 29] [[],[],[1],[],[0,2,3,2],[4,4,0,1,2,3,4]] [6]) .ret
def c120_8:zW:=jS (jS (jR [jL 23 2 4,o 24 (.call 70 [(.s 23)])] [3,4,5,24]) (jC 24 c120_6 .skip)) c120_5
def c120_9:zW:=jS (jD [jL 13 2 4,o 14 (.call 70 [(.s 13)]),m 15 14,gL 16 15 1 3,gL 17 15 2 4,go 18 15 (.call 139 [(.s 17)]),gL 19 15 2 5,go 20 15 (.call 139 [(.s 19)]),go 21 15 (.call 120 [(.s 16),(.s 18),(.s 20)]),p 22 15 21,m 6 22] [[],[0],[1,1],[2],[2],[4,2,2],[2],[6,5,2],[3,5,7,7,2],[2,8],[9,8,0,1,2,3,4,5,6,7,8,9]] [6]) .ret
def c120_11:zW:=jS (jS (jR [jL 11 2 5,o 12 (.call 70 [(.s 11)])] [3,4,5,12]) (jC 12 c120_9 .skip)) c120_8
def c120:zW:=jS (jR [o 3 (.box 1 (.s 0)),o 4 (.box 2 (.s 1)),o 5 (.box 2 (.s 2)),o 6 (.cst (.t (.bool false)))] [3,4,5]) c120_11
def r120:List WC:=[.tmp 6]
def n120:Nat:=69
def c121_0:zW:=jX [f 5 0 2,l 6 5,f 7 0 3,l 8 7,b 9 .eql 6 8,m 10 9,gf 11 10 1 2,gl 12 10 11,gf 13 10 1 3,gl 14 10 13,go 15 10 (.call 142 [(.s 12),(.s 14)]),p 16 10 15,m 4 16] [4]
def c121:zW:=jS (jR [o 2 (.box 2 (.s 0)),o 3 (.box 2 (.s 1)),o 4 (.cst (.t (.bool false)))] [2,3]) c121_0
def r121:List WC:=[.tmp 4]
def n121:Nat:=17
def c122_1:zW:=jR [m 16 8,jB 17 .add 16 1,m 8 17] [2,3,7,8]
def c122_4:zW:=jS (jD [jL 18 1 3,m 19 7,m 20 8,i 21 1 19 20,l 22 21,m 23 2,o 24 (.call 141 [(.s 18),(.s 22),(.s 23)])] [[],[],[],[1,2],[3],[],[0,4,5]] [2,3,7,8,24]) (jC 24 (jX [o 6 (.cst (.t (.bool true)))] [6]) .skip)
def c122_7:zW:=jS (jS (jR [m 12 8,m 13 7,e 14 13,b 15 .lss 12 14] [2,3,7,8,15]) (jC 15 .skip (.exit 0))) (jS (.block 1 c122_4) c122_1)
def c122_10:zW:=jS (jS (jR [jI 8 0] [2,3,7,8]) (.block 0 (.loop c122_7))) (jX [o 6 (.cst (.t (.bool false)))] [6])
def c122_11:zW:=jS (jR [jL 9 1 3,m 10 1,o 11 (.call 143 [(.s 9),(.s 10)]),m 7 11] [2,3,7]) c122_10
def c122:zW:=jS (jR [o 3 (.box 1 (.s 0)),o 6 (.cst (.t (.bool false)))] [1,2,3]) c122_11
def r122:List WC:=[.tmp 6]
def n122:Nat:=25
def c124_0:zW:=jX [o 21 (.build [.t (.str []),.t (.str []),.zV] []),jO (.st 3 (.s 4) (.s 21)),o 5 (.cst (.t (.bool false)))] [4,5]
def c124_2:zW:=jX [jL 19 3 7,jO (.st 3 (.s 4) (.s 19)),o 5 (.cst (.t (.bool true)))] [4,5]
def c124_4:zW:=jS (jR [f 15 0 7,l 16 15,m 17 1,b 18 .eql 16 17] [1,4,7,9,10,11,18]) (jC 18 c124_2 .skip)
def c124_5:zW:=jS (jR [i 13 3 9 11,jL 14 3 13,o 7 (.alloc [.t (.str []),.t (.str []),.zV]),jO (.st 3 (.s 7) (.s 14))] [1,4,7,9,10,11]) c124_4
def c124_8:zW:=jS (jR [b 12 .lss 11 10] [1,4,9,10,11,12]) (jS (jC 12 .skip (.exit 0)) (jS (.block 1 c124_5) (jR [jB 20 .add 11 1,m 11 20] [1,4,9,10,11])))
def c124_11:zW:=jS (jS (jR [f 8 1 2,l 9 8,e 10 9,jI 11 0] [1,4,9,10,11]) (.block 0 (.loop c124_8))) c124_0
def c124:zW:=jS (jR [o 2 (.box 2 (.s 0)),o 4 (.alloc [.t (.str []),.t (.str []),.zV]),o 5 (.cst (.t (.bool false)))] [1,2,4]) c124_11
def r124:List WC:=[.cell 4 true 3,.tmp 5]
def n124:Nat:=22
def c125_2:zW:=jX [m 26 0,n 27 26,f 28 1 27,f 29 1 28,l 30 29,m 31 5,i 32 3 30 31,f 33 2 32,l 34 33,m 4 34] [4]
def c125_4:zW:=jS (jR [m 15 0,n 16 15,f 17 1 16,f 18 1 17,l 19 18,m 20 5,i 21 3 19 20,f 22 0 21,l 23 22,m 24 1,b 25 .eql 23 24] [0,1,5,11,12,25]) (jC 25 c125_2 .skip)
def c125_5:zW:=jS (jR [m 14 12,m 5 14] [0,1,5,11,12]) c125_4
def c125_8:zW:=jS (jR [b 13 .lss 12 11] [0,1,11,12,13]) (jS (jC 13 .skip (.exit 0)) (jS (.block 1 c125_5) (jR [jB 35 .add 12 1,m 12 35] [0,1,11,12])))
def c125_11:zW:=jS (jS (jR [m 6 0,n 7 6,f 8 1 7,f 9 1 8,l 10 9,e 11 10,jI 12 0] [0,1,11,12]) (.block 0 (.loop c125_8))) (jX [o 4 (.cst (.zV))] [4])
def c125:zW:=jS (jR [o 4 (.cst (.zV))] [0,1]) c125_11
def r125:List WC:=[.tmp 4]
def n125:Nat:=36
def c127_0:zW:=jS (jR [m 9 1,o 10 (.call 146 [(.s 9)]),u 11 10,m 12 11,gm 13 12 5,gB 14 12 .eql 13 1,gm 15 12 14,hm 16 15 5,hB 17 15 .eql 16 2,go 18 12 (.pick (.s 15) (.c (.t (.bool true))) (.s 17)),gm 19 12 18,hm 20 19 5,hB 21 19 .eql 20 3,go 22 12 (.pick (.s 19) (.c (.t (.bool true))) (.s 21)),p 23 12 22,m 4 23] [4]) .ret
def c127_1:zW:=jS (jR [jL 6 1 2,m 7 1,o 8 (.call 145 [(.s 6),(.s 7)]),m 5 8] [1,5]) c127_0
def c127:zW:=jS (jR [o 2 (.box 1 (.s 0)),o 4 (.cst (.t (.bool false)))] [1,2]) c127_1
def r127:List WC:=[.tmp 4]
def n127:Nat:=24
def c128_0:zW:=jS (jD [f 11 0 1,l 12 11,o 13 (.bsl true 1 [[.int .i64 0]] [(0,(.c (jN 1)))]),f 14 1 1,l 15 14,o 16 (.app 1 8 (.s 13) (.s 15)),o 17 (.build [.t (.str []),.zV] [(0,1,(.s 12)),(1,1,(.s 16))]),jO (.st 2 (.s 2) (.s 17))] [[],[0],[],[],[3],[2,4],[1,5],[6,5,0,1,2,3,4,5,6]] [2]) .ret
def c128_1:zW:=jS (jD [f 5 0 1,l 6 5,f 7 1 1,l 8 7,o 9 (.call 132 [(.s 8)]),o 10 (.build [.t (.str []),.zV] [(0,1,(.s 6)),(1,1,(.s 9))]),jO (.st 2 (.s 2) (.s 10))] [[],[0],[],[2],[3],[1,4],[5,4,0,1,2,3,4,5]] [2]) .ret
def c128_3:zW:=jS (jS (jR [jL 3 2 1,o 4 (.call 147 [(.s 3)])] [1,2,4]) (jC 4 c128_1 .skip)) c128_0
def c128:zW:=jS (jR [o 1 (.box 2 (.s 0)),o 2 (.alloc [.t (.str []),.zV])] [1,2]) c128_3
def r128:List WC:=[.cell 2 true 2]
def n128:Nat:=18
def c129_0:zW:=jX [m 3 0,o 4 (.build [.t (.str []),.zV] [(0,1,(.s 3))]),jO (.st 2 (.s 2) (.s 4))] [2]
def c129:zW:=jS (jR [o 2 (.alloc [.t (.str []),.zV])] [0,2]) c129_0
def r129:List WC:=[.cell 2 true 2]
def n129:Nat:=5
def c130_0:zW:=jX [o 21 (.build [jN 0,.t (.str []),.zV,.zV,.zV,.zV,.zV] []),jO (.st 7 (.s 4) (.s 21)),o 5 (.cst (.t (.bool false)))] [4,5]
def c130_2:zW:=jX [jL 19 7 7,jO (.st 7 (.s 4) (.s 19)),o 5 (.cst (.t (.bool true)))] [4,5]
def c130_4:zW:=jS (jR [f 15 1 7,l 16 15,m 17 1,b 18 .eql 16 17] [1,4,7,9,10,11,18]) (jC 18 c130_2 .skip)
def c130_5:zW:=jS (jR [i 13 7 9 11,jL 14 7 13,o 7 (.alloc [jN 0,.t (.str []),.zV,.zV,.zV,.zV,.zV]),jO (.st 7 (.s 7) (.s 14))] [1,4,7,9,10,11]) c130_4
def c130_8:zW:=jS (jR [b 12 .lss 11 10] [1,4,9,10,11,12]) (jS (jC 12 .skip (.exit 0)) (jS (.block 1 c130_5) (jR [jB 20 .add 11 1,m 11 20] [1,4,9,10,11])))
def c130_11:zW:=jS (jS (jR [f 8 0 2,l 9 8,e 10 9,jI 11 0] [1,4,9,10,11]) (.block 0 (.loop c130_8))) c130_0
def c130:zW:=jS (jR [o 2 (.box 1 (.s 0)),o 4 (.alloc [jN 0,.t (.str []),.zV,.zV,.zV,.zV,.zV]),o 5 (.cst (.t (.bool false)))] [1,2,4]) c130_11
def r130:List WC:=[.cell 4 true 7,.tmp 5]
def n130:Nat:=22
def c131_0:zW:=jX [o 21 (.build [.t (.str []),.zV,.t (.str []),.zV,.zV] []),jO (.st 5 (.s 4) (.s 21)),o 5 (.cst (.t (.bool false)))] [4,5]
def c131_2:zW:=jX [jL 19 5 7,jO (.st 5 (.s 4) (.s 19)),o 5 (.cst (.t (.bool true)))] [4,5]
def c131_4:zW:=jS (jR [f 15 0 7,l 16 15,m 17 1,b 18 .eql 16 17] [1,4,7,9,10,11,18]) (jC 18 c131_2 .skip)
def c131_5:zW:=jS (jR [i 13 5 9 11,jL 14 5 13,o 7 (.alloc [.t (.str []),.zV,.t (.str []),.zV,.zV]),jO (.st 5 (.s 7) (.s 14))] [1,4,7,9,10,11]) c131_4
def c131_8:zW:=jS (jR [b 12 .lss 11 10] [1,4,9,10,11,12]) (jS (jC 12 .skip (.exit 0)) (jS (.block 1 c131_5) (jR [jB 20 .add 11 1,m 11 20] [1,4,9,10,11])))
def c131_11:zW:=jS (jS (jR [f 8 4 2,l 9 8,e 10 9,jI 11 0] [1,4,9,10,11]) (.block 0 (.loop c131_8))) c131_0
def c131:zW:=jS (jR [o 2 (.box 7 (.s 0)),o 4 (.alloc [.t (.str []),.zV,.t (.str []),.zV,.zV]),o 5 (.cst (.t (.bool false)))] [1,2,4]) c131_11
def r131:List WC:=[.cell 4 true 5,.tmp 5]
def n131:Nat:=22
def c132_0:zW:=jX [o 5 (.bsl true 1 [] []),m 6 0,o 7 (.app 1 8 (.s 5) (.s 6)),m 2 7] [2]
def c132_3:zW:=jS (jS (jR [m 3 0,o 4 (.nw (.eqn false (.s 3)))] [0,4]) (jC 4 (jX [o 2 (.cst (.zV))] [2]) .skip)) c132_0
def c132:zW:=jS (jR [o 2 (.cst (.zV))] [0]) c132_3
def r132:List WC:=[.tmp 2]
def n132:Nat:=8
def c133_4:zW:=jS (jD [m 16 0,m 17 5,i 18 1 16 17,l 19 18,m 20 1,m 21 5,i 22 1 20 21,l 23 22,b 24 .neq 19 23] [[],[],[0,1],[2],[],[],[4,5],[6],[3,7]] [0,1,12,13,24]) (jC 24 (jX [o 4 (.cst (.t (.bool false)))] [4]) .skip)
def c133_5:zW:=jS (jR [m 15 13,m 5 15] [0,1,5,12,13]) c133_4
def c133_8:zW:=jS (jR [b 14 .lss 13 12] [0,1,12,13,14]) (jS (jC 14 .skip (.exit 0)) (jS (.block 1 c133_5) (jR [jB 25 .add 13 1,m 13 25] [0,1,12,13])))
def c133_11:zW:=jS (jS (jR [m 11 0,e 12 11,jI 13 0] [0,1,12,13]) (.block 0 (.loop c133_8))) (jX [o 4 (.cst (.t (.bool true)))] [4])
def c133_14:zW:=jS (jS (jR [m 6 0,e 7 6,m 8 1,e 9 8,b 10 .neq 7 9] [0,1,10]) (jC 10 (jX [o 4 (.cst (.t (.bool false)))] [4]) .skip)) c133_11
def c133:zW:=jS (jR [o 4 (.cst (.t (.bool false)))] [0,1]) c133_14
def r133:List WC:=[.tmp 4]
def n133:Nat:=26
def c134_0:zW:=jX [f 5 0 2,l 6 5,f 7 0 3,l 8 7,b 9 .eql 6 8,m 10 9,gf 11 10 1 2,gl 12 10 11,gf 13 10 1 3,gl 14 10 13,go 15 10 (.call 133 [(.s 12),(.s 14)]),p 16 10 15,m 4 16] [4]
def c134:zW:=jS (jR [o 2 (.box 2 (.s 0)),o 3 (.box 2 (.s 1)),o 4 (.cst (.t (.bool false)))] [2,3]) c134_0
def r134:List WC:=[.tmp 4]
def n134:Nat:=17
def c135_4:zW:=jS (jD [m 17 7,jB 18 .lss 17 0,m 19 18,hf 20 19 1 6,hL 21 19 5 20,hm 22 19 1,hm 23 19 7,hi 24 19 6 22 23,hf 25 19 1 24,hL 26 19 5 25,ho 27 19 (.call 150 [(.s 21),(.s 26)]),ho 28 19 (.un .not (.s 27)),q 29 19 28] [[],[0],[1],[2],[3,2],[2],[2],[5,6,2],[7,2],[8,2],[4,9,2,2],[10,2],[2,11]] [1,8,9,10,29]) (jC 29 (jX [o 4 (.cst (.t (.bool false)))] [4]) .skip)
def c135_5:zW:=jS (jR [m 14 1,o 15 (.zb4 149 [(.s 6)]),o 16 (.call 148 [(.s 14),(.s 15)]),m 7 16] [1,6,7,8,9,10]) c135_4
def c135_6:zW:=jS (jR [i 12 6 8 10,jL 13 6 12,o 6 (.alloc [.t (.str []),jN 0,jN 0,.t (.str []),.zV,.zV]),jO (.st 6 (.s 6) (.s 13))] [1,6,8,9,10]) c135_5
def c135_9:zW:=jS (jR [b 11 .lss 10 9] [1,8,9,10,11]) (jS (jC 11 .skip (.exit 0)) (jS (.block 1 c135_6) (jR [jB 30 .add 10 1,m 10 30] [1,8,9,10])))
def c135_12:zW:=jS (jS (jR [m 8 0,e 9 8,jI 10 0] [1,8,9,10]) (.block 0 (.loop c135_9))) (jX [o 4 (.cst (.t (.bool true)))] [4])
def c135:zW:=jS (jR [o 4 (.cst (.t (.bool false)))] [0,1]) c135_12
def r135:List WC:=[.tmp 4]
def n135:Nat:=31
def c136_1:zW:=jS (jR [f 9 1 2,l 10 9,jB 11 .eql 10 0,m 12 11,gf 13 12 2 2,gl 14 12 13,go 15 12 (.bin .eql (.s 14) (.c (.t (.str [])))),p 16 12 15,m 17 16,gf 18 17 3 2,gl 19 17 18,ge 20 17 19,gB 21 17 .eql 20 0,p 22 17 21,m 23 22,gf 24 23 4 2,gl 25 23 24,ge 26 23 25,gB 27 23 .eql 26 0,p 28 23 27,m 4 28] [4]) .ret
def c136_2:zW:=jS (jR [f 31 1 2,l 32 31,jB 33 .eql 32 0,m 34 33,hf 35 34 1 2,hl 36 34 35,hB 37 34 .eql 36 1,q 38 34 37,m 39 38,gf 40 39 2 2,gl 41 39 40,go 42 39 (.bin .eql (.s 41) (.c (.t (.str [])))),p 43 39 42,m 44 43,gf 45 44 3 2,gl 46 44 45,ge 47 44 46,gB 48 44 .eql 47 0,p 49 44 48,m 50 49,gf 51 50 4 2,gl 52 50 51,ge 53 50 52,gB 54 50 .eql 53 0,p 55 50 54,m 4 55] [4]) .ret
def c136_3:zW:=jS (jR [f 58 2 2,l 59 58,o 60 (.bin .eql (.s 59) (.c (.t (.str [])))),m 61 60,gf 62 61 3 2,gl 63 61 62,ge 64 61 63,gB 65 61 .eql 64 0,p 66 61 65,m 67 66,gf 68 67 4 2,gl 69 67 68,ge 70 67 69,gB 71 67 .eql 70 0,p 72 67 71,m 4 72] [4]) .ret
def c136_4:zW:=jX [f 75 1 2,l 76 75,jB 77 .eql 76 0,m 78 77,gf 79 78 3 2,gl 80 78 79,ge 81 78 80,gB 82 78 .eql 81 0,p 83 78 82,m 84 83,gf 85 84 4 2,gl 86 84 85,ge 87 84 86,gB 88 84 .eql 87 0,p 89 84 88,m 4 89] [4]
def c136_5:zW:=jS (jR [f 92 1 2,l 93 92,jB 94 .eql 93 0,m 95 94,gf 96 95 3 2,gl 97 95 96,ge 98 95 97,gB 99 95 .eql 98 0,p 100 95 99,m 101 100,gf 102 101 4 2,gl 103 101 102,ge 104 101 103,gB 105 101 .eql 104 0,p 106 101 105,m 107 106,gf 108 107 2 2,gl 109 107 108,go 110 107 (.call 45 [(.s 109)]),p 111 107 110,m 112 111,gf 113 112 2 2,gl 114 112 113,go 115 112 (.bin .neq (.s 114) (.c (.t (.str [116,114,117,101])))),p 116 112 115,m 117 116,gf 118 117 2 2,gl 119 117 118,go 120 117 (.bin .neq (.s 119) (.c (.t (.str [102,97,108,115,101])))),p 121 117 120,m 122 121,gf 123 122 2 2,gl 124 122 123,go 125 122 (.bin .neq (.s 124) (.c (.t (.str [110,117,108,108])))),p 126 122 125,m 4 126] [4]) .ret
def c136_6:zW:=jS (jR [f 129 1 2,l 130 129,jB 131 .eql 130 0,m 132 131,gf 133 132 2 2,gl 134 132 133,go 135 132 (.bin .eql (.s 134) (.c (.t (.str [])))),p 136 132 135,m 137 136,gf 138 137 4 2,gl 139 137 138,ge 140 137 139,gB 141 137 .eql 140 0,p 142 137 141,m 4 142] [4]) .ret
def c136_7:zW:=jS (jR [f 145 1 2,l 146 145,jB 147 .eql 146 0,m 148 147,gf 149 148 2 2,gl 150 148 149,go 151 148 (.bin .eql (.s 150) (.c (.t (.str [])))),p 152 148 151,m 153 152,gf 154 153 4 2,gl 155 153 154,ge 156 153 155,gf 157 153 3 2,gl 158 153 157,ge 159 153 158,gb 160 153 .eql 156 159,p 161 153 160,m 162 161,gf 163 162 4 2,gl 164 162 163,go 165 162 (.call 151 [(.s 164)]),go 166 162 (.un .not (.s 165)),p 167 162 166,m 4 167] [4]) .ret
def c136_8:zW:=jX [m 170 1,m 171 170,gf 172 171 1 2,gl 173 171 172,gB 174 171 .eql 173 0,p 175 171 174,m 176 175,gf 177 176 3 2,gl 178 176 177,ge 179 176 178,gB 180 176 .eql 179 0,p 181 176 180,m 182 181,gf 183 182 4 2,gl 184 182 183,ge 185 182 184,gB 186 182 .eql 185 0,p 187 182 186,m 188 187,gf 189 188 2 2,gl 190 188 189,go 191 188 (.call 45 [(.s 190)]),p 192 188 191,m 4 192] [4]
def c136_10:zW:=jS (jR [jB 169 .eql 6 7,m 168 169] [1,2,168]) (jC 168 c136_8 .skip)
def c136_12:zW:=jS (jR [jB 144 .eql 6 6,m 143 144] [1,2,6,143]) (jC 143 c136_7 c136_10)
def c136_14:zW:=jS (jR [jB 128 .eql 6 5,m 127 128] [1,2,6,127]) (jC 127 c136_6 c136_12)
def c136_16:zW:=jS (jR [jB 91 .eql 6 4,m 90 91] [1,2,6,90]) (jC 90 c136_5 c136_14)
def c136_18:zW:=jS (jR [jB 74 .eql 6 3,m 73 74] [1,2,6,73]) (jC 73 c136_4 c136_16)
def c136_20:zW:=jS (jR [jB 57 .eql 6 2,m 56 57] [1,2,6,56]) (jC 56 c136_3 c136_18)
def c136_22:zW:=jS (jR [jB 30 .eql 6 1,m 29 30] [1,2,6,29]) (jC 29 c136_2 c136_20)
def c136_24:zW:=jS (jR [jB 8 .eql 6 0,m 7 8] [1,2,6,7]) (jC 7 c136_1 c136_22)
def c136_26:zW:=jS (jS (jR [f 5 0 2,l 6 5] [1,2,6]) (.block 0 c136_24)) (jX [o 4 (.cst (.t (.bool false)))] [4])
def c136:zW:=jS (jR [o 2 (.box 5 (.s 0)),o 4 (.cst (.t (.bool false)))] [1,2]) c136_26
def r136:List WC:=[.tmp 4]
def n136:Nat:=193
def c137_0:zW:=jS (jR [m 3 0,o 4 (.lens (.s 3)),jB 5 .geq 4 2,m 6 5,gm 7 6 0,go 8 6 (.ixs (.s 7) (.c (jN 0))),go 9 6 (.bin .eql (.s 8) (.c (.t (.int .u8 95)))),p 10 6 9,m 11 10,gm 12 11 0,go 13 11 (.ixs (.s 12) (.c (jN 1))),go 14 11 (.bin .eql (.s 13) (.c (.t (.int .u8 95)))),p 15 11 14,m 2 15] [2]) .ret
def c137:zW:=jS (jR [o 2 (.cst (.t (.bool false)))] [0]) c137_0
def r137:List WC:=[.tmp 2]
def n137:Nat:=16
def c138_0:zW:=jX [f 3 1 1,l 4 3,e 5 4,jB 6 .eql 5 1,m 7 6,gf 8 7 1 1,gl 9 7 8,go 10 7 (.ia 1 (.s 9) (.c (jN 0))),gl 11 7 10,gB 12 7 .eql 11 1,p 13 7 12,m 2 13] [2]
def c138:zW:=jS (jR [o 1 (.box 2 (.s 0)),o 2 (.cst (.t (.bool false)))] [1]) c138_0
def r138:List WC:=[.tmp 2]
def n138:Nat:=14
def c139_0:zW:=jS (jD [f 7 0 1,l 8 7,o 9 (.bsl true 1 [] []),f 10 1 1,l 11 10,o 12 (.app 1 8 (.s 9) (.s 11)),o 13 (.build [.t (.str []),.zV] [(0,1,(.s 8)),(1,1,(.s 12))]),jO (.st 2 (.s 2) (.s 13))] [[],[0],[],[],[3],[2,4],[1,5],[6,5,0,1,2,3,4,5,6]] [2]) .ret
def c139_1:zW:=jX [jL 5 2 1,o 6 (.call 152 [(.s 5)]),jO (.st 2 (.s 2) (.s 6))] [2]
def c139_3:zW:=jS (jS (jR [jL 3 2 1,o 4 (.call 70 [(.s 3)])] [1,2,4]) (jC 4 c139_1 .skip)) c139_0
def c139:zW:=jS (jR [o 1 (.box 2 (.s 0)),o 2 (.alloc [.t (.str []),.zV])] [1,2]) c139_3
def r139:List WC:=[.cell 2 true 2]
def n139:Nat:=14
def c140_0:zW:=jX [jL 8 2 1,o 9 (.call 139 [(.s 8)]),o 10 (.call 152 [(.s 9)]),jO (.st 2 (.s 2) (.s 10)),o 3 (.cst (.t (.bool true)))] [2,3]
def c140_1:zW:=jX [o 7 (.build [.t (.str []),.zV] []),jO (.st 2 (.s 2) (.s 7)),o 3 (.cst (.t (.bool false)))] [2,3]
def c140_3:zW:=jS (jS (jR [jL 4 2 1,o 5 (.call 153 [(.s 4)]),u 6 5] [1,2,6]) (jC 6 c140_1 .skip)) c140_0
def c140:zW:=jS (jR [o 1 (.box 2 (.s 0)),o 2 (.alloc [.t (.str []),.zV]),o 3 (.cst (.t (.bool false)))] [1,2]) c140_3
def r140:List WC:=[.cell 2 true 2,.tmp 3]
def n140:Nat:=11
def c141_0:zW:=jX [jL 7 1 3,m 8 2,o 9 (.call 143 [(.s 7),(.s 8)]),m 10 1,o 11 (.call 92 [(.s 9),(.s 10)]),m 6 11] [6]
def c141:zW:=jS (jR [o 3 (.box 1 (.s 0)),o 6 (.cst (.t (.bool false)))] [1,2,3]) c141_0
def r141:List WC:=[.tmp 6]
def n141:Nat:=12
def c142_4:zW:=jS (jD [m 17 0,m 18 5,i 19 1 17 18,l 20 19,m 21 1,m 22 5,i 23 1 21 22,l 24 23,b 25 .neq 20 24] [[],[],[0,1],[2],[],[],[4,5],[6],[3,7]] [0,1,5,25]) (jC 25 (jX [o 4 (.cst (.t (.bool false)))] [4]) .skip)
def c142_7:zW:=jS (jS (jR [m 11 5,m 12 0,e 13 12,b 14 .lss 11 13] [0,1,5,14]) (jC 14 .skip (.exit 0))) (jS (.block 1 c142_4) (jR [m 15 5,jB 16 .add 15 1,m 5 16] [0,1,5]))
def c142_13:zW:=jS (jS (jR [m 6 0,e 7 6,m 8 1,e 9 8,b 10 .neq 7 9] [0,1,10]) (jC 10 (jX [o 4 (.cst (.t (.bool false)))] [4]) .skip)) (jS (jS (jR [jI 5 0] [0,1,5]) (.block 0 (.loop c142_7))) (jX [o 4 (.cst (.t (.bool true)))] [4]))
def c142:zW:=jS (jR [o 4 (.cst (.t (.bool false)))] [0,1]) c142_13
def r142:List WC:=[.tmp 4]
def n142:Nat:=26
def c143_1:zW:=jR [m 25 8,jB 26 .add 25 1,m 8 26] [1,2,5,6,7,8]
def c143_2:zW:=jR [m 75 5,f 76 1 9,l 77 76,o 78 (.bsl false 1 [[.str []]] [(0,(.s 77))]),o 79 (.app 1 16 (.s 75) (.s 78)),m 5 79] [1,2,5,6,7,8]
def c143_5:zW:=jS (jR [m 62 10,m 63 62,hf 64 63 0 6,hl 65 63 64,hB 66 63 .eql 65 3,hm 67 63 66,gL 68 67 7 6,gf 69 67 1 9,gl 70 67 69,go 71 67 (.call 94 [(.s 68),(.s 70)]),ho 72 63 (.pick (.s 67) (.s 71) (.c (.t (.bool false)))),q 73 63 72,m 10 73] [1,2,5,6,7,8,9,10]) (jS (jR [m 74 10] [1,2,5,6,7,8,9,74]) (jC 74 c143_2 .skip))
def c143_6:zW:=jS (jR [m 50 10,m 51 50,hf 52 51 0 6,hl 53 51 52,hB 54 51 .eql 53 2,hm 55 51 54,gf 56 55 2 9,gl 57 55 56,gm 58 55 1,go 59 55 (.call 92 [(.s 57),(.s 58)]),ho 60 51 (.pick (.s 55) (.s 59) (.c (.t (.bool false)))),q 61 51 60,m 10 61] [1,2,5,6,7,8,9,10]) c143_5
def c143_7:zW:=jS (jR [f 41 0 6,l 42 41,jB 43 .eql 42 1,m 44 43,gf 45 44 1 9,gl 46 44 45,gm 47 44 1,gb 48 44 .eql 46 47,p 49 44 48,m 10 49] [1,2,5,6,7,8,9,10]) c143_6
def c143_9:zW:=jS (jS (jR [f 32 0 9,l 33 32,jB 34 .neq 33 1,m 35 34,hL 36 35 1 2,hm 37 35 8,ho 38 35 (.call 154 [(.s 36),(.s 37)]),ho 39 35 (.un .not (.s 38)),q 40 35 39] [1,2,5,6,7,8,9,40]) (jC 40 (.exit 1) .skip)) c143_7
def c143_10:zW:=jS (jR [f 27 0 2,l 28 27,m 29 8,i 30 7 28 29,jL 31 7 30,o 9 (.alloc [jN 0,.t (.str []),.zV,.zV,.zV,.zV,.zV]),jO (.st 7 (.s 9) (.s 31))] [1,2,5,6,7,8,9]) c143_9
def c143_13:zW:=jS (jS (jR [m 17 8,f 18 0 2,l 19 18,e 20 19,b 21 .lss 17 20,m 22 21,gm 23 22 7,p 24 22 23] [1,2,5,6,7,8,24]) (jC 24 .skip (.exit 0))) (jS (.block 1 c143_10) c143_1)
def c143_16:zW:=jS (jS (jR [jI 8 0] [1,2,5,6,7,8]) (.block 0 (.loop c143_13))) (jX [m 80 5,m 4 80] [4])
def c143_17:zW:=jS (jR [jL 12 1 2,m 13 1,o 14 (.call 37 [(.s 12),(.s 13)]),m 11 14,x 15 11 0,x 16 11 1,o 6 (.alloc [jN 0,.t (.str []),.zV,.zV,.zV,.zV,.zV]),jO (.st 7 (.s 6) (.s 15)),m 7 16] [1,2,5,6,7]) c143_16
def c143_18:zW:=jS (jR [o 5 (.cst (.zV))] [1,2,5]) c143_17
def c143:zW:=jS (jR [o 2 (.box 1 (.s 0)),o 4 (.cst (.zV))] [1,2]) c143_18
def r143:List WC:=[.tmp 4]
def n143:Nat:=81
def c145_1:zW:=jS (jR [jL 8 1 2,m 9 1,o 10 (.call 130 [(.s 8),(.s 9)]),m 7 10,x 11 7 0,x 12 7 1,o 5 (.alloc [jN 0,.t (.str []),.zV,.zV,.zV,.zV,.zV]),jO (.st 7 (.s 5) (.s 11)),m 6 12] [5]) (jX [f 13 0 5,l 14 13,m 4 14] [4])
def c145:zW:=jS (jR [o 2 (.box 1 (.s 0)),jI 4 0] [1,2]) c145_1
def r145:List WC:=[.tmp 4]
def n145:Nat:=15
def c146_0:zW:=jS (jR [m 3 0,o 4 (.bin .eql (.s 3) (.c (.t (.str [73,110,116])))),m 5 4,hm 6 5 0,ho 7 5 (.bin .eql (.s 6) (.c (.t (.str [83,116,114,105,110,103])))),q 8 5 7,m 9 8,hm 10 9 0,ho 11 9 (.bin .eql (.s 10) (.c (.t (.str [66,111,111,108,101,97,110])))),q 12 9 11,m 13 12,hm 14 13 0,ho 15 13 (.bin .eql (.s 14) (.c (.t (.str [73,68])))),q 16 13 15,m 2 16] [2]) .ret
def c146:zW:=jS (jR [o 2 (.cst (.t (.bool false)))] [0]) c146_0
def r146:List WC:=[.tmp 2]
def n146:Nat:=17
def c147_0:zW:=jX [f 3 1 1,l 4 3,e 5 4,jB 6 .gtr 5 0,m 7 6,gf 8 7 1 1,gl 9 7 8,go 10 7 (.ia 1 (.s 9) (.c (jN 0))),gl 11 7 10,gB 12 7 .eql 11 1,p 13 7 12,m 2 13] [2]
def c147:zW:=jS (jR [o 1 (.box 2 (.s 0)),o 2 (.cst (.t (.bool false)))] [1]) c147_0
def r147:List WC:=[.tmp 2]
def n147:Nat:=14
def c151_5:zW:=jS (jD [m 16 0,m 17 3,i 18 1 16 17,l 19 18,m 20 0,m 21 4,i 22 1 20 21,l 23 22,b 24 .eql 19 23] [[],[],[0,1],[2],[],[],[4,5],[6],[3,7]] [0,3,4,24]) (jC 24 (jX [o 2 (.cst (.t (.bool true)))] [2]) .skip)
def c151_8:zW:=jS (jS (jR [m 11 4,m 12 3,b 13 .lss 11 12] [0,3,4,13]) (jC 13 .skip (.exit 2))) (jS (.block 3 c151_5) (jR [m 14 4,jB 15 .add 14 1,m 4 15] [0,3,4]))
def c151_14:zW:=jS (jS (jR [m 5 3,m 6 0,e 7 6,b 8 .lss 5 7] [0,3,8]) (jC 8 .skip (.exit 0))) (jS (.block 1 (jS (jR [jI 4 0] [0,3,4]) (.block 2 (.loop c151_8)))) (jR [m 9 3,jB 10 .add 9 1,m 3 10] [0,3]))
def c151:zW:=jS (jR [o 2 (.cst (.t (.bool false)))] [0]) (jS (jS (jR [jI 3 0] [0,3]) (.block 0 (.loop c151_14))) (jX [o 2 (.cst (.t (.bool false)))] [2]))
def r151:List WC:=[.tmp 2]
def n151:Nat:=25
def c152_0:zW:=jS (jD [f 3 0 1,l 4 3,o 5 (.bsl true 1 [] []),f 6 1 1,l 7 6,o 8 (.sll 1 (.s 7) (some (.c (jN 1))) none),o 9 (.app 1 8 (.s 5) (.s 8)),o 10 (.build [.t (.str []),.zV] [(0,1,(.s 4)),(1,1,(.s 9))]),jO (.st 2 (.s 2) (.s 10))] [[],[0],[],[],[3],[4],[2,5],[1,6],[7,6,0,1,2,3,4,5,6,7]] [2]) .ret
def c152:zW:=jS (jR [o 1 (.box 2 (.s 0)),o 2 (.alloc [.t (.str []),.zV])] [1,2]) c152_0
def r152:List WC:=[.cell 2 true 2]
def n152:Nat:=11
def c153_0:zW:=jX [f 6 1 3,l 7 6,e 8 7,jB 9 .gtr 8 0,m 10 9,gf 11 10 1 3,gl 12 10 11,go 13 10 (.ia 1 (.s 12) (.c (jN 0))),gl 14 10 13,gB 15 10 .eql 14 2,p 16 10 15,m 2 16] [2]
def c153_1:zW:=jS (jR [jL 4 2 1,o 5 (.call 139 [(.s 4)]),o 3 (.alloc [.t (.str []),.zV]),jO (.st 2 (.s 3) (.s 5))] [3]) c153_0
def c153:zW:=jS (jR [o 1 (.box 2 (.s 0)),o 2 (.cst (.t (.bool false)))] [1]) c153_1
def r153:List WC:=[.tmp 2]
def n153:Nat:=17
def c154_4:zW:=jS (jD [f 11 0 2,l 12 11,m 13 5,i 14 7 12 13,f 15 1 14,l 16 15,f 17 0 2,l 18 17,m 19 1,i 20 7 18 19,f 21 1 20,l 22 21,b 23 .eql 16 22] [[],[0],[],[1,2],[3],[4],[],[6],[],[7,8],[9],[10],[5,11]] [1,2,5,23]) (jC 23 (jX [o 4 (.cst (.t (.bool false)))] [4]) .skip)
def c154_7:zW:=jS (jS (jR [m 6 5,m 7 1,b 8 .lss 6 7] [1,2,5,8]) (jC 8 .skip (.exit 0))) (jS (.block 1 c154_4) (jR [m 9 5,jB 10 .add 9 1,m 5 10] [1,2,5]))
def c154:zW:=jS (jR [o 2 (.box 1 (.s 0)),o 4 (.cst (.t (.bool false)))] [1,2]) (jS (jS (jR [jI 5 0] [1,2,5]) (.block 0 (.loop c154_7))) (jX [o 4 (.cst (.t (.bool true)))] [4]))
def r154:List WC:=[.tmp 4]
def n154:Nat:=24
end Go.GB
namespace Go.GB
section
variable {P:Program}
def L.zM (Λ:L) (m m':Nat) (Λ':L):L where
 lab:=fun b=>if Λ.high m b then Λ.lab b else Λ'.lab b
 fro:=fun k=>if k<m' then Λ'.fro k else Λ.fro k
 nxt:=Λ.nxt
 w:=Λ'.w
 frf:=fun k i=>if k<m' then Λ'.frf k i else Λ.frf k i
theorem z9.same {f:FuncId} {vs:List V} {m:Nat} {sto:List (Nat×z3)} {out:Out} (h:z9 P f vs ⟨sto,m⟩ out) (hrd:out.rd=true) (hb:V.bds m vs=true) (hs:zG m sto=true) (hob:∀k o,(k,o)∈out.ob->zi sto k≠none∨(m<=k/\k<m+out.n)):YK P f vs m sto out:=by
 refine ⟨h.1,hob,fun Λ args hr hle hfree hsz hargs=>?_⟩;refine (h.2 (Λ.zr m) args (hr.hf hs) Z hsz fun j v y h1 h2=>(hargs j v y h1 h2).hf (V.Zw hb j y h2)).mono fun e w' he=>?_;obtain ⟨v,Λ',rfl,rfl,k1,k2,k3,k4⟩:=he;simp only at k2 k3
 have hlt:∀{b:Nat},Λ.high m b=true->b<Λ.w.heap.size:=by
  intro b hh
  rcases Nat.lt_or_ge b Λ.w.heap.size with h|h
  ·exact h
  ·unfold L.high at hh;rw [hr.new b h] at hh;simp at hh
 have hH:∀{b:Nat},Λ.high m b=true->(Λ.zM m (m+out.n) Λ').lab b=Λ.lab b:=fun h=>by simp [L.zM,h]
 have hL:∀{b:Nat},Λ.high m b=false->(Λ.zM m (m+out.n) Λ').lab b=Λ'.lab b:=fun h=>by simp [L.zM,h]
 have hheap:∀{b:Nat},Λ.high m b=true->∃fr,Λ'.lab b= .fix (some fr)/\Λ'.w.heap[b]?=Λ.w.heap[b]?/\((∃k,Λ.lab b= .obj k/\m<=k/\fr=0)∨(∃k,Λ.lab b= .arr k fr/\m<=k)∨(∃k i,Λ.lab b= .fob k i/\m<=k/\fr=0)∨∃k i,Λ.lab b= .far k i fr/\m<=k):=by
  intro b hh;obtain ⟨fr,e1,e2⟩:=z7k hh;obtain ⟨g1,g2⟩:=k1.fr.fix b (hlt hh) _ e1;exact ⟨fr,g1,g2,e2⟩
 have hlow:∀{b k:Nat},k<m->(Λ.lab b= .obj k∨∃n,Λ.lab b= .arr k n)->Λ.high m b=false:=by
  intro b k hk hb;unfold L.high
  rcases hb with hb|⟨n,hb⟩<;>rw [hb]<;>simp<;>omega
 have hkp:Kp Λ (Λ.zM m (m+out.n) Λ'):=by
  refine ⟨⟨k1.fr.os,k1.fr.tape,k1.fr.output,k1.fr.size,fun b hb fr hl=>?_,fun b hb k fr hl o ho=>?_,fun b hb k i fr hl o ho=>?_⟩,Nat.le_refl _,fun b k _ hl=>?_,fun b k n _ hb hl hf=>?_,fun k hk=>?_,fun b k i _ hl=>?_,fun b k i n _ hb hl hf=>?_,fun k i hk=>?_,fun b k i hk hp hf hl=>?_⟩
  ·have hh:Λ.high m b=false:=by unfold L.high;rw [hl]
   obtain ⟨g1,g2⟩:=k1.fr.fix b hb fr (by rw [z3w hh];exact hl)
   exact ⟨by rw [hL hh];exact g1,g2⟩
  ·cases hh:Λ.high m b with
   |true=>
    obtain ⟨fr',g1,g2,g3⟩:=hheap hh
    exact ⟨by unfold Rd;rw [hH hh,hl];exact ho,cell?_heap g2⟩
   |false=>
    obtain ⟨g1,g2⟩:=k1.fr.arr b hb k fr (by rw [z3w hh];exact hl) o ho
    exact ⟨by unfold Rd;rw [hL hh];exact g1,g2⟩
  ·cases hh:Λ.high m b with
   |true=>
    obtain ⟨fr',g1,g2,g3⟩:=hheap hh
    exact ⟨by unfold Rd;rw [hH hh,hl];exact ho,cell?_heap g2⟩
   |false=>
    obtain ⟨g1,g2⟩:=k1.fr.far b hb k i fr (by rw [z3w hh];exact hl) o ho
    exact ⟨by unfold Rd;rw [hL hh];exact g1,g2⟩
  ·cases hh:Λ.high m b with
   |true=>rw [hH hh];exact hl
   |false=>
    have hk:k<m:=by unfold L.high at hh;rw [hl] at hh;simpa using hh
    rw [hL hh];exact k1.obj b k hk (wJ hl hk)
  ·cases hh:Λ.high m b with
   |true=>
    obtain ⟨fr',g1,g2,g3⟩:=hheap hh
    exact ⟨by rw [hH hh];exact hl,g2⟩
   |false=>
    have hk:k<m:=by unfold L.high at hh;rw [hl] at hh;simpa using hh
    have e1:(Λ.zr m).fro k=Λ.fro k:=by simp [L.zr,hk]
    have e2:(Λ.zM m (m+out.n) Λ').fro k=Λ'.fro k:=by simp [L.zM];omega
    obtain ⟨g1,g2⟩:=k1.own b k n hk hb (zaB hl hk) (by rw [←e2,hf,e1])
    exact ⟨by rw [hL hh];exact g1,g2⟩
  ·simp only [L.zM];by_cases h1:k<m
   ·have:=k1.fro k h1
    have e1:(Λ.zr m).fro k=Λ.fro k:=by simp [L.zr,h1]
    rw [if_pos (by omega)];omega
   ·by_cases h2:k<m+out.n
    ·rw [if_pos h2,(hfree k (by omega) h2).2.1.fro];omega
    ·rw [if_neg h2];exact Nat.le_refl _
  ·cases hh:Λ.high m b with
   |true=>
    obtain ⟨fr',g1,g2,g3⟩:=hheap hh
    exact ⟨by rw [hH hh];exact hl,fun N hN=>by unfold Zk at hN⊢;show (match Λ'.w.heap[b]? with|some (.cells arr _ _)=>some arr.size|_=>none)=_;rw [g2];exact hN⟩
   |false=>
    have hk:k<m:=by unfold L.high at hh;rw [hl] at hh;simpa using hh
    obtain ⟨g1,g2⟩:=k1.fob b k i hk (qQ hl hk)
    exact ⟨by rw [hL hh];exact g1,g2⟩
  ·cases hh:Λ.high m b with
   |true=>
    obtain ⟨fr',g1,g2,g3⟩:=hheap hh
    exact ⟨by rw [hH hh];exact hl,g2⟩
   |false=>
    have hk:k<m:=by unfold L.high at hh;rw [hl] at hh;simpa using hh
    have e1:(Λ.zr m).frf k i=Λ.frf k i:=by simp [L.zr,hk]
    have e2:(Λ.zM m (m+out.n) Λ').frf k i=Λ'.frf k i:=by simp [L.zM];omega
    obtain ⟨g1,g2⟩:=k1.far b k i n hk hb (zaR hl hk) (by rw [←e2,hf,e1])
    exact ⟨by rw [hL hh];exact g1,g2⟩
  ·simp only [L.zM];by_cases h1:k<m
   ·have:=k1.frf k i h1
    have e1:(Λ.zr m).frf k i=Λ.frf k i:=by simp [L.zr,h1]
    rw [if_pos (by omega)];omega
   ·by_cases h2:k<m+out.n
    ·rw [if_pos h2,(hfree k (by omega) h2).2.1.frf];omega
    ·rw [if_neg h2];exact Nat.le_refl _
  ·cases hh:Λ.high m b with
   |true=>rw [hH hh] at hl;exact hl
   |false=>
    rw [hL hh] at hl;have hkb:=k3.YM b k (.inl ⟨i,hl⟩)
    rcases Nat.lt_or_ge k m with hkm|hkm
    ·have e1:(Λ.zr m).frf k 0=Λ.frf k 0:=by simp [L.zr,hkm]
     have e2:(Λ.zM m (m+out.n) Λ').frf k 0=Λ'.frf k 0:=by simp [L.zM];omega
     exact (ya (k1.z41 b k i hkm (by rw [e1];exact hp) (by rw [←e2,hf,e1]) hl)).1
    ·have:=(hfree k hkm (by omega)).2.1.frf 0;omega
 have hobj:∀{b k:Nat},Λ'.lab b= .obj k->(Λ.zM m (m+out.n) Λ').lab b= .obj k:=by
  intro b k hb
  cases hh:Λ.high m b with
  |true=>obtain ⟨fr,g1,_⟩:=hheap hh;rw [g1] at hb;simp at hb
  |false=>rw [hL hh];exact hb
 have harr:∀{b k n:Nat},Λ'.lab b= .arr k n->(Λ.zM m (m+out.n) Λ').lab b= .arr k n:=by
  intro b k n hb
  cases hh:Λ.high m b with
  |true=>obtain ⟨fr,g1,_⟩:=hheap hh;rw [g1] at hb;simp at hb
  |false=>rw [hL hh];exact hb
 have hfob:∀{b k i:Nat},Λ'.lab b= .fob k i->(Λ.zM m (m+out.n) Λ').lab b= .fob k i:=by
  intro b k i hb
  cases hh:Λ.high m b with
  |true=>obtain ⟨fr,g1,_⟩:=hheap hh;rw [g1] at hb;simp at hb
  |false=>rw [hL hh];exact hb
 have hfar:∀{b k i n:Nat},Λ'.lab b= .far k i n->(Λ.zM m (m+out.n) Λ').lab b= .far k i n:=by
  intro b k i n hb
  cases hh:Λ.high m b with
  |true=>obtain ⟨fr,g1,_⟩:=hheap hh;rw [g1] at hb;simp at hb
  |false=>rw [hL hh];exact hb
 have hrep:∀{u:Value} {y:T},zO Λ'.lab Λ'.w u y->zO (Λ.zM m (m+out.n) Λ').lab (Λ.zM m (m+out.n) Λ').w u y:=by
  intro u y hy;refine hy.yq fun b o _ _ hrd=>⟨?_,rfl⟩
  cases hh:Λ.high m b with
  |true=>
   obtain ⟨fr,g1,_,g3⟩:=hheap hh;unfold Rd at hrd⊢;rw [g1] at hrd;rw [hH hh]
   rcases g3 with ⟨k,e,_,rfl⟩|⟨k,e,_⟩|⟨k,i,e,_,rfl⟩|⟨k,i,e,_⟩
   ·omega
   ·rw [e];exact hrd
   ·omega
   ·rw [e];exact hrd
  |false=>unfold Rd;rw [hL hh];exact hrd
 have hfobI:∀{b k i:Nat},k<m+out.n->(Λ.zM m (m+out.n) Λ').lab b= .fob k i->Λ'.lab b= .fob k i:=by
  intro b k i hk hb
  cases hh:Λ.high m b with
  |true=>
   rw [hH hh] at hb
   have hge:m<=k:=by unfold L.high at hh;rw [hb] at hh;simpa using hh
   exact absurd hb ((hfree k hge hk).2.1.fob b i)
  |false=>rw [hL hh] at hb;exact hb
 have hcur:∀{b k:Nat},k<m+out.n->WB Λ'.lab k b->WB (Λ.zM m (m+out.n) Λ').lab k b:=by
  rintro b k hk ⟨i,e1,e2⟩;exact ⟨i,hfob e1,fun b' i' h'=>e2 b' i' (hfobI hk h')⟩
 have hfrf:∀{k i:Nat},k<Λ'.nxt->(Λ.zM m (m+out.n) Λ').frf k i=Λ'.frf k i:=by
  intro k i hk;rw [k2] at hk;simp [L.zM,hk]
 have hfro:∀{k:Nat},k<Λ'.nxt->(Λ.zM m (m+out.n) Λ').fro k=Λ'.fro k:=by
  intro k hk;rw [k2] at hk;simp [L.zM,hk]
 have hval:∀{u:Value} {y:V},zn Λ' u y->zn (Λ.zM m (m+out.n) Λ') u y:=by
  intro u y hy
  induction hy with
  |t h=>exact .t (hrep h)
  |zV=>exact .zV
  |@own v k sz xs h hsz hl hn ho=>
   refine .own (hrep h) hsz (by show k<Λ.nxt;omega) (by rw [hfro hl];exact hn) fun he=>?_
   rcases ho (by rw [←hfro hl];exact he) with ho|⟨b,cap,arr,e,hv,hb',hh,hc,hn'⟩
   ·exact .inl ho
   ·exact .inr ⟨b,cap,arr,e,hv,harr hb',hh,hc,hn'⟩
  |slc hl hc h=>exact .slc (by show _<Λ.nxt;omega) hc (hobj h)
  |agg hs _ ih=>exact .agg hs ih
  |tup hs _ ih=>exact .tup hs ih
  |ptr hl h=>exact .ptr (by show _<Λ.nxt;omega) (hobj h)
  |mp hl h=>exact .mp (by show _<Λ.nxt;omega) (hobj h)
  |fn hs h=>exact .fn hs fun j v c h1 h2=>let ⟨b,e1,e2,e3⟩:=h j v c h1 h2;⟨b,e1,hobj e2,by show _<Λ.nxt;omega⟩
  |gd _ h' ih=>exact .gd ih h'
  |top=>exact .top
  |ub h h'=>exact .ub h h'
  |ui=>exact .ui
  |fpt hl h=>exact .fpt (by show _<Λ.nxt;omega) (hfob h)
  |gpt hv hl hn h=>
   refine .gpt hv (by show _<Λ.nxt;omega) (by rw [hfrf hl];exact hn) fun he=>?_;obtain ⟨b,e1,e2⟩:=h (by rw [←hfrf hl];exact he);exact ⟨b,e1,hcur (by omega) e2⟩
  |gsl hv hl hn h=>
   refine .gsl hv (by show _<Λ.nxt;omega) (by rw [hfrf hl];exact hn) fun he=>?_
   rcases h (by rw [←hfrf hl];exact he) with h|⟨b,cap,N,hv,hc,e2,hN,he'⟩
   ·exact .inl h
   ·exact .inr ⟨b,cap,N,hv,hc,hcur (by omega) e2,hN,he'⟩
  |fow h hsz hl hn ho=>
   refine .fow (hrep h) hsz (by show _<Λ.nxt;omega) (by rw [hfrf hl];exact hn) fun he=>?_
   rcases ho (by rw [←hfrf hl];exact he) with ho|⟨b,cap,arr,e,hv,hb',hh,hc,hn'⟩
   ·exact .inl ho
   ·exact .inr ⟨b,cap,arr,e,hv,hfar hb',hh,hc,hn'⟩
 have hname:∀{b k:Nat},Λ.high m b=true->((Λ.zM m (m+out.n) Λ').lab b= .obj k∨∃n,(Λ.zM m (m+out.n) Λ').lab b= .arr k n)->m+out.n<=k/\(Λ.lab b= .obj k∨∃n,Λ.lab b= .arr k n):=by
  intro b k hh hb;rw [hH hh] at hb;refine ⟨?_,hb⟩
  have hge:m<=k:=by unfold L.high at hh;rcases hb with hb|⟨n,hb⟩<;>rw [hb] at hh<;>simpa using hh
  rcases Nat.lt_or_ge k (m+out.n) with h|h
  ·have:=(hfree k hge h).2.1
   rcases hb with hb|⟨n,hb⟩
   ·exact absurd hb (this.obj b)
   ·exact absurd hb (this.arr b n)
  ·exact h
 have hlowname:∀{b k:Nat},Λ.high m b=false->((Λ.zM m (m+out.n) Λ').lab b= .obj k∨∃n,(Λ.zM m (m+out.n) Λ').lab b= .arr k n)->k<m+out.n/\(Λ'.lab b= .obj k∨∃n,Λ'.lab b= .arr k n):=by
  intro b k hh hb;rw [hL hh] at hb;have:=k3.bnd b k hb
  exact ⟨by omega,hb⟩
 refine ⟨v,Λ.zM m (m+out.n) Λ',rfl,rfl,hkp,rfl,?_,hval k4,fun k hk hn hcase=>?_⟩
 ·refine ⟨fun k o ho=>?_,fun b b' k h1 h2=>?_,fun b hb=>?_,fun b k hb=>?_,fun k hk=>?_,fun b b' k i h1 h2=>?_,fun b k hb=>?_,fun k i hk=>?_⟩
  ·obtain ⟨g1,g2⟩:=k3.sto k o ho
   refine ⟨by show k<Λ.nxt;omega,?_⟩
   cases o with
   |cells cs=>
    obtain ⟨b,arr,e,e1,e2,e3,e4⟩:=g2;exact ⟨b,arr,e,hobj e1,e2,e3,fun j v c a1 a2=>hval (e4 j v c a1 a2)⟩
   |map kag es sx=>
    obtain ⟨b,ents,clock,e1,e2,e3⟩:=g2;exact ⟨b,ents,clock,hobj e1,e2,e3.yq (fun _ _ h=>hrep h) (fun _ _ _ _ h=>hval h)⟩
   |arr n=>unfold W5 at*;rw [hfro g1];exact g2
   |iter q s seen c=>
    obtain ⟨b,bm,e1,e2,e3,e4⟩:=g2
    exact ⟨b,bm,hobj e1,e2,hobj e3,by show q<Λ.nxt;omega⟩
   |gro ver cs=>
    obtain ⟨q0,q⟩:=g2
    refine ⟨by rw [hfrf g1];exact q0,?_⟩
    rcases q with ⟨e1,e2⟩|⟨b,arr,e,e1,e2,e3,e4⟩
    ·exact .inl ⟨e1,fun b i hb=>e2 b i (hfobI (by omega) hb)⟩
    ·exact .inr ⟨b,arr,e,hcur (by omega) e1,e2,e3,fun j v c a1 a2=>hval (e4 j v c a1 a2)⟩
   |yJ os=>
    obtain ⟨q0,q⟩:=g2;refine ⟨fun b i hb=>q0 b i (hfobI (by omega) hb),fun i cs hi=>?_⟩;obtain ⟨b,arr,e,e1,e2,e3,e4⟩:=q i cs hi;exact ⟨b,arr,e,hfob e1,e2,e3,fun j v c a1 a2=>hval (e4 j v c a1 a2)⟩
   |yh ns=>exact fun i=>(hfrf g1).trans (g2 i)
   |zP kag I=>
    obtain ⟨b,ents,clock,e1,e2,e3,e4,e5⟩:=g2;refine ⟨b,ents,clock,hobj e1,e2,e3,e4,fun i e hi=>?_⟩;obtain ⟨cs,v,q1,q2,q3⟩:=e5 i e hi;exact ⟨cs,v,q1.yq fun _ _ h=>hrep h,hrep q2,q3⟩
   |abs J=>exact ⟨g2.1,(hfrf g1).trans g2.2.1,g2.1 _ _ _ _ _ _ (fun _ _ h=>hrep h) (fun b i=>⟨fun h=>hfob h,fun h=>hfobI (by omega) h⟩) (fun _ _ _=>rfl) g2.2.2⟩
  ·cases hh:Λ.high m b with
   |true=>
    obtain ⟨q1,q2⟩:=hname hh (.inl h1)
    cases hh':Λ.high m b' with
    |true=>
     rw [hH hh] at h1;rw [hH hh'] at h2;exact hr.inj b b' k h1 h2
    |false=>have:=(hlowname hh' (.inl h2)).1;omega
   |false=>
    have q:=(hlowname hh (.inl h1)).1
    cases hh':Λ.high m b' with
    |true=>have:=(hname hh' (.inl h2)).1;omega
    |false=>rw [hL hh] at h1;rw [hL hh'] at h2;exact k3.inj b b' k h1 h2
  ·have hge:Λ.w.heap.size<=b:=Nat.le_trans k1.fr.size hb
   have hh:Λ.high m b=false:=by unfold L.high;rw [hr.new b hge]
   rw [hL hh];exact k3.new b hb
  ·show k<Λ.nxt
   cases hh:Λ.high m b with
   |true=>exact hr.bnd b k (hname hh hb).2
   |false=>have:=(hlowname hh hb).1;omega
  ·have hk':Λ.nxt<=k:=hk;simp only [L.zM];rw [if_neg (by omega)];exact hr.frz k hk'
  ·cases hh:Λ.high m b with
   |true=>
    cases hh':Λ.high m b' with
    |true=>rw [hH hh] at h1;rw [hH hh'] at h2;exact hr.YO b b' k i h1 h2
    |false=>
     rw [hL hh'] at h2;have hkb:=k3.YM b' k (.inl ⟨i,h2⟩);have h1':=hfobI (by omega) h1;exact k3.YO b b' k i h1' h2
   |false=>
    rw [hL hh] at h1;have hkb:=k3.YM b k (.inl ⟨i,h1⟩);exact k3.YO b b' k i h1 (hfobI (by omega) h2)
  ·show k<Λ.nxt
   cases hh:Λ.high m b with
   |true=>rw [hH hh] at hb;exact hr.YM b k hb
   |false=>rw [hL hh] at hb;have:=k3.YM b k hb;omega
  ·have hk':Λ.nxt<=k:=hk;simp only [L.zM];rw [if_neg (by omega)];exact hr.z0H k i hk'
 ·rcases hcase with hge|⟨hlt',hrd'⟩
  ·refine ⟨fun b hb=>?_,fun b n hb=>?_,?_,fun b i hb=>?_,fun b i n hb=>?_,fun i=>?_⟩
   ·cases hh:Λ.high m b with
    |true=>rw [hH hh] at hb;exact hk.obj b hb
    |false=>have:=(hlowname hh (.inl hb)).1;omega
   ·cases hh:Λ.high m b with
    |true=>rw [hH hh] at hb;exact hk.arr b n hb
    |false=>have:=(hlowname hh (.inr ⟨n,hb⟩)).1;omega
   ·simp only [L.zM];rw [if_neg (by omega)];exact hk.fro
   ·cases hh:Λ.high m b with
    |true=>rw [hH hh] at hb;exact hk.fob b i hb
    |false=>rw [hL hh] at hb;have:=k3.YM b k (.inl ⟨i,hb⟩);omega
   ·cases hh:Λ.high m b with
    |true=>rw [hH hh] at hb;exact hk.far b i n hb
    |false=>rw [hL hh] at hb;have:=k3.YM b k (.inr ⟨i,n,hb⟩);omega
   ·simp only [L.zM];rw [if_neg (by omega)];exact hk.frf i
  ·rw [hrd] at hrd';cases hrd'
theorem z8u {f:FuncId} {vs:List V} {x:V} {base:Nat} {sto:List (Nat×z3)} {K:Out->Prop} (h:z9 P f vs ⟨sto,base⟩ {v:=x,rd:=true}) (hb:V.bds base vs=true) (hs:zG base sto=true) (hk:K {v:=x,rd:=true}):Wr P f vs base sto K:=
 ⟨_,by simp only [if_true];exact h.same rfl hb hs (by simp),hk⟩
end
def mE {κ ν:Type} (ek:κ->List T) (ev:ν->T) (l:List (κ×ν)):List (List T×V):=l.map fun e=>(ek e.1,.t (ev e.2))
def cE {ν:Type} (ev:ν->T) (l:List ν):List V:=l.map fun x=> .t (ev x)
theorem V.z6e {ν:Type} (m:Nat) (ev:ν->T):∀(l:List ν),V.bds m (cE ev l)=true
 |[]=>rfl
 |x::r=>by have:=V.z6e m ev r;simp only [cE] at this;simp [cE,V.bds,V.bd,this]
theorem LeO.mE {κ ν:Type} {m m':Nat} {kag:Bool} {ek:κ->List T} {ev:ν->T} {l l':List (κ×ν)} {sx sx':Option (Nat×List Nat)} (h:l=l') (hs:sx'=none∨sx'=sx):LeO m m' (.map kag (mE ek ev l) sx) (.map kag (mE ek ev l') sx'):=by
 subst h;have:=V.z6e m (fun e:κ×ν=>ev e.2) l;simp only [Go.GB.cE] at this;exact .map Z (by simp only [Go.GB.mE,List.map_map,Function.comp_def];exact .same this) hs
end Go.GB
namespace Go.GB
section
variable {P:Program}
mutual
def V.ren (ρ:Nat->Nat):V->V
 | .t x=> .t x
 | .zV=> .zV
 | .top=> .top
 | .own k sz xs=> .own (ρ k) sz xs
 | .slc k o l s=> .slc (ρ k) o l s
 | .ptr k o=> .ptr (ρ k) o
 | .mp k=> .mp (ρ k)
 | .fn f cs=> .fn f (cs.map fun c=>(ρ c.1,c.2))
 | .agg cs=> .agg (V.qk ρ cs)
 | .tup cs=> .tup (V.qk ρ cs)
 | .gd c x=> .gd c (x.ren ρ)
 | .ub c d=> .ub c d
 | .ui k=> .ui k
 | .fpt k i o=> .fpt (ρ k) i o
 | .gpt k v o=> .gpt (ρ k) v o
 | .gsl k v o l s=> .gsl (ρ k) v o l s
 | .fow k i s xs=> .fow (ρ k) i s xs
def V.qk (ρ:Nat->Nat):List V->List V
 |[]=>[]
 |x::r=>x.ren ρ::V.qk ρ r
end
theorem V.y7 (ρ:Nat->Nat):∀(cs:List V),V.qk ρ cs=cs.map (V.ren ρ)
 |[]=>rfl
 |x::r=>by simp [V.qk,V.y7 ρ r]
def z3.ren (ρ:Nat->Nat):z3->z3
 | .cells cs=> .cells (V.qk ρ cs)
 | .map kag es st=> .map kag (es.map fun e=>(e.1,e.2.ren ρ)) st
 | .arr n=> .arr n
 | .iter q s seen c=> .iter (ρ q) s seen c
 | .gro v cs=> .gro v (V.qk ρ cs)
 | .yJ os=> .yJ (os.map (V.qk ρ))
 | .yh ns=> .yh ns
 | .zP a I=> .zP a I
 | .abs J=> .abs J
structure Rn (ρ:Nat->Nat) (σ:Nat->Option Nat) (m1 m n:Nat):Prop where
 inv:∀k j,σ k=some j->ρ j=k/\j<m1+n
 at_:∀j,j<m1+n->σ (ρ j)=some j
 low:∀j,j<m1->ρ j<m
 new:∀j,m1<=j->j<m1+n->ρ j=m+(j - m1)
def L.view (Λ:L) (ρ:Nat->Nat) (σ:Nat->Option Nat) (m1:Nat):L where
 lab:=fun b=>match Λ.lab b with
  | .obj k=>match σ k with|some j=> .obj j|none=> .fix (some 0)
  | .arr k fr=>match σ k with|some j=> .arr j fr|none=> .fix (some fr)
  | .fob k i=>match σ k with|some j=> .fob j i|none=> .fix (some 0)
  | .far k i fr=>match σ k with|some j=> .far j i fr|none=> .fix (some fr)
  |x=>x
 fro:=fun j=>if j<m1 then Λ.fro (ρ j) else 0
 nxt:=m1
 w:=Λ.w
 frf:=fun j i=>if j<m1 then Λ.frf (ρ j) i else 0
def L.hid (Λ:L) (σ:Nat->Option Nat) (b:Nat):Bool:=
 match Λ.lab b with
 | .obj k=>(σ k).isNone
 | .arr k _=>(σ k).isNone
 | .fob k _=>(σ k).isNone
 | .far k _ _=>(σ k).isNone
 |_=>false
def Lab.ren (ρ:Nat->Nat):Lab->Lab
 | .obj k=> .obj (ρ k)
 | .arr k fr=> .arr (ρ k) fr
 | .fob k i=> .fob (ρ k) i
 | .far k i fr=> .far (ρ k) i fr
 |x=>x
def L.zY (Λ:L) (ρ:Nat->Nat) (σ:Nat->Option Nat) (Λ':L):L where
 lab:=fun b=>if Λ.hid σ b then Λ.lab b else (Λ'.lab b).ren ρ
 fro:=fun k=>match σ k with|some j=>Λ'.fro j|none=>Λ.fro k
 nxt:=Λ.nxt
 w:=Λ'.w
 frf:=fun k i=>match σ k with|some j=>Λ'.frf j i|none=>Λ.frf k i
variable {ρ:Nat->Nat} {σ:Nat->Option Nat} {m1 m n:Nat}
theorem z9D {Λ:L} {b:Nat} (h:Λ.hid σ b=true):∃fr,(Λ.view ρ σ m1).lab b= .fix (some fr)/\((∃k,Λ.lab b= .obj k/\σ k=none/\fr=0)∨(∃k,Λ.lab b= .arr k fr/\σ k=none)∨(∃k i,Λ.lab b= .fob k i/\σ k=none/\fr=0)∨∃k i,Λ.lab b= .far k i fr/\σ k=none):=by
 unfold L.hid at h;simp only [L.view]
 cases hl:Λ.lab b with
 |fix fr=>rw [hl] at h;simp at h
 |obj k=>rw [hl] at h;simp at h;exact ⟨0,by simp [h],.inl ⟨k,rfl,h,rfl⟩⟩
 |arr k fr=>rw [hl] at h;simp at h;exact ⟨fr,by simp [h],.inr (.inl ⟨k,rfl,h⟩)⟩
 |fob k i=>rw [hl] at h;simp at h;exact ⟨0,by simp [h],.inr (.inr (.inl ⟨k,i,rfl,h,rfl⟩))⟩
 |far k i fr=>rw [hl] at h;simp at h;exact ⟨fr,by simp [h],.inr (.inr (.inr ⟨k,i,rfl,h⟩))⟩
theorem yV {Λ:L} {b k j:Nat} (h:Λ.lab b= .obj k) (hk:σ k=some j):(Λ.view ρ σ m1).lab b= .obj j:=by simp [L.view,h,hk]
theorem Qm {Λ:L} {b k j fr:Nat} (h:Λ.lab b= .arr k fr) (hk:σ k=some j):(Λ.view ρ σ m1).lab b= .arr j fr:=by simp [L.view,h,hk]
theorem q7 {Λ:L} {b k j i:Nat} (h:Λ.lab b= .fob k i) (hk:σ k=some j):(Λ.view ρ σ m1).lab b= .fob j i:=by simp [L.view,h,hk]
theorem Qt {Λ:L} {b k j i fr:Nat} (h:Λ.lab b= .far k i fr) (hk:σ k=some j):(Λ.view ρ σ m1).lab b= .far j i fr:=by simp [L.view,h,hk]
theorem z1N {Λ:L} {b:Nat} {fr:Option Nat} (h:Λ.lab b= .fix fr):(Λ.view ρ σ m1).lab b= .fix fr:=by simp [L.view,h]
theorem We {Λ:L} {b j:Nat} (h:(Λ.view ρ σ m1).lab b= .obj j):∃k,Λ.lab b= .obj k/\σ k=some j:=by
 simp only [L.view] at h
 cases hl:Λ.lab b with
 |fix fr=>simp [hl] at h
 |obj k=>simp only [hl] at h;split at h<;>simp_all
 |arr k fr=>simp only [hl] at h;split at h<;>simp_all
 |fob k i=>simp only [hl] at h;split at h<;>simp_all
 |far k i fr=>simp only [hl] at h;split at h<;>simp_all
theorem z49 {Λ:L} {b j fr:Nat} (h:(Λ.view ρ σ m1).lab b= .arr j fr):∃k,Λ.lab b= .arr k fr/\σ k=some j:=by
 simp only [L.view] at h
 cases hl:Λ.lab b with
 |fix fr=>simp [hl] at h
 |obj k=>simp only [hl] at h;split at h<;>simp_all
 |arr k fr=>simp only [hl] at h;split at h<;>simp_all
 |fob k i=>simp only [hl] at h;split at h<;>simp_all
 |far k i fr=>simp only [hl] at h;split at h<;>simp_all
theorem y8 {Λ:L} {b j i:Nat} (h:(Λ.view ρ σ m1).lab b= .fob j i):∃k,Λ.lab b= .fob k i/\σ k=some j:=by
 simp only [L.view] at h
 cases hl:Λ.lab b with
 |fix fr=>simp [hl] at h
 |obj k=>simp only [hl] at h;split at h<;>simp_all
 |arr k fr=>simp only [hl] at h;split at h<;>simp_all
 |fob k i=>simp only [hl] at h;split at h<;>simp_all
 |far k i fr=>simp only [hl] at h;split at h<;>simp_all
theorem z3u {Λ:L} {b j i fr:Nat} (h:(Λ.view ρ σ m1).lab b= .far j i fr):∃k,Λ.lab b= .far k i fr/\σ k=some j:=by
 simp only [L.view] at h
 cases hl:Λ.lab b with
 |fix fr=>simp [hl] at h
 |obj k=>simp only [hl] at h;split at h<;>simp_all
 |arr k fr=>simp only [hl] at h;split at h<;>simp_all
 |fob k i=>simp only [hl] at h;split at h<;>simp_all
 |far k i fr=>simp only [hl] at h;split at h<;>simp_all
theorem zbf {Λ:L} {b o:Nat} (h:Rd Λ.lab b o):Rd (Λ.view ρ σ m1).lab b o:=by
 unfold Rd at*
 cases hl:Λ.lab b with
 |fix fr=>rw [z1N hl];rw [hl] at h;exact h
 |obj k=>rw [hl] at h;exact h.elim
 |arr k fr=>
  rw [hl] at h
  cases hk:σ k with
  |some j=>rw [Qm hl hk];exact h
  |none=>simp only [L.view,hl,hk];exact h
 |fob k i=>rw [hl] at h;exact h.elim
 |far k i fr=>
  rw [hl] at h
  cases hk:σ k with
  |some j=>rw [Qt hl hk];exact h
  |none=>simp only [L.view,hl,hk];exact h
theorem zO.view {Λ:L} {v:Value} {x:T} (h:zO Λ.lab Λ.w v x):zO (Λ.view ρ σ m1).lab (Λ.view ρ σ m1).w v x:=h.yq fun _ _ _ _ hr=>⟨zbf hr,rfl⟩
theorem z1x (hn:Rn ρ σ m1 m n) {Λ:L} {b k j:Nat} (h:WB Λ.lab k b) (hk:σ k=some j):WB (Λ.view ρ σ m1).lab j b:=by
 obtain ⟨i,e1,e2⟩:=h;refine ⟨i,q7 e1 hk,fun b' i' h'=>?_⟩;obtain ⟨k',a1,a2⟩:=y8 h';have h1:=(hn.inv _ _ a2).1;have h2:=(hn.inv _ _ hk).1;rw [←h1,h2] at a1;exact e2 b' i' a1
theorem zn.view (hn:Rn ρ σ m1 m n) {Λ:L} {v:Value} {y:V} (h:zn Λ v y):∀{x:V},x.ren ρ=y->x.bd m1=true->zn (Λ.view ρ σ m1) v x:=by
 induction h with
 |t h=>intro x hx hb;cases x<;>simp [V.ren] at hx;subst hx;exact .t h.view
 |zV=>intro x hx hb;cases x<;>simp [V.ren] at hx;exact .zV
 |@own v k sz xs h hsz hl hm ho=>
  intro x hx hb;cases x<;>simp [V.ren] at hx
  rename_i j sz' xs';obtain ⟨e1,rfl,rfl⟩:=hx
  have hj:j<m1:=by simpa [V.bd] using hb
  have hf:(Λ.view ρ σ m1).fro j=Λ.fro k:=by simp [L.view,hj,e1]
  have hs:σ k=some j:=by rw [←e1];exact hn.at_ j (by omega)
  refine .own h.view hsz hj (by rw [hf];exact hm) fun he=>?_
  rcases ho (by rw [←hf];exact he) with ho|⟨b,cap,arr,e,hv,hb',hh,hc,hn'⟩
  ·exact .inl ho
  ·exact .inr ⟨b,cap,arr,e,hv,Qm hb' hs,hh,hc,hn'⟩
 |@slc b k off len cap sz hl hc h=>
  intro x hx hb;cases x<;>simp [V.ren] at hx
  rename_i j _ _ _;obtain ⟨e1,rfl,rfl,rfl⟩:=hx
  have hj:j<m1:=by simpa [V.bd] using hb
  exact .slc hj hc (yV h (by rw [←e1];exact hn.at_ j (by omega)))
 |@agg vs cs hs hv ih=>
  intro x hx hb;cases x<;>simp [V.ren] at hx
  rename_i ds;rw [V.y7] at hx;subst hx;refine .agg (by simpa using hs) fun j v c h1 h2=>ih j v (c.ren ρ) h1 (by simp [h2]) Z (V.Zw (by simpa [V.bd] using hb) j c h2)
 |@tup vs cs hs hv ih=>
  intro x hx hb;cases x<;>simp [V.ren] at hx
  rename_i ds;rw [V.y7] at hx;subst hx;refine .tup (by simpa using hs) fun j v c h1 h2=>ih j v (c.ren ρ) h1 (by simp [h2]) Z (V.Zw (by simpa [V.bd] using hb) j c h2)
 |@ptr b k off hl h=>
  intro x hx hb;cases x<;>simp [V.ren] at hx
  rename_i j _;obtain ⟨e1,rfl⟩:=hx
  have hj:j<m1:=by simpa [V.bd] using hb
  exact .ptr hj (yV h (by rw [←e1];exact hn.at_ j (by omega)))
 |@mp b k hl h=>
  intro x hx hb;cases x<;>simp [V.ren] at hx
  rename_i j
  have hj:j<m1:=by simpa [V.bd] using hb
  exact .mp hj (yV h (by rw [←hx];exact hn.at_ j (by omega)))
 |@fn f vs cs hs h=>
  intro x hx hb;cases x<;>simp [V.ren] at hx
  obtain ⟨rfl,rfl⟩:=hx;rename_i ds;refine .fn (by simpa using hs) fun j v c h1 h2=>?_;obtain ⟨b,e1,e2,e3⟩:=h j v (ρ c.1,c.2) h1 (by simp only [List.getElem?_map,h2,Option.map_some])
  have hk:c.1<m1:=by
   simp only [V.bd,List.all_eq_true,decide_eq_true_eq] at hb;exact hb c (zMG h2)
  exact ⟨b,e1,yV e2 (hn.at_ c.1 (by omega)),hk⟩
 |gd _ h' ih=>
  intro x hx hb;cases x<;>simp [V.ren] at hx
  obtain ⟨rfl,e⟩:=hx;exact .gd (fun hc=>ih hc e (by simpa [V.bd] using hb)) h'
 |top=>intro x hx hb;cases x<;>simp [V.ren] at hx;exact .top
 |ub h h'=>intro x hx hb;cases x<;>simp only [V.ren,V.ub.injEq,reduceCtorEq] at hx;obtain ⟨rfl,rfl⟩:=hx;exact .ub h h'
 |ui=>intro x hx hb;cases x<;>simp only [V.ren,V.ui.injEq,reduceCtorEq] at hx;subst hx;exact .ui
 |@fpt b k i off hl h=>
  intro x hx hb;cases x<;>simp [V.ren] at hx
  rename_i j _ _;obtain ⟨e1,rfl,rfl⟩:=hx
  have hj:j<m1:=by simpa [V.bd] using hb
  exact .fpt hj (q7 h (by rw [←e1];exact hn.at_ j (by omega)))
 |@gpt v k ver off hv hl hm h=>
  intro x hx hb;cases x<;>simp [V.ren] at hx
  rename_i j _ _;obtain ⟨e1,rfl,rfl⟩:=hx
  have hj:j<m1:=by simpa [V.bd] using hb
  have hf:(Λ.view ρ σ m1).frf j 0=Λ.frf k 0:=by simp [L.view,hj,e1]
  have hs:σ k=some j:=by rw [←e1];exact hn.at_ j (by omega)
  refine .gpt hv hj (by rw [hf];exact hm) fun he=>?_;obtain ⟨b,e1,e2⟩:=h (by rw [←hf];exact he);exact ⟨b,e1,z1x hn e2 hs⟩
 |@gsl v k ver off len sz hv hl hm h=>
  intro x hx hb;cases x<;>simp [V.ren] at hx
  rename_i j _ _ _ _;obtain ⟨e1,rfl,rfl,rfl,rfl⟩:=hx
  have hj:j<m1:=by simpa [V.bd] using hb
  have hf:(Λ.view ρ σ m1).frf j 0=Λ.frf k 0:=by simp [L.view,hj,e1]
  have hs:σ k=some j:=by rw [←e1];exact hn.at_ j (by omega)
  refine .gsl hv hj (by rw [hf];exact hm) fun he=>?_
  rcases h (by rw [←hf];exact he) with h|⟨b,cap,N,hv,hc,e2,hN,he'⟩
  ·exact .inl h
  ·exact .inr ⟨b,cap,N,hv,hc,z1x hn e2 hs,hN,he'⟩
 |@fow v k i sz xs h hsz hl hm ho=>
  intro x hx hb;cases x<;>simp [V.ren] at hx
  rename_i j _ _ _;obtain ⟨e1,rfl,rfl,rfl⟩:=hx
  have hj:j<m1:=by simpa [V.bd] using hb
  have hf:∀i,(Λ.view ρ σ m1).frf j i=Λ.frf k i:=by intro i;simp [L.view,hj,e1]
  have hs:σ k=some j:=by rw [←e1];exact hn.at_ j (by omega)
  refine .fow h.view hsz hj (by rw [hf];exact hm) fun he=>?_
  rcases ho (by rw [←hf];exact he) with ho|⟨b,cap,arr,e,hv,hb',hh,hc,hn'⟩
  ·exact .inl ho
  ·exact .inr ⟨b,cap,arr,e,hv,Qt hb' hs,hh,hc,hn'⟩
theorem WO (hn:Rn ρ σ m1 m n):∀(ob:List (Nat×z3)) (s s1:List (Nat×z3)),(∀j,j<m1+n->zi s (ρ j)=(zi s1 j).map (z3.ren ρ))->(∀j o,(j,o)∈ob->j<m1+n)->
  (∀j,j<m1+n->zi (Zj s (ob.map fun e=>(ρ e.1,e.2.ren ρ))) (ρ j)=(zi (Zj s1 ob) j).map (z3.ren ρ))/\(∀k,σ k=none->zi (Zj s (ob.map fun e=>(ρ e.1,e.2.ren ρ))) k=zi s k)
 |[],s,s1,h,_=>⟨h,fun _ _=>rfl⟩
 |(i,o)::r,s,s1,h,hb=>by
  simp only [List.map_cons,Zj];have hi:i<m1+n:=hb i o (by simp)
  obtain ⟨g1,g2⟩:=WO hn r (yC s (ρ i) (o.ren ρ)) (yC s1 i o) (fun j hj=>by
   rw [Zh,Zh];by_cases e:i=j
   ·subst e;simp
   ·have:ρ i≠ρ j:=by
     intro e';have h1:=hn.at_ i hi;have h2:=hn.at_ j hj;rw [e',h2] at h1;simp at h1;exact e h1.symm
    simp only [e,this,if_false];exact h j hj) (fun j o hj=>hb j o (by simp [hj]))
  refine ⟨g1,fun k hk=>?_⟩;rw [g2 k hk,Zh]
  have:ρ i≠k:=by rintro rfl;rw [hn.at_ i hi] at hk;cases hk
  simp [this]
theorem z9.ren {out:Out} (hn:Rn ρ σ m1 m out.n) {f:FuncId} {vs:List V} {sto s1:List (Nat×z3)} (h:z9 P f vs ⟨s1,m1⟩ out) (hb:V.bds m1 vs=true) (hs:zG m1 s1=true)
  (hsub:∀j,j<m1->zi sto (ρ j)=(zi s1 j).map (z3.ren ρ)) (hob:∀k o,(k,o)∈out.ob->k<m1+out.n/\(zi s1 k≠none∨m1<=k)):
  YK P f (V.qk ρ vs) m sto {v:=out.v.ren ρ,ob:=out.ob.map fun e=>(ρ e.1,e.2.ren ρ),n:=out.n,rd:=true}:=by
 refine ⟨h.1,fun k o hk=>?_,fun Λ args hr hle hfree hsz hargs=>?_⟩
 ·simp only [List.mem_map] at hk;obtain ⟨⟨j,o'⟩,hj,e⟩:=hk;simp at e;obtain ⟨rfl,rfl⟩:=e;obtain ⟨h1,h2⟩:=hob j o' hj;by_cases hj1:j<m1
  ·left
   rcases h2 with h2|h2
   ·rw [hsub j hj1];simpa using h2
   ·omega
  ·right;have:=hn.new j (by omega) h1;show m<=ρ j/\ρ j<m+out.n;omega
 simp only at hle hfree
 have hfresh:∀{b k j:Nat},σ k=some j->(Λ.lab b= .obj k∨∃fr,Λ.lab b= .arr k fr)->j<m1:=by
  intro b k j hk hl;obtain ⟨e,hj⟩:=hn.inv k j hk
  rcases Nat.lt_or_ge j m1 with h|h
  ·exact h
  ·have e2:=hn.new j h hj;have:=(hfree k (by omega) (by omega)).2.1
   rcases hl with hl|⟨fr,hl⟩
   ·exact absurd hl (this.obj b)
   ·exact absurd hl (this.arr b fr)
 have hfreshF:∀{b k j:Nat},σ k=some j->((∃i,Λ.lab b= .fob k i)∨∃i fr,Λ.lab b= .far k i fr)->j<m1:=by
  intro b k j hk hl;obtain ⟨e,hj⟩:=hn.inv k j hk
  rcases Nat.lt_or_ge j m1 with h|h
  ·exact h
  ·have e2:=hn.new j h hj;have:=(hfree k (by omega) (by omega)).2.1
   rcases hl with ⟨i,hl⟩|⟨i,fr,hl⟩
   ·exact absurd hl (this.fob b i)
   ·exact absurd hl (this.far b i fr)
 have hr1:Z4 (Λ.view ρ σ m1) ⟨s1,m1⟩:=by
  refine ⟨fun j o hj=>?_,fun b b' j h1 h2=>?_,fun b hb=>?_,fun b j hb=>?_,fun j hj=>?_,fun b b' j i h1 h2=>?_,fun b j hb=>?_,fun j i hj=>?_⟩
  ·obtain ⟨h1,h2⟩:=WW hs j o hj;refine ⟨h1,?_⟩;have hro:=(hr.sto (ρ j) (o.ren ρ) (by rw [hsub j h1,hj];rfl)).2;have hs':=hn.at_ j (by omega)
   cases o with
   |cells cs=>
    obtain ⟨b,arr,e,e1,e2,e3,e4⟩:=hro;rw [V.y7] at e3 e4
    exact ⟨b,arr,e,yV e1 hs',e2,by simpa using e3,fun i v c a1 a2=>(e4 i v (c.ren ρ) a1 (by simp [a2])).view hn rfl (V.Zw (by simpa [z3.bd] using h2) i c a2)⟩
   |map kag es sx=>
    obtain ⟨b,ents,clock,e1,e2,e3⟩:=hro
    refine ⟨b,ents,clock,yV e1 hs',e2,⟨by simpa using e3.size,fun i e kv a1 a2=>?_,e3.born,e3.apart,e3.known⟩⟩
    obtain ⟨g1,g2⟩:=e3.at_ i e (kv.1,kv.2.ren ρ) a1 (by simp [a2]);exact ⟨g1.yq fun _ _ h=>h.view,g2.view hn Z (V.Zw (by simpa [z3.bd] using h2) i kv.2 (by simp [a2]))⟩
   |arr n=>
    have hro':Λ.fro (ρ j)=n:=hro;unfold W5;simp [L.view,h1,hro']
   |iter q s seen c=>
    have hq:q<m1:=by simpa [z3.bd] using h2
    obtain ⟨b,bm,e1,e2,e3,e4⟩:=hro;exact ⟨b,bm,yV e1 hs',e2,yV e3 (hn.at_ q (by omega)),hq⟩
   |gro ver cs=>
    obtain ⟨q0,q⟩:=hro;rw [V.y7] at q
    refine ⟨by simpa [L.view,h1] using q0,?_⟩
    rcases q with ⟨e1,e2⟩|⟨b,arr,e,e1,e2,e3,e4⟩
    ·refine .inl ⟨by simpa using e1,fun b i hb=>?_⟩
     obtain ⟨k,a1,a2⟩:=y8 hb;have:=(hn.inv _ _ a2).1;subst this;exact e2 b i a1
    ·exact .inr ⟨b,arr,e,z1x hn e1 hs',e2,by simpa using e3,fun i v c a1 a2=>(e4 i v (c.ren ρ) a1 (by simp [a2])).view hn rfl (V.Zw (by simpa [z3.bd] using h2) i c a2)⟩
   |yJ os=>
    obtain ⟨q0,q⟩:=hro;refine ⟨fun b i hb=>?_,fun i cs hi=>?_⟩
    ·obtain ⟨k,a1,a2⟩:=y8 hb;have:=(hn.inv _ _ a2).1;subst this;simpa using q0 b i a1
    ·obtain ⟨b,arr,e,e1,e2,e3,e4⟩:=q i (V.qk ρ cs) (by simp [hi]);rw [V.y7] at e3 e4
     have hbd:V.bds m1 cs=true:=by
      simp only [z3.bd,List.all_eq_true] at h2;exact h2 cs (zMG hi)
     exact ⟨b,arr,e,q7 e1 hs',e2,by simpa using e3,fun i v c a1 a2=>(e4 i v (c.ren ρ) a1 (by simp [a2])).view hn rfl (V.Zw hbd i c a2)⟩
   |yh ns=>intro i;have:=hro i;simpa [L.view,h1] using this
   |zP kag I=>
    obtain ⟨b,ents,clock,e1,e2,e3,e4,e5⟩:=hro;refine ⟨b,ents,clock,yV e1 hs',e2,e3,e4,fun i e hi=>?_⟩;obtain ⟨cs,v,q1,q2,q3⟩:=e5 i e hi;exact ⟨cs,v,q1.yq fun _ _ h=>h.view,q2.view,q3⟩
   |abs J=>
    refine ⟨hro.1,by simp [L.view,h1,hro.2.1],hro.1 _ _ _ _ _ _ (fun _ _ h=>h.view) (fun b i=>⟨fun h=>q7 h hs',fun h=>?_⟩) (fun _ _ _=>rfl) hro.2.2⟩
    obtain ⟨k,a1,a2⟩:=y8 h;have:=(hn.inv _ _ a2).1;subst this;exact a1
  ·obtain ⟨k,a1,a2⟩:=We h1;obtain ⟨k',b1,b2⟩:=We h2;have:=(hn.inv _ _ a2).1;have:=(hn.inv _ _ b2).1
   subst_vars
   exact hr.inj b b' _ a1 b1
  ·exact z1N (hr.new b hb)
  ·rcases hb with hb|⟨fr,hb⟩
   ·obtain ⟨k,a1,a2⟩:=We hb;exact hfresh a2 (.inl a1)
   ·obtain ⟨k,a1,a2⟩:=z49 hb;exact hfresh a2 (.inr ⟨_,a1⟩)
  ·have hj':m1<=j:=hj;simp [L.view];omega
  ·obtain ⟨k,a1,a2⟩:=y8 h1;obtain ⟨k',b1,b2⟩:=y8 h2;have:=(hn.inv _ _ a2).1;have:=(hn.inv _ _ b2).1
   subst_vars
   exact hr.YO b b' _ i a1 b1
  ·rcases hb with ⟨i,hb⟩|⟨i,fr,hb⟩
   ·obtain ⟨k,a1,a2⟩:=y8 hb;exact hfreshF a2 (.inl ⟨_,a1⟩)
   ·obtain ⟨k,a1,a2⟩:=z3u hb;exact hfreshF a2 (.inr ⟨_,_,a1⟩)
  ·have hj':m1<=j:=hj;simp [L.view];omega
 refine (h.2 (Λ.view ρ σ m1) args hr1 Z (by rw [hsz,V.y7];simp) fun j v y h1 h2=>(hargs j v (y.ren ρ) h1 (by rw [V.y7];simp [h2])).view hn Z (V.Zw hb j y h2)).mono fun e w' he=>?_;obtain ⟨v,Λ',rfl,rfl,k1,k2,k3,k4⟩:=he;simp only at k2 k3
 have hlt:∀{b:Nat},Λ.hid σ b=true->b<Λ.w.heap.size:=by
  intro b hh
  rcases Nat.lt_or_ge b Λ.w.heap.size with h|h
  ·exact h
  ·unfold L.hid at hh;rw [hr.new b h] at hh;simp at hh
 have hH:∀{b:Nat},Λ.hid σ b=true->(Λ.zY ρ σ Λ').lab b=Λ.lab b:=fun h=>by simp [L.zY,h]
 have hL:∀{b:Nat},Λ.hid σ b=false->(Λ.zY ρ σ Λ').lab b=(Λ'.lab b).ren ρ:=fun h=>by simp [L.zY,h]
 have hheap:∀{b:Nat},Λ.hid σ b=true->∃fr,Λ'.lab b= .fix (some fr)/\Λ'.w.heap[b]?=Λ.w.heap[b]?/\((∃k,Λ.lab b= .obj k/\σ k=none/\fr=0)∨(∃k,Λ.lab b= .arr k fr/\σ k=none)∨(∃k i,Λ.lab b= .fob k i/\σ k=none/\fr=0)∨∃k i,Λ.lab b= .far k i fr/\σ k=none):=by
  intro b hh;obtain ⟨fr,e1,e2⟩:=z9D (ρ:=ρ) (m1:=m1) hh;obtain ⟨g1,g2⟩:=k1.fr.fix b (hlt hh) _ e1;exact ⟨fr,g1,g2,e2⟩
 have hvis:∀{b k j:Nat},σ k=some j->(Λ.lab b= .obj k∨∃fr,Λ.lab b= .arr k fr)->Λ.hid σ b=false:=by
  intro b k j hk hb;unfold L.hid
  rcases hb with hb|⟨fr,hb⟩<;>rw [hb]<;>simp [hk]
 have hvisF:∀{b k j:Nat},σ k=some j->((∃i,Λ.lab b= .fob k i)∨∃i fr,Λ.lab b= .far k i fr)->Λ.hid σ b=false:=by
  intro b k j hk hb;unfold L.hid
  rcases hb with ⟨i,hb⟩|⟨i,fr,hb⟩<;>rw [hb]<;>simp [hk]
 have hfix:∀{b:Nat} {fr:Option Nat},Λ.lab b= .fix fr->Λ.hid σ b=false:=by
  intro b fr hb;unfold L.hid;rw [hb]
 have rdren:∀{b o:Nat} {l:Nat->Lab},l b=(Λ'.lab b).ren ρ->Rd Λ'.lab b o->Rd l b o:=by
  intro b o l e h;unfold Rd at*;rw [e]
  cases hl:Λ'.lab b<;>rw [hl] at h<;>simp only [Lab.ren]<;>exact h
 have hinvF:∀{b k j i:Nat},σ k=some j->(Λ.zY ρ σ Λ').lab b= .fob k i->Λ'.lab b= .fob j i:=by
  intro b k j i hk hb
  cases hh:Λ.hid σ b with
  |true=>rw [hH hh] at hb;have:=hvisF hk (.inl ⟨i,hb⟩);rw [hh] at this;cases this
  |false=>
   rw [hL hh] at hb
   cases hl:Λ'.lab b<;>rw [hl] at hb<;>simp [Lab.ren] at hb
   rename_i j' i';obtain ⟨e1,rfl⟩:=hb;have hb1:=k3.YM b j' (.inl ⟨_,hl⟩);have hb2:=hn.at_ j' (by omega);rw [e1,hk] at hb2;simp at hb2;subst hb2;rfl
 have hkp:Kp Λ (Λ.zY ρ σ Λ'):=by
  refine ⟨⟨k1.fr.os,k1.fr.tape,k1.fr.output,k1.fr.size,fun b hb fr hl=>?_,fun b hb k fr hl o ho=>?_,fun b hb k i fr hl o ho=>?_⟩,Nat.le_refl _,fun b k _ hl=>?_,fun b k n _ hb hl hf=>?_,fun k hk=>?_,fun b k i _ hl=>?_,fun b k i n _ hb hl hf=>?_,fun k i hk=>?_,fun b k i hk hp hf hl=>?_⟩
  ·obtain ⟨g1,g2⟩:=k1.fr.fix b hb fr (z1N hl)
   exact ⟨by rw [hL (hfix hl),g1];rfl,g2⟩
  ·cases hk:σ k with
   |none=>
    have hh:Λ.hid σ b=true:=by unfold L.hid;rw [hl];simp [hk]
    obtain ⟨fr',g1,g2,g3⟩:=hheap hh
    exact ⟨by unfold Rd;rw [hH hh,hl];exact ho,cell?_heap g2⟩
   |some j=>
    have hh:=hvis hk (.inr ⟨_,hl⟩);obtain ⟨g1,g2⟩:=k1.fr.arr b hb j fr (Qm hl hk) o ho;exact ⟨rdren (hL hh) g1,g2⟩
  ·cases hk:σ k with
   |none=>
    have hh:Λ.hid σ b=true:=by unfold L.hid;rw [hl];simp [hk]
    obtain ⟨fr',g1,g2,g3⟩:=hheap hh
    exact ⟨by unfold Rd;rw [hH hh,hl];exact ho,cell?_heap g2⟩
   |some j=>
    have hh:=hvisF hk (.inr ⟨_,_,hl⟩);obtain ⟨g1,g2⟩:=k1.fr.far b hb j i fr (Qt hl hk) o ho;exact ⟨rdren (hL hh) g1,g2⟩
  ·cases hk:σ k with
   |none=>rw [hH (by unfold L.hid;rw [hl];simp [hk])];exact hl
   |some j=>
    rw [hL (hvis hk (.inl hl)),k1.obj b j (hfresh hk (.inl hl)) (yV hl hk)];simp only [Lab.ren,(hn.inv k j hk).1]
  ·cases hk:σ k with
   |none=>
    have hh:Λ.hid σ b=true:=by unfold L.hid;rw [hl];simp [hk]
    obtain ⟨fr',g1,g2,g3⟩:=hheap hh
    exact ⟨by rw [hH hh];exact hl,g2⟩
   |some j=>
    have hj:=hfresh hk (.inr ⟨_,hl⟩)
    have e1:(Λ.view ρ σ m1).fro j=Λ.fro k:=by simp [L.view,hj,(hn.inv k j hk).1]
    have e2:(Λ.zY ρ σ Λ').fro k=Λ'.fro j:=by simp [L.zY,hk]
    obtain ⟨g1,g2⟩:=k1.own b j n hj hb (Qm hl hk) (by rw [←e2,hf,e1])
    exact ⟨by rw [hL (hvis hk (.inr ⟨_,hl⟩)),g1];simp only [Lab.ren,(hn.inv k j hk).1],g2⟩
  ·cases hk':σ k with
   |none=>simp [L.zY,hk']
   |some j=>
    obtain ⟨e1,e2⟩:=hn.inv k j hk';simp only [L.zY,hk'];by_cases hj:j<m1
    ·have:=k1.fro j hj;simpa [L.view,hj,e1] using this
    ·have e3:=hn.new j (by omega) e2;rw [(hfree k (by omega) (by omega)).2.1.fro];omega
  ·cases hk:σ k with
   |none=>
    have hh:Λ.hid σ b=true:=by unfold L.hid;rw [hl];simp [hk]
    obtain ⟨fr',g1,g2,g3⟩:=hheap hh
    exact ⟨by rw [hH hh];exact hl,fun N hN=>by unfold Zk at hN⊢;show (match Λ'.w.heap[b]? with|some (.cells arr _ _)=>some arr.size|_=>none)=_;rw [g2];exact hN⟩
   |some j=>
    obtain ⟨g1,g2⟩:=k1.fob b j i (hfreshF hk (.inl ⟨_,hl⟩)) (q7 hl hk)
    exact ⟨by rw [hL (hvisF hk (.inl ⟨_,hl⟩)),g1];simp only [Lab.ren,(hn.inv k j hk).1],g2⟩
  ·cases hk:σ k with
   |none=>
    have hh:Λ.hid σ b=true:=by unfold L.hid;rw [hl];simp [hk]
    obtain ⟨fr',g1,g2,g3⟩:=hheap hh
    exact ⟨by rw [hH hh];exact hl,g2⟩
   |some j=>
    have hj:=hfreshF hk (.inr ⟨_,_,hl⟩)
    have e1:(Λ.view ρ σ m1).frf j i=Λ.frf k i:=by simp [L.view,hj,(hn.inv k j hk).1]
    have e2:(Λ.zY ρ σ Λ').frf k i=Λ'.frf j i:=by simp [L.zY,hk]
    obtain ⟨g1,g2⟩:=k1.far b j i n hj hb (Qt hl hk) (by rw [←e2,hf,e1])
    exact ⟨by rw [hL (hvisF hk (.inr ⟨_,_,hl⟩)),g1];simp only [Lab.ren,(hn.inv k j hk).1],g2⟩
  ·cases hk':σ k with
   |none=>simp [L.zY,hk']
   |some j=>
    obtain ⟨e1,e2⟩:=hn.inv k j hk';simp only [L.zY,hk'];by_cases hj:j<m1
    ·have:=k1.frf j i hj;simpa [L.view,hj,e1] using this
    ·have e3:=hn.new j (by omega) e2;rw [(hfree k (by omega) (by omega)).2.1.frf];omega
  ·cases hk':σ k with
   |none=>
    cases hh:Λ.hid σ b with
    |true=>rw [hH hh] at hl;exact hl
    |false=>
     rw [hL hh] at hl
     cases hl':Λ'.lab b<;>rw [hl'] at hl<;>simp [Lab.ren] at hl
     rename_i j' i';have hb1:=k3.YM b j' (.inl ⟨_,hl'⟩);have hb2:=hn.at_ j' (by omega);rw [hl.1,hk'] at hb2;cases hb2
   |some j=>
    have hb1:=hinvF hk' hl;obtain ⟨e1,e2⟩:=hn.inv k j hk';by_cases hj:j<m1
    ·have e3:(Λ.view ρ σ m1).frf j 0=Λ.frf k 0:=by simp [L.view,hj,e1]
     have e4:(Λ.zY ρ σ Λ').frf k 0=Λ'.frf j 0:=by simp [L.zY,hk']
     obtain ⟨k',a1,a2⟩:=y8 (k1.z41 b j i hj (by rw [e3];exact hp) (by rw [←e4,hf,e3]) hb1);have:=(hn.inv _ _ a2).1;rw [←this,e1] at a1;exact a1
    ·have e3:=hn.new j (by omega) e2;have:=(hfree k (by omega) (by omega)).2.1.frf 0;omega
 have hobj:∀{b j:Nat},Λ'.lab b= .obj j->(Λ.zY ρ σ Λ').lab b= .obj (ρ j):=by
  intro b k hb
  cases hh:Λ.hid σ b with
  |true=>obtain ⟨fr,g1,_⟩:=hheap hh;rw [g1] at hb;simp at hb
  |false=>rw [hL hh,hb];rfl
 have harr:∀{b j n:Nat},Λ'.lab b= .arr j n->(Λ.zY ρ σ Λ').lab b= .arr (ρ j) n:=by
  intro b k n hb
  cases hh:Λ.hid σ b with
  |true=>obtain ⟨fr,g1,_⟩:=hheap hh;rw [g1] at hb;simp at hb
  |false=>rw [hL hh,hb];rfl
 have hfob:∀{b j i:Nat},Λ'.lab b= .fob j i->(Λ.zY ρ σ Λ').lab b= .fob (ρ j) i:=by
  intro b k i hb
  cases hh:Λ.hid σ b with
  |true=>obtain ⟨fr,g1,_⟩:=hheap hh;rw [g1] at hb;simp at hb
  |false=>rw [hL hh,hb];rfl
 have hfar:∀{b j i n:Nat},Λ'.lab b= .far j i n->(Λ.zY ρ σ Λ').lab b= .far (ρ j) i n:=by
  intro b k i n hb
  cases hh:Λ.hid σ b with
  |true=>obtain ⟨fr,g1,_⟩:=hheap hh;rw [g1] at hb;simp at hb
  |false=>rw [hL hh,hb];rfl
 have hcur:∀{b j:Nat},j<m1+out.n->WB Λ'.lab j b->WB (Λ.zY ρ σ Λ').lab (ρ j) b:=by
  rintro b j hj ⟨i,e1,e2⟩;exact ⟨i,hfob e1,fun b' i' h'=>e2 b' i' (hinvF (hn.at_ j hj) h')⟩
 have hrep:∀{u:Value} {y:T},zO Λ'.lab Λ'.w u y->zO (Λ.zY ρ σ Λ').lab (Λ.zY ρ σ Λ').w u y:=by
  intro u y hy;refine hy.yq fun b o _ _ hrd=>⟨?_,rfl⟩
  cases hh:Λ.hid σ b with
  |true=>
   obtain ⟨fr,g1,_,g3⟩:=hheap hh;unfold Rd at hrd⊢;rw [g1] at hrd;rw [hH hh]
   rcases g3 with ⟨k,e,_,rfl⟩|⟨k,e,_⟩|⟨k,i,e,_,rfl⟩|⟨k,i,e,_⟩
   ·simp at hrd
   ·rw [e];exact hrd
   ·simp at hrd
   ·rw [e];exact hrd
  |false=>exact rdren (hL hh) hrd
 have hfro:∀{j:Nat},j<m1+out.n->(Λ.zY ρ σ Λ').fro (ρ j)=Λ'.fro j:=by
  intro j hj;simp [L.zY,hn.at_ j hj]
 have hfrf:∀{j i:Nat},j<m1+out.n->(Λ.zY ρ σ Λ').frf (ρ j) i=Λ'.frf j i:=by
  intro j i hj;simp [L.zY,hn.at_ j hj]
 have hρ:∀{j:Nat},j<m1+out.n->ρ j<Λ.nxt:=by
  intro j hj;by_cases h1:j<m1
  ·have:=hn.low j h1;omega
  ·have:=hn.new j (by omega) hj;omega
 have hval:∀{u:Value} {y:V},zn Λ' u y->zn (Λ.zY ρ σ Λ') u (y.ren ρ):=by
  intro u y hy
  induction hy with
  |t h=>exact .t (hrep h)
  |zV=>exact .zV
  |@own v k sz xs h hsz hl hn' ho=>
   rw [k2] at hl;refine .own (hrep h) hsz (hρ hl) (by rw [hfro hl];exact hn') fun he=>?_
   rcases ho (by rw [←hfro hl];exact he) with ho|⟨b,cap,arr,e,hv,hb',hh,hc,hn'⟩
   ·exact .inl ho
   ·exact .inr ⟨b,cap,arr,e,hv,harr hb',hh,hc,hn'⟩
  |slc hl hc h=>exact .slc (hρ (by omega)) hc (hobj h)
  |agg hs _ ih=>
   refine .agg (by rw [V.y7];simpa using hs) fun j v c h1 h2=>?_;rw [V.y7,List.getElem?_map,Option.map_eq_some_iff] at h2;obtain ⟨c',h3,rfl⟩:=h2;exact ih j v c' h1 h3
  |tup hs _ ih=>
   refine .tup (by rw [V.y7];simpa using hs) fun j v c h1 h2=>?_;rw [V.y7,List.getElem?_map,Option.map_eq_some_iff] at h2;obtain ⟨c',h3,rfl⟩:=h2;exact ih j v c' h1 h3
  |ptr hl h=>exact .ptr (hρ (by omega)) (hobj h)
  |mp hl h=>exact .mp (hρ (by omega)) (hobj h)
  |fn hs h=>
   refine .fn (by simpa using hs) fun j v c h1 h2=>?_;rw [List.getElem?_map,Option.map_eq_some_iff] at h2;obtain ⟨c',h3,rfl⟩:=h2;obtain ⟨b,e1,e2,e3⟩:=h j v c' h1 h3;exact ⟨b,e1,hobj e2,hρ (by omega)⟩
  |gd _ h' ih=>exact .gd ih h'
  |top=>exact .top
  |ub h h'=>exact .ub h h'
  |ui=>exact .ui
  |fpt hl h=>exact .fpt (hρ (by omega)) (hfob h)
  |gpt hv hl hm h=>
   rw [k2] at hl;refine .gpt hv (hρ hl) (by rw [hfrf hl];exact hm) fun he=>?_;obtain ⟨b,e1,e2⟩:=h (by rw [←hfrf hl];exact he);exact ⟨b,e1,hcur hl e2⟩
  |gsl hv hl hm h=>
   rw [k2] at hl;refine .gsl hv (hρ hl) (by rw [hfrf hl];exact hm) fun he=>?_
   rcases h (by rw [←hfrf hl];exact he) with h|⟨b,cap,N,hv,hc,e2,hN,he'⟩
   ·exact .inl h
   ·exact .inr ⟨b,cap,N,hv,hc,hcur hl e2,hN,he'⟩
  |fow h hsz hl hm ho=>
   rw [k2] at hl;refine .fow (hrep h) hsz (hρ hl) (by rw [hfrf hl];exact hm) fun he=>?_
   rcases ho (by rw [←hfrf hl];exact he) with ho|⟨b,cap,arr,e,hv,hb',hh,hc,hn'⟩
   ·exact .inl ho
   ·exact .inr ⟨b,cap,arr,e,hv,hfar hb',hh,hc,hn'⟩
 have hname:∀{b k:Nat},Λ.hid σ b=true->((Λ.zY ρ σ Λ').lab b= .obj k∨∃n,(Λ.zY ρ σ Λ').lab b= .arr k n)->σ k=none/\(Λ.lab b= .obj k∨∃n,Λ.lab b= .arr k n):=by
  intro b k hh hb;rw [hH hh] at hb;refine ⟨?_,hb⟩
  unfold L.hid at hh;rcases hb with hb|⟨n,hb⟩<;>rw [hb] at hh<;>simpa using hh
 have hseen:∀{b k:Nat},Λ.hid σ b=false->((Λ.zY ρ σ Λ').lab b= .obj k∨∃n,(Λ.zY ρ σ Λ').lab b= .arr k n)->∃j,ρ j=k/\j<m1+out.n/\(Λ'.lab b= .obj j∨∃n,Λ'.lab b= .arr j n):=by
  intro b k hh hb;rw [hL hh] at hb
  cases hl:Λ'.lab b with
  |fix fr=>rw [hl] at hb;simp [Lab.ren] at hb
  |obj j=>rw [hl] at hb;simp [Lab.ren] at hb;have:=k3.bnd b j (.inl hl);exact ⟨j,hb,by omega,.inl rfl⟩
  |arr j n=>rw [hl] at hb;simp [Lab.ren] at hb;have:=k3.bnd b j (.inr ⟨n,hl⟩);exact ⟨j,hb,by omega,.inr ⟨n,rfl⟩⟩
  |fob j i=>rw [hl] at hb;simp [Lab.ren] at hb
  |far j i n=>rw [hl] at hb;simp [Lab.ren] at hb
 have hseenF:∀{b k:Nat},Λ.hid σ b=false->((∃i,(Λ.zY ρ σ Λ').lab b= .fob k i)∨∃i n,(Λ.zY ρ σ Λ').lab b= .far k i n)->∃j,ρ j=k/\j<m1+out.n:=by
  intro b k hh hb;rw [hL hh] at hb
  cases hl:Λ'.lab b with
  |fix fr=>rw [hl] at hb;simp [Lab.ren] at hb
  |obj j=>rw [hl] at hb;simp [Lab.ren] at hb
  |arr j n=>rw [hl] at hb;simp [Lab.ren] at hb
  |fob j i=>rw [hl] at hb;simp [Lab.ren] at hb;have:=k3.YM b j (.inl ⟨i,hl⟩);exact ⟨j,hb,by omega⟩
  |far j i n=>rw [hl] at hb;simp [Lab.ren] at hb;have:=k3.YM b j (.inr ⟨i,n,hl⟩);exact ⟨j,hb,by omega⟩
 obtain ⟨ag1,ag2⟩:=WO hn out.ob sto s1 (fun j hj=>by
  by_cases h1:j<m1
  ·exact hsub j h1
  ·have e3:=hn.new j (by omega) hj;rw [(hfree (ρ j) (by omega) (by omega)).2.2]
   cases ha:zi s1 j with
   |none=>rfl
   |some o=>have:=(WW hs j o ha).1;omega) (fun j o hj=>(hob j o hj).1)
 refine ⟨v,Λ.zY ρ σ Λ',rfl,rfl,hkp,rfl,?_,hval k4,fun k hk _ hcase=>?_⟩
 ·refine ⟨fun k o ho=>?_,fun b b' k h1 h2=>?_,fun b hb=>?_,fun b k hb=>?_,fun k hk=>?_,fun b b' k i h1 h2=>?_,fun b k hb=>?_,fun k i hk=>?_⟩
  ·cases hk:σ k with
   |none=>
    have ho':zi sto k=some o:=by rw [←ag2 k hk];exact ho
    obtain ⟨g1,g2⟩:=hr.sto k o ho'
    refine ⟨g1,g2.mono hkp g1 (fun b hb=>?_) (by simp [L.zY,hk]) (fun b i hb=>?_) (fun b i hb=>?_) (fun i=>by simp [L.zY,hk])⟩
    ·obtain ⟨fr,q1,q2,_⟩:=hheap (b:=b) (by unfold L.hid;rw [hb];simp [hk]);exact q2
    ·obtain ⟨fr,q1,q2,_⟩:=hheap (b:=b) (by unfold L.hid;rw [hb];simp [hk]);exact q2
    ·cases hh:Λ.hid σ b with
     |true=>rw [hH hh] at hb;exact hb
     |false=>obtain ⟨j,e1,e2⟩:=hseenF hh (.inl ⟨i,hb⟩);rw [←e1,hn.at_ j e2] at hk;cases hk
   |some j=>
    obtain ⟨e1,e2⟩:=hn.inv k j hk;subst e1;have ho':zi (Zj sto (out.ob.map fun e=>(ρ e.1,e.2.ren ρ))) (ρ j)=some o:=ho;rw [ag1 j e2,Option.map_eq_some_iff] at ho';obtain ⟨o1,a1,rfl⟩:=ho';obtain ⟨g1,g2⟩:=k3.sto j o1 a1;refine ⟨hρ e2,?_⟩
    cases o1 with
    |cells cs=>
     obtain ⟨b,arr,e,e1,e2,e3,e4⟩:=g2
     refine ⟨b,arr,e,hobj e1,e2,by rw [V.y7];simpa using e3,fun i v c a1 a2=>?_⟩
     rw [V.y7,List.getElem?_map,Option.map_eq_some_iff] at a2;obtain ⟨c',a3,rfl⟩:=a2;exact hval (e4 i v c' a1 a3)
    |map kag es sx=>
     obtain ⟨b,ents,clock,e1,e2,e3⟩:=g2
     refine ⟨b,ents,clock,hobj e1,e2,⟨by simpa using e3.size,fun i e kv a1 a2=>?_,e3.born,e3.apart,e3.known⟩⟩
     rw [List.getElem?_map,Option.map_eq_some_iff] at a2;obtain ⟨kv',a3,rfl⟩:=a2;obtain ⟨q1,q2⟩:=e3.at_ i e kv' a1 a3;exact ⟨q1.yq fun _ _ h=>hrep h,hval q2⟩
    |arr n'=>
     unfold W5 at*;simp only [z3.ren];rw [hfro e2];exact g2
    |iter q s seen c=>
     obtain ⟨b,bm,a1,a2,a3,a4⟩:=g2;exact ⟨b,bm,hobj a1,a2,hobj a3,hρ (by omega)⟩
    |gro ver cs=>
     obtain ⟨q0,q⟩:=g2
     refine ⟨by rw [hfrf e2];exact q0,?_⟩
     rw [V.y7]
     rcases q with ⟨e3,e4⟩|⟨b,arr,e,e3,e4,e5,e6⟩
     ·exact .inl ⟨by simp [e3],fun b i hb=>e4 b i (hinvF (hn.at_ j e2) hb)⟩
     ·refine .inr ⟨b,arr,e,hcur e2 e3,e4,by simpa using e5,fun i v c a1 a2=>?_⟩
      rw [List.getElem?_map,Option.map_eq_some_iff] at a2;obtain ⟨c',a3,rfl⟩:=a2;exact hval (e6 i v c' a1 a3)
    |yJ os=>
     obtain ⟨q0,q⟩:=g2
     refine ⟨fun b i hb=>by simpa using q0 b i (hinvF (hn.at_ j e2) hb),fun i cs hi=>?_⟩
     rw [List.getElem?_map,Option.map_eq_some_iff] at hi;obtain ⟨cs',hi,rfl⟩:=hi;obtain ⟨b,arr,e,e3,e4,e5,e6⟩:=q i cs' hi
     refine ⟨b,arr,e,hfob e3,e4,by rw [V.y7];simpa using e5,fun i v c a1 a2=>?_⟩
     rw [V.y7,List.getElem?_map,Option.map_eq_some_iff] at a2;obtain ⟨c',a3,rfl⟩:=a2;exact hval (e6 i v c' a1 a3)
    |yh ns=>exact fun i=>(hfrf e2).trans (g2 i)
    |zP kag I=>
     obtain ⟨b,ents,clock,e3,e4,e5,e6,e7⟩:=g2;refine ⟨b,ents,clock,hobj e3,e4,e5,e6,fun i e hi=>?_⟩;obtain ⟨cs,v,q1,q2,q3⟩:=e7 i e hi;exact ⟨cs,v,q1.yq fun _ _ h=>hrep h,hrep q2,q3⟩
    |abs J=>exact ⟨g2.1,(hfrf e2).trans g2.2.1,g2.1 _ _ _ _ _ _ (fun _ _ h=>hrep h) (fun b i=>⟨fun h=>hfob h,fun h=>hinvF (hn.at_ j e2) h⟩) (fun _ _ _=>rfl) g2.2.2⟩
  ·cases hh:Λ.hid σ b with
   |true=>
    obtain ⟨q1,q2⟩:=hname hh (.inl h1)
    cases hh':Λ.hid σ b' with
    |true=>
     rw [hH hh] at h1;rw [hH hh'] at h2;exact hr.inj b b' k h1 h2
    |false=>
     obtain ⟨j,e1,e2,_⟩:=hseen hh' (.inl h2);rw [←e1,hn.at_ j e2] at q1;cases q1
   |false=>
    obtain ⟨j,e1,e2,_⟩:=hseen hh (.inl h1)
    cases hh':Λ.hid σ b' with
    |true=>
     obtain ⟨q1,_⟩:=hname hh' (.inl h2);rw [←e1,hn.at_ j e2] at q1;cases q1
    |false=>
     rw [hL hh] at h1;rw [hL hh'] at h2
     cases hl:Λ'.lab b<;>rw [hl] at h1<;>simp [Lab.ren] at h1
     cases hl':Λ'.lab b'<;>rw [hl'] at h2<;>simp [Lab.ren] at h2
     rename_i j1 j2;have b1:=k3.bnd b j1 (.inl hl);have b2:=k3.bnd b' j2 (.inl hl');have c1:=hn.at_ j1 (by omega);have c2:=hn.at_ j2 (by omega);rw [h1] at c1;rw [h2,c1] at c2;simp at c2;subst c2;exact k3.inj b b' j1 hl hl'
  ·have hge:Λ.w.heap.size<=b:=Nat.le_trans k1.fr.size hb;rw [hL (hfix (hr.new b hge)),k3.new b hb];rfl
  ·show k<Λ.nxt
   cases hh:Λ.hid σ b with
   |true=>exact hr.bnd b k (hname hh hb).2
   |false=>obtain ⟨j,rfl,e2,_⟩:=hseen hh hb;exact hρ e2
  ·have hk':Λ.nxt<=k:=hk
   cases hs:σ k with
   |none=>simp only [L.zY,hs];exact hr.frz k hk'
   |some j=>obtain ⟨rfl,e2⟩:=hn.inv k j hs;have:=hρ e2;omega
  ·cases hk:σ k with
   |some j=>exact k3.YO b b' j i (hinvF hk h1) (hinvF hk h2)
   |none=>
    have hd:∀{b:Nat},(Λ.zY ρ σ Λ').lab b= .fob k i->Λ.lab b= .fob k i:=by
     intro b hb
     cases hh:Λ.hid σ b with
     |true=>rw [hH hh] at hb;exact hb
     |false=>obtain ⟨j,e1,e2⟩:=hseenF hh (.inl ⟨i,hb⟩);rw [←e1,hn.at_ j e2] at hk;cases hk
    exact hr.YO b b' k i (hd h1) (hd h2)
  ·show k<Λ.nxt
   cases hh:Λ.hid σ b with
   |true=>rw [hH hh] at hb;exact hr.YM b k hb
   |false=>obtain ⟨j,rfl,e2⟩:=hseenF hh hb;exact hρ e2
  ·have hk':Λ.nxt<=k:=hk
   cases hs:σ k with
   |none=>simp only [L.zY,hs];exact hr.z0H k i hk'
   |some j=>obtain ⟨rfl,e2⟩:=hn.inv k j hs;have:=hρ e2;omega
 ·have hge:m+out.n<=k:=by
   rcases hcase with h|⟨_,h⟩
   ·exact h
   ·cases h
  have hs0:σ k=none:=by
   cases hs:σ k with
   |none=>rfl
   |some j=>
    obtain ⟨rfl,e2⟩:=hn.inv k j hs;by_cases h1:j<m1
    ·have:=hn.low j h1;omega
    ·have:=hn.new j (by omega) e2;omega
  refine ⟨fun b hb=>?_,fun b n hb=>?_,by simp only [L.zY,hs0];exact hk.fro,fun b i hb=>?_,fun b i n hb=>?_,fun i=>by simp only [L.zY,hs0];exact hk.frf i⟩
  ·cases hh:Λ.hid σ b with
   |true=>rw [hH hh] at hb;exact hk.obj b hb
   |false=>obtain ⟨j,e1,e2,_⟩:=hseen hh (.inl hb);rw [←e1,hn.at_ j e2] at hs0;cases hs0
  ·cases hh:Λ.hid σ b with
   |true=>rw [hH hh] at hb;exact hk.arr b n hb
   |false=>obtain ⟨j,e1,e2,_⟩:=hseen hh (.inr ⟨n,hb⟩);rw [←e1,hn.at_ j e2] at hs0;cases hs0
  ·cases hh:Λ.hid σ b with
   |true=>rw [hH hh] at hb;exact hk.fob b i hb
   |false=>obtain ⟨j,e1,e2⟩:=hseenF hh (.inl ⟨i,hb⟩);rw [←e1,hn.at_ j e2] at hs0;cases hs0
  ·cases hh:Λ.hid σ b with
   |true=>rw [hH hh] at hb;exact hk.far b i n hb
   |false=>obtain ⟨j,e1,e2⟩:=hseenF hh (.inr ⟨i,n,hb⟩);rw [←e1,hn.at_ j e2] at hs0;cases hs0
end
end Go.GB
