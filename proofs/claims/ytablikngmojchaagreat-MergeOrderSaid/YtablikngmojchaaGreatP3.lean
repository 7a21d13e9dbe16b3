/-
  YtablikngmojchaaGreatP3: lemmas. No conditions.
-/
import Derived.Test.YtablikngmojchaaGreatP2
set_option linter.all false
set_option maxRecDepth 100000
set_option maxHeartbeats 16000000
/-
  C24Code: the code of chapter 24's functions as abstract code (printed by program).
-/
namespace Go.GB.K
abbrev m (d x : Nat) : AO := ⟨some d, none, .mv (.s x)⟩
abbrev f (d k x : Nat) : AO := ⟨some d, none, .fa k (.s x)⟩
abbrev l (d x : Nat) : AO := ⟨some d, none, .ld false 1 (.s x)⟩
abbrev jL (d n x : Nat) : AO := ⟨some d, none, .ld true n (.s x)⟩
abbrev n (d x : Nat) : AO := ⟨some d, none, .z5L (.s x)⟩
abbrev i (d z x y : Nat) : AO := ⟨some d, none, .ia z (.s x) (.s y)⟩
abbrev e (d x : Nat) : AO := ⟨some d, none, .len (.s x)⟩
abbrev x (d s k : Nat) : AO := ⟨some d, none, .ext (.s s) k⟩
abbrev o (d : Nat) (p : AOp) : AO := ⟨some d, none, p⟩
abbrev jO (p : AOp) : AO := ⟨none, none, p⟩
abbrev b (d : Nat) (p : BinOp) (x y : Nat) : AO := ⟨some d, none, .bin p (.s x) (.s y)⟩
abbrev jB (d : Nat) (p : BinOp) (x : Nat) (y : Int) : AO := ⟨some d, none, .bin p (.s x) (.c (.t (.int .i64 y)))⟩
abbrev p (d c a : Nat) : AO := ⟨some d, none, .pick (.s c) (.s a) (.c (.t (.bool false)))⟩
abbrev q (d c a : Nat) : AO := ⟨some d, none, .pick (.s c) (.c (.t (.bool true))) (.s a)⟩
abbrev u (d x : Nat) : AO := ⟨some d, none, .un .not (.s x)⟩
abbrev jI (d : Nat) (k : Int) : AO := ⟨some d, none, .cst (.t (.int .i64 k))⟩
abbrev gm (d g : Nat) (x : Nat) : AO := ⟨some d, some (g, true), .mv (.s x)⟩
abbrev hm (d g : Nat) (x : Nat) : AO := ⟨some d, some (g, false), .mv (.s x)⟩
abbrev gf (d g : Nat) (k x : Nat) : AO := ⟨some d, some (g, true), .fa k (.s x)⟩
abbrev hf (d g : Nat) (k x : Nat) : AO := ⟨some d, some (g, false), .fa k (.s x)⟩
abbrev gl (d g : Nat) (x : Nat) : AO := ⟨some d, some (g, true), .ld false 1 (.s x)⟩
abbrev hl (d g : Nat) (x : Nat) : AO := ⟨some d, some (g, false), .ld false 1 (.s x)⟩
abbrev gL (d g : Nat) (n x : Nat) : AO := ⟨some d, some (g, true), .ld true n (.s x)⟩
abbrev hL (d g : Nat) (n x : Nat) : AO := ⟨some d, some (g, false), .ld true n (.s x)⟩
abbrev gi (d g : Nat) (z x y : Nat) : AO := ⟨some d, some (g, true), .ia z (.s x) (.s y)⟩
abbrev hi (d g : Nat) (z x y : Nat) : AO := ⟨some d, some (g, false), .ia z (.s x) (.s y)⟩
abbrev ge (d g : Nat) (x : Nat) : AO := ⟨some d, some (g, true), .len (.s x)⟩
abbrev he (d g : Nat) (x : Nat) : AO := ⟨some d, some (g, false), .len (.s x)⟩
abbrev go (d g : Nat) (p : AOp) : AO := ⟨some d, some (g, true), p⟩
abbrev ho (d g : Nat) (p : AOp) : AO := ⟨some d, some (g, false), p⟩
abbrev gb (d g : Nat) (p : BinOp) (x y : Nat) : AO := ⟨some d, some (g, true), .bin p (.s x) (.s y)⟩
abbrev hb (d g : Nat) (p : BinOp) (x y : Nat) : AO := ⟨some d, some (g, false), .bin p (.s x) (.s y)⟩
abbrev gB (d g : Nat) (p : BinOp) (x : Nat) (y : Int) : AO := ⟨some d, some (g, true), .bin p (.s x) (.c (.t (.int .i64 y)))⟩
abbrev hB (d g : Nat) (p : BinOp) (x : Nat) (y : Int) : AO := ⟨some d, some (g, false), .bin p (.s x) (.c (.t (.int .i64 y)))⟩
abbrev jR (p : List AO) (l : List Nat) : zL := .region false p [] l
abbrev jD (p : List AO) (a : List (List Nat)) (l : List Nat) : zL := .region true p a l
abbrev jS (a b : zL) : zL := .seq a b
abbrev jX (p : List AO) (l : List Nat) : zL := .seq (.region false p [] l) .ret
abbrev jC (t : Nat) (a b : zL) : zL := .cond (.s t) a b
abbrev jN (k : Int) : V := .t (.int .i64 k)
end Go.GB.K
namespace Go.GB
open K
def c3_0:zL:=jX [m 25 4,e 26 25,jB 27 .eql 26 0,m 28 27,gm 29 28 6,ge 30 28 29,gB 31 28 .eql 30 0,p 32 28 31,m 33 32,gf 34 33 0 3,gl 35 33 34,ge 36 33 35,gf 37 33 1 1,gf 38 33 0 37,gl 39 33 38,ge 40 33 39,gb 41 33 .eql 36 40,p 42 33 41,m 43 42,gL 44 43 1 3,gL 45 43 1 5,go 46 43 (.call 11 [(.s 44),(.s 45)]),p 47 43 46,m 48 47,go 49 48 (.call 9 []),p 50 48 49,m 2 50] [2]
def c3_1:zL:=jS (jR [jL 19 2 1,jL 20 2 1,o 21 (.bsl true 2 [[.str [],.lst []],[.str [],.lst []]] [(0,(.s 19)),(1,(.s 20))]),o 22 (.call 10 [(.s 21)]),m 18 22,x 23 18 0,x 24 18 1,o 5 (.alloc [.zC]),jO (.st 1 (.s 5) (.s 23)),m 6 24] [1,3,4,5,6]) c3_0
def c3_2:zL:=jS (jR [jL 13 2 1,o 14 (.bsl true 2 [[.str [],.lst []]] [(0,(.s 13))]),o 15 (.call 10 [(.s 14)]),m 12 15,x 16 12 0,x 17 12 1,o 3 (.alloc [.zC]),jO (.st 1 (.s 3) (.s 16)),m 4 17] [1,3,4]) c3_1
def c3_5:zL:=jS (jS (jR [jL 7 2 1,o 8 (.bsl true 2 [[.str [],.lst []]] [(0,(.s 7))]),o 9 (.call 8 [(.s 8)]),u 10 9] [1,10]) (jC 10 (jX [o 11 (.call 9 []),m 2 11] [2]) .skip)) c3_2
def c3:zL:=jS (jR [o 1 (.box 2 (.s 0)),o 2 (.cst (.t (.bool false)))] [1]) c3_5
def r3:List Qh:=[.tmp 2]
def n3:Nat:=51
def c4_1:zL:=jR [m 31 5,jB 32 .add 31 1,m 5 32] [0,3,4,5]
def c4_2:zL:=jR [m 42 6,jB 43 .add 42 1,m 6 43] [0,3,4,5,6]
def c4_5:zL:=jS (jR [m 92 9,u 93 92,m 94 93,hf 95 94 0 8,hl 96 94 95,hf 97 94 0 7,hl 98 94 97,hb 99 94 .neq 96 98,q 100 94 99] [0,3,4,5,6,100]) (jC 100 (jX [o 2 (.cst (.t (.bool false)))] [2]) .skip)
def c4_6:zL:=jR [m 65 10,jB 66 .add 65 1,m 10 66] [0,3,4,5,6,7,8,9,10]
def c4_9:zL:=jS (jD [m 78 12,u 79 78,m 80 79,hf 81 80 4 7,hl 82 80 81,hm 83 80 10,hi 84 80 5 82 83,hf 85 80 2 84,hL 86 80 2 85,hf 87 80 2 11,hL 88 80 2 87,ho 89 80 (.call 14 [(.s 86),(.s 88)]),ho 90 80 (.un .not (.s 89)),q 91 80 90] [[],[0],[1],[2],[3,2],[2],[4,5,2],[6,2],[7,2],[2],[9,2],[8,10,2,2],[11,2],[2,12]] [0,3,4,5,6,7,8,9,10,91]) (jC 91 (jX [o 2 (.cst (.t (.bool false)))] [2]) .skip)
def c4_10:zL:=jS (jD [jL 68 7 8,f 69 4 7,l 70 69,m 71 10,i 72 5 70 71,f 73 0 72,l 74 73,o 75 (.call 13 [(.s 68),(.s 74)]),m 67 75,x 76 67 0,x 77 67 1,o 11 (.alloc [.t (.str []),.zC,.t (.str []),.zC,.zC]),jO (.st 5 (.s 11) (.s 76)),m 12 77] [[],[],[1],[],[2,3],[4],[5],[0,6],[7],[8],[8],[],[11,9,7,0,1,2,3,4,5,6,7,8,9,11],[10,12,0,1,2,3,4,5,6,7,8,9,10,11,12]] [0,3,4,5,6,7,8,9,10,11,12]) c4_9
def c4_13:zL:=jS (jS (jR [m 60 10,f 61 4 7,l 62 61,e 63 62,b 64 .lss 60 63] [0,3,4,5,6,7,8,9,10,64]) (jC 64 .skip (.exit 4))) (jS (.block 5 c4_10) c4_6)
def c4_16:zL:=jS (jS (jR [jI 10 0] [0,3,4,5,6,7,8,9,10]) (.block 4 (.loop c4_13))) c4_5
def c4_17:zL:=jS (jR [jL 54 1 3,f 55 1 7,l 56 55,o 57 (.call 12 [(.s 54),(.s 56)]),m 53 57,x 58 53 0,x 59 53 1,o 8 (.alloc [jN 0,.t (.str []),.zC,.zC,.zC,.zC,.zC]),jO (.st 7 (.s 8) (.s 58)),m 9 59] [0,3,4,5,6,7,8,9]) c4_16
def c4_18:zL:=jS (jR [m 44 0,m 45 5,i 46 2 44 45,f 47 1 46,f 48 0 47,l 49 48,m 50 6,i 51 7 49 50,jL 52 7 51,o 7 (.alloc [jN 0,.t (.str []),.zC,.zC,.zC,.zC,.zC]),jO (.st 7 (.s 7) (.s 52))] [0,3,4,5,6,7]) c4_17
def c4_21:zL:=jS (jS (jR [m 33 6,m 34 0,m 35 5,i 36 2 34 35,f 37 1 36,f 38 0 37,l 39 38,e 40 39,b 41 .lss 33 40] [0,3,4,5,6,41]) (jC 41 .skip (.exit 2))) (jS (.block 3 c4_18) c4_2)
def c4_27:zL:=jS (jS (jR [m 22 5,m 23 0,e 24 23,b 25 .lss 22 24,m 26 25,gm 27 26 4,ge 28 26 27,gB 29 26 .eql 28 0,p 30 26 29] [0,3,4,5,30]) (jC 30 .skip (.exit 0))) (jS (.block 1 (jS (jR [jI 6 0] [0,3,4,5,6]) (.block 2 (.loop c4_21)))) c4_1)
def c4_31:zL:=jS (jR [m 18 0,o 19 (.call 10 [(.s 18)]),m 17 19,x 20 17 0,x 21 17 1,o 3 (.alloc [.zC]),jO (.st 1 (.s 3) (.s 20)),m 4 21] [0,3,4]) (jS (jS (jR [jI 5 0] [0,3,4,5]) (.block 0 (.loop c4_27))) (jX [o 101 (.call 9 []),m 2 101] [2]))
def c4_34:zL:=jS (jS (jR [m 13 0,o 14 (.call 8 [(.s 13)]),u 15 14] [0,15]) (jC 15 (jX [o 16 (.call 9 []),m 2 16] [2]) .skip)) c4_31
def c4:zL:=jS (jR [o 2 (.cst (.t (.bool false)))] [0]) c4_34
def r4:List Qh:=[.tmp 2]
def n4:Nat:=102
def c7_0:zL:=jX [m 37 6,e 38 37,jB 39 .eql 38 0,m 40 8,e 41 40,jB 42 .eql 41 0,o 43 (.eqb false (.s 39) (.s 42)),m 44 43,gL 45 44 1 5,gL 46 44 1 7,go 47 44 (.call 21 [(.s 45),(.s 46)]),p 48 44 47,m 49 48,gL 50 49 1 7,gL 51 49 1 5,go 52 49 (.call 21 [(.s 50),(.s 51)]),p 53 49 52,m 54 53,go 55 54 (.call 9 []),p 56 54 55,m 2 56] [2]
def c7_1:zL:=jS (jR [m 33 3,o 34 (.call 10 [(.s 33)]),m 32 34,x 35 32 0,x 36 32 1,o 7 (.alloc [.zC]),jO (.st 1 (.s 7) (.s 35)),m 8 36] [5,6,7,8]) c7_0
def c7_2:zL:=jS (jR [m 28 0,o 29 (.call 10 [(.s 28)]),m 27 29,x 30 27 0,x 31 27 1,o 5 (.alloc [.zC]),jO (.st 1 (.s 5) (.s 30)),m 6 31] [3,5,6]) c7_1
def c7_4:zL:=jR [m 20 3,m 21 0,m 22 4,i 23 2 21 22,jL 24 2 23,o 25 (.bsl false 2 [[.str [],.lst []]] [(0,(.s 24))]),o 26 (.app 2 40 (.s 20) (.s 25)),m 3 26] [0,3,4]
def c7_7:zL:=jS (jS (jR [m 16 4,jB 17 .geq 16 0] [0,3,4,17]) (jC 17 .skip (.exit 0))) (jS (.block 1 c7_4) (jR [m 18 4,jB 19 .sub 18 1,m 4 19] [0,3,4]))
def c7_10:zL:=jS (jS (jR [m 13 0,e 14 13,jB 15 .sub 14 1,m 4 15] [0,3,4]) (.block 0 (.loop c7_7))) c7_2
def c7_14:zL:=jS (jS (jR [m 9 0,o 10 (.call 8 [(.s 9)]),u 11 10] [0,11]) (jC 11 (jX [o 12 (.call 9 []),m 2 12] [2]) .skip)) (jS (jR [o 3 (.cst (.zC))] [0,3]) c7_10)
def c7:zL:=jS (jR [o 2 (.cst (.t (.bool false)))] [0]) c7_14
def r7:List Qh:=[.tmp 2]
def n7:Nat:=57
def c8_0:zL:=jX [m 49 0,e 50 49,jB 51 .leq 50 8,m 2 51] [2]
def c8_4:zL:=jS (jR [m 14 0,m 15 3,i 16 2 14 15,f 17 1 16,jL 18 1 17,o 19 (.call 22 [(.s 18)]),m 20 19,hm 21 20 0,hm 22 20 3,hi 23 20 2 21 22,hf 24 20 1 23,hL 25 20 1 24,ho 26 20 (.call 23 [(.s 25)]),ho 27 20 (.un .not (.s 26)),q 28 20 27,m 29 28,hm 30 29 0,hm 31 29 3,hi 32 29 2 30 31,hf 33 29 1 32,hL 34 29 1 33,ho 35 29 (.call 24 [(.s 34),(.c (.t (.bool false)))]),he 36 29 35,hB 37 29 .gtr 36 0,q 38 29 37,m 39 38,hm 40 39 0,hm 41 39 3,hi 42 39 2 40 41,hf 43 39 1 42,hL 44 39 1 43,ho 45 39 (.call 25 [(.s 44)]),he 46 39 45,hB 47 39 .gtr 46 0,q 48 39 47] [0,3,48]) (jC 48 (jX [o 2 (.cst (.t (.bool false)))] [2]) .skip)
def c8_7:zL:=jS (jS (jR [m 4 3,m 5 0,e 6 5,b 7 .lss 4 6,m 8 7,gm 9 8 3,gB 10 8 .lss 9 9,p 11 8 10] [0,3,11]) (jC 11 .skip (.exit 0))) (jS (.block 1 c8_4) (jR [m 12 3,jB 13 .add 12 1,m 3 13] [0,3]))
def c8:zL:=jS (jR [o 2 (.cst (.t (.bool false)))] [0]) (jS (jS (jR [jI 3 0] [0,3]) (.block 0 (.loop c8_7))) c8_0)
def r8:List Qh:=[.tmp 2]
def n8:Nat:=52
def c9_0:zL:=jS (jD [f 81 0 6,l 82 81,o 83 (.ia 7 (.s 82) (.c (jN 0))),jL 84 7 83,o 85 (.call 27 [(.c (.t (.str [105,100]))),(.c (.zC))]),o 86 (.call 27 [(.c (.t (.str [110,97,109,101]))),(.c (.zC))]),o 87 (.bsl true 5 [[.str [],.lst [],.str [],.lst [],.lst []],[.str [],.lst [],.str [],.lst [],.lst []]] [(0,(.s 85)),(1,(.s 86))]),o 88 (.call 26 [(.c (.t (.str [85,115,101,114]))),(.s 87)]),o 89 (.call 19 [(.s 84),(.s 88)]),m 90 89,gm 91 90 9,go 92 90 (.build [jN 0,.t (.str [])] [(0,1,(.c (jN 45))),(1,1,(.c (.t (.str [69,46,66]))))]),go 93 90 (.bsl true 2 [[.int .i64 0,.str []]] [(0,(.s 92))]),go 94 90 (.call 18 [(.s 91),(.s 93)]),p 95 90 94,m 0 95] [[],[0],[1],[2],[],[4],[4,5],[6,5],[3,7,7],[8,8],[9],[9],[11,9],[10,12,9,9],[9,13],[14,13,0,1,2,3,4,5,6,7,8,9,10,11,12,13,14]] [0]) .ret
def c9_3:zL:=jS (jS (jD [m 58 2,e 59 58,jB 60 .gtr 59 0,m 61 60,hL 62 61 7 1,ho 63 61 (.call 27 [(.c (.t (.str [120]))),(.c (.zC))]),ho 64 61 (.call 27 [(.c (.t (.str [121]))),(.c (.zC))]),ho 65 61 (.bsl true 5 [[.str [],.lst [],.str [],.lst [],.lst []],[.str [],.lst [],.str [],.lst [],.lst []]] [(0,(.s 63)),(1,(.s 64))]),ho 66 61 (.call 26 [(.c (.t (.str [84]))),(.s 65)]),ho 67 61 (.call 19 [(.s 62),(.s 66)]),ho 68 61 (.un .not (.s 67)),q 69 61 68,m 70 69,hm 71 70 7,he 72 70 71,hB 73 70 .gtr 72 0,q 74 70 73,m 75 74,hf 76 75 0 6,hl 77 75 76,he 78 75 77,hB 79 75 .neq 78 2,q 80 75 79] [[],[0],[1],[2],[3],[3,3],[5,3],[5,6,3],[7,6,3],[4,8,8,3],[9,3],[3,10],[11,9],[12],[13,12],[14,12],[12,15],[16,12],[17],[18,17],[19,17],[20,17],[17,21]] [6,9,80]) (jC 80 (jX [o 0 (.cst (.t (.bool false)))] [0]) .skip)) c9_0
def c9_4:zL:=jS (jR [jL 52 2 3,jL 53 2 5,o 54 (.bsl true 2 [[.str [],.lst []],[.str [],.lst []]] [(0,(.s 52)),(1,(.s 53))]),o 55 (.call 10 [(.s 54)]),m 51 55,x 56 51 0,x 57 51 1,o 8 (.alloc [.zC]),jO (.st 1 (.s 8) (.s 56)),m 9 57] [1,2,6,7,9]) c9_3
def c9_5:zL:=jS (jR [jL 45 2 3,jL 46 2 4,o 47 (.bsl true 2 [[.str [],.lst []],[.str [],.lst []]] [(0,(.s 45)),(1,(.s 46))]),o 48 (.call 10 [(.s 47)]),m 44 48,x 49 44 0,x 50 44 1,o 6 (.alloc [.zC]),jO (.st 1 (.s 6) (.s 49)),m 7 50] [1,2,3,5,6,7]) c9_4
def c9_6:zL:=jS (jR [o 37 (.build [.t (.str []),.zC] [(0,1,(.c (.t (.str [65]))))]),o 38 (.build [.t (.str []),.zC] [(0,1,(.c (.t (.str [66]))))]),o 39 (.bsl true 2 [[.str [],.lst []],[.str [],.lst []]] [(0,(.s 37)),(1,(.s 38))]),o 40 (.build [jN 0,.t (.str []),.zC,.zC,.zC,.zC,.zC] [(0,1,(.c (jN 4))),(1,1,(.c (.t (.str [69])))),(5,1,(.s 39))]),o 41 (.bsl true 7 [[.int .i64 0,.str [],.lst [],.lst [],.lst [],.lst [],.lst []]] [(0,(.s 40))]),o 42 (.build [.zC] [(0,1,(.s 41))]),o 43 (.build [.t (.str []),.zC] [(0,1,(.c (.t (.str [99])))),(1,1,(.s 42))]),o 5 (.alloc [.t (.str []),.zC]),jO (.st 2 (.s 5) (.s 43))] [1,2,3,4,5]) c9_5
def c9_7:zL:=jS (jR [o 31 (.call 27 [(.c (.t (.str [110,97,109,101]))),(.c (.zC))]),o 32 (.bsl true 5 [[.str [],.lst [],.str [],.lst [],.lst []]] [(0,(.s 31))]),o 33 (.call 26 [(.c (.t (.str [85,115,101,114]))),(.s 32)]),o 34 (.bsl true 7 [[.int .i64 0,.str [],.lst [],.lst [],.lst [],.lst [],.lst []]] [(0,(.s 33))]),o 35 (.build [.zC] [(0,1,(.s 34))]),o 36 (.build [.t (.str []),.zC] [(0,1,(.c (.t (.str [98])))),(1,1,(.s 35))]),o 4 (.alloc [.t (.str []),.zC]),jO (.st 2 (.s 4) (.s 36))] [1,2,3,4]) c9_6
def c9_8:zL:=jS (jR [o 22 (.call 27 [(.c (.t (.str [105,100]))),(.c (.zC))]),o 23 (.bsl true 5 [[.str [],.lst [],.str [],.lst [],.lst []]] [(0,(.s 22))]),o 24 (.call 26 [(.c (.t (.str [85,115,101,114]))),(.s 23)]),o 25 (.build [.t (.str []),.zC] [(0,1,(.c (.t (.str [65]))))]),o 26 (.bsl true 2 [[.str [],.lst []]] [(0,(.s 25))]),o 27 (.build [jN 0,.t (.str []),.zC,.zC,.zC,.zC,.zC] [(0,1,(.c (jN 4))),(1,1,(.c (.t (.str [69])))),(5,1,(.s 26))]),o 28 (.bsl true 7 [[.int .i64 0,.str [],.lst [],.lst [],.lst [],.lst [],.lst []],[.int .i64 0,.str [],.lst [],.lst [],.lst [],.lst [],.lst []]] [(0,(.s 24)),(1,(.s 27))]),o 29 (.build [.zC] [(0,1,(.s 28))]),o 30 (.build [.t (.str []),.zC] [(0,1,(.c (.t (.str [97])))),(1,1,(.s 29))]),o 3 (.alloc [.t (.str []),.zC]),jO (.st 2 (.s 3) (.s 30))] [1,2,3]) c9_7
def c9_9:zL:=jS (jR [o 11 (.bsl true 1 [[.int .i64 0]] [(0,(.c (jN 1)))]),o 12 (.call 27 [(.c (.t (.str [120]))),(.s 11)]),o 13 (.bsl true 5 [[.str [],.lst [],.str [],.lst [],.lst []]] [(0,(.s 12))]),o 14 (.call 26 [(.c (.t (.str [84]))),(.s 13)]),o 15 (.call 27 [(.c (.t (.str [120]))),(.c (.zC))]),o 16 (.call 27 [(.c (.t (.str [121]))),(.c (.zC))]),o 17 (.bsl true 5 [[.str [],.lst [],.str [],.lst [],.lst []],[.str [],.lst [],.str [],.lst [],.lst []]] [(0,(.s 15)),(1,(.s 16))]),o 18 (.call 26 [(.c (.t (.str [84]))),(.s 17)]),o 19 (.call 16 [(.s 14),(.s 18)]),m 10 19,x 20 10 0,x 21 10 1,o 1 (.alloc [jN 0,.t (.str []),.zC,.zC,.zC,.zC,.zC]),jO (.st 7 (.s 1) (.s 20)),m 2 21] [1,2]) c9_8
def c9:zL:=jS (jR [o 0 (.cst (.t (.bool false)))] []) c9_9
def r9:List Qh:=[.tmp 0]
def n9:Nat:=96
def c10_0:zL:=jX [jL 95 1 4,jO (.st 1 (.s 2) (.s 95)),o 3 (.cst (.zC))] [2,3]
def c10_1:zL:=jX [o 93 (.build [.zC] []),m 94 5,jO (.st 1 (.s 2) (.s 93)),m 3 94] [2,3]
def c10_3:zL:=jS (jS (jR [m 90 5,e 91 90,jB 92 .gtr 91 0] [2,4,5,92]) (jC 92 c10_1 .skip)) c10_0
def c10_4:zL:=jR [m 87 0,jL 88 1 4,o 89 (.call 30 [(.s 87),(.s 88)]),m 5 89] [2,4,5]
def c10_6:zL:=jS (jS (jR [m 84 5,e 85 84,jB 86 .eql 85 0] [0,2,4,5,86]) (jC 86 c10_4 .skip)) c10_3
def c10_7:zL:=jR [jB 83 .add 21 1,m 21 83] [0,2,4,5,19,20,21]
def c10_8:zL:=jR [jB 82 .add 30 1,m 30 82] [0,2,4,5,6,19,20,21,28,29,30]
def c10_9:zL:=jR [f 76 0 4,l 77 76,jL 78 7 12,o 79 (.bsl false 7 [[.int .i64 0,.str [],.lst [],.lst [],.lst [],.lst [],.lst []]] [(0,(.s 78))]),o 80 (.app 7 144 (.s 77) (.s 79)),f 81 0 4,jO (.st 1 (.s 81) (.s 80))] [0,2,4,5,6,19,20,21,28,29,30]
def c10_10:zL:=jR [jB 75 .add 49 1,m 49 75] [0,2,4,5,6,9,12,19,20,21,28,29,30,47,48,49]
def c10_11:zL:=jR [jL 74 7 17,jO (.st 7 (.s 12) (.s 74))] [0,2,4,5,6,9,12,19,20,21,28,29,30,47,48,49]
def c10_13:zL:=jS (jR [m 71 18,e 72 71,jB 73 .eql 72 0] [0,2,4,5,6,9,12,17,19,20,21,28,29,30,47,48,49,73]) (jC 73 c10_11 .skip)
def c10_14:zL:=jS (jR [m 68 5,m 69 18,o 70 (.app 2 24 (.s 68) (.s 69)),m 5 70] [0,2,4,5,6,9,12,17,18,19,20,21,28,29,30,47,48,49]) c10_13
def c10_15:zL:=jS (jR [jL 63 7 12,jL 64 7 15,o 65 (.call 16 [(.s 63),(.s 64)]),m 62 65,x 66 62 0,x 67 62 1,o 17 (.alloc [jN 0,.t (.str []),.zC,.zC,.zC,.zC,.zC]),jO (.st 7 (.s 17) (.s 66)),m 18 67] [0,2,4,5,6,9,12,17,18,19,20,21,28,29,30,47,48,49]) c10_14
def c10_17:zL:=jS (jR [m 61 16] [0,2,4,5,6,9,12,15,19,20,21,28,29,30,47,48,49,61]) (jC 61 c10_15 .skip)
def c10_18:zL:=jS (jR [f 54 1 14,jL 55 1 54,f 56 1 9,l 57 56,o 58 (.call 28 [(.s 55),(.s 57)]),m 53 58,x 59 53 0,x 60 53 1,o 15 (.alloc [jN 0,.t (.str []),.zC,.zC,.zC,.zC,.zC]),jO (.st 7 (.s 15) (.s 59)),m 16 60] [0,2,4,5,6,9,12,15,16,19,20,21,28,29,30,47,48,49]) c10_17
def c10_19:zL:=jS (jR [i 51 2 47 49,jL 52 2 51,o 14 (.alloc [.t (.str []),.zC]),jO (.st 2 (.s 14) (.s 52))] [0,2,4,5,6,9,12,14,19,20,21,28,29,30,47,48,49]) c10_18
def c10_22:zL:=jS (jR [b 50 .lss 49 48] [0,2,4,5,6,9,12,19,20,21,28,29,30,47,48,49,50]) (jS (jC 50 .skip (.exit 4)) (jS (.block 5 c10_19) c10_10))
def c10_25:zL:=jS (jS (jR [m 44 0,m 45 6,jB 46 .add 45 1,o 47 (.sll 2 (.s 44) (some (.s 46)) none),e 48 47,jI 49 0] [0,2,4,5,6,9,12,19,20,21,28,29,30,47,48,49]) (.block 4 (.loop c10_22))) c10_9
def c10_26:zL:=jS (jR [jL 42 7 9,o 43 (.call 29 [(.s 42)]),o 12 (.alloc [jN 0,.t (.str []),.zC,.zC,.zC,.zC,.zC]),jO (.st 7 (.s 12) (.s 43))] [0,2,4,5,6,9,12,19,20,21,28,29,30]) c10_25
def c10_28:zL:=jS (jR [m 41 11] [0,2,4,5,6,9,19,20,21,28,29,30,41]) (jC 41 (.exit 3) .skip)
def c10_29:zL:=jS (jS (jR [jL 35 1 4,f 36 1 9,l 37 36,o 38 (.call 28 [(.s 35),(.s 37)]),m 34 38,x 39 34 0,x 40 34 1,o 10 (.alloc [jN 0,.t (.str []),.zC,.zC,.zC,.zC,.zC]),jO (.st 7 (.s 10) (.s 39)),m 11 40] [0,2,4,5,6,9,11,19,20,21,28,29,30]) c10_28) c10_26
def c10_30:zL:=jS (jR [i 32 7 28 30,jL 33 7 32,o 9 (.alloc [jN 0,.t (.str []),.zC,.zC,.zC,.zC,.zC]),jO (.st 7 (.s 9) (.s 33))] [0,2,4,5,6,9,19,20,21,28,29,30]) c10_29
def c10_33:zL:=jS (jR [b 31 .lss 30 29] [0,2,4,5,6,19,20,21,28,29,30,31]) (jS (jC 31 .skip (.exit 2)) (jS (.block 3 c10_30) c10_8))
def c10_36:zL:=jS (jR [f 26 1 7,f 27 0 26,l 28 27,e 29 28,jI 30 0] [0,2,4,5,6,19,20,21,28,29,30]) (.block 2 (.loop c10_33))
def c10_37:zL:=jS (jR [m 23 21,i 24 2 19 21,jL 25 2 24,o 7 (.alloc [.t (.str []),.zC]),m 6 23,jO (.st 2 (.s 7) (.s 25))] [0,2,4,5,6,7,19,20,21]) c10_36
def c10_40:zL:=jS (jR [b 22 .lss 21 20] [0,2,4,5,19,20,21,22]) (jS (jC 22 .skip (.exit 0)) (jS (.block 1 c10_37) c10_7))
def c10_43:zL:=jS (jS (jR [m 19 0,e 20 19,jI 21 0] [0,2,4,5,19,20,21]) (.block 0 (.loop c10_40))) c10_6
def c10_44:zL:=jS (jR [o 5 (.cst (.zC))] [0,2,4,5]) c10_43
def c10_45:zL:=jS (jR [o 4 (.alloc [.zC])] [0,2,4]) c10_44
def c10:zL:=jS (jR [o 2 (.alloc [.zC]),o 3 (.cst (.zC))] [0,2]) c10_45
def r10:List Qh:=[.cell 2 true 1,.tmp 3]
def n10:Nat:=96
def c11_4:zL:=jS (jD [f 20 0 2,l 21 20,m 22 5,i 23 7 21 22,jL 24 7 23,f 25 0 3,l 26 25,m 27 5,i 28 7 26 27,jL 29 7 28,o 30 (.call 19 [(.s 24),(.s 29)]),u 31 30] [[],[0],[],[1,2],[3],[],[5],[],[6,7],[8],[4,9],[10]] [2,3,5,31]) (jC 31 (jX [o 4 (.cst (.t (.bool false)))] [4]) .skip)
def c11_7:zL:=jS (jS (jR [m 13 5,f 14 0 2,l 15 14,e 16 15,b 17 .lss 13 16] [2,3,5,17]) (jC 17 .skip (.exit 0))) (jS (.block 1 c11_4) (jR [m 18 5,jB 19 .add 18 1,m 5 19] [2,3,5]))
def c11_13:zL:=jS (jS (jR [f 6 0 2,l 7 6,e 8 7,f 9 0 3,l 10 9,e 11 10,b 12 .neq 8 11] [2,3,12]) (jC 12 (jX [o 4 (.cst (.t (.bool false)))] [4]) .skip)) (jS (jS (jR [jI 5 0] [2,3,5]) (.block 0 (.loop c11_7))) (jX [o 4 (.cst (.t (.bool true)))] [4]))
def c11:zL:=jS (jR [o 2 (.box 1 (.s 0)),o 3 (.box 1 (.s 1)),o 4 (.cst (.t (.bool false)))] [2,3]) c11_13
def r11:List Qh:=[.tmp 4]
def n11:Nat:=32
def c12_0:zL:=jX [o 27 (.build [jN 0,.t (.str []),.zC,.zC,.zC,.zC,.zC] []),jO (.st 7 (.s 4) (.s 27)),o 5 (.cst (.t (.bool false)))] [4,5]
def c12_1:zL:=jR [m 12 6,jB 13 .add 12 1,m 6 13] [1,2,4,6]
def c12_2:zL:=jX [f 22 0 2,l 23 22,m 24 6,i 25 7 23 24,jL 26 7 25,jO (.st 7 (.s 4) (.s 26)),o 5 (.cst (.t (.bool true)))] [4,5]
def c12_4:zL:=jS (jR [f 14 0 2,l 15 14,m 16 6,i 17 7 15 16,f 18 1 17,l 19 18,m 20 1,b 21 .eql 19 20] [1,2,4,6,21]) (jC 21 c12_2 .skip)
def c12_7:zL:=jS (jS (jR [m 7 6,f 8 0 2,l 9 8,e 10 9,b 11 .lss 7 10] [1,2,4,6,11]) (jC 11 .skip (.exit 0))) (jS (.block 1 c12_4) c12_1)
def c12:zL:=jS (jR [o 2 (.box 1 (.s 0)),o 4 (.alloc [jN 0,.t (.str []),.zC,.zC,.zC,.zC,.zC]),o 5 (.cst (.t (.bool false)))] [1,2,4]) (jS (jS (jR [jI 6 0] [1,2,4,6]) (.block 0 (.loop c12_7))) c12_0)
def r12:List Qh:=[.cell 4 true 7,.tmp 5]
def n12:Nat:=28
def c13_0:zL:=jX [o 27 (.build [.t (.str []),.zC,.t (.str []),.zC,.zC] []),jO (.st 5 (.s 4) (.s 27)),o 5 (.cst (.t (.bool false)))] [4,5]
def c13_1:zL:=jR [m 12 6,jB 13 .add 12 1,m 6 13] [1,2,4,6]
def c13_2:zL:=jX [f 22 4 2,l 23 22,m 24 6,i 25 5 23 24,jL 26 5 25,jO (.st 5 (.s 4) (.s 26)),o 5 (.cst (.t (.bool true)))] [4,5]
def c13_4:zL:=jS (jR [f 14 4 2,l 15 14,m 16 6,i 17 5 15 16,f 18 0 17,l 19 18,m 20 1,b 21 .eql 19 20] [1,2,4,6,21]) (jC 21 c13_2 .skip)
def c13_7:zL:=jS (jS (jR [m 7 6,f 8 4 2,l 9 8,e 10 9,b 11 .lss 7 10] [1,2,4,6,11]) (jC 11 .skip (.exit 0))) (jS (.block 1 c13_4) c13_1)
def c13:zL:=jS (jR [o 2 (.box 7 (.s 0)),o 4 (.alloc [.t (.str []),.zC,.t (.str []),.zC,.zC]),o 5 (.cst (.t (.bool false)))] [1,2,4]) (jS (jS (jR [jI 6 0] [1,2,4,6]) (.block 0 (.loop c13_7))) c13_0)
def r13:List Qh:=[.cell 4 true 5,.tmp 5]
def n13:Nat:=28
def c14_0:zL:=jX [m 13 6,m 14 13,gL 15 14 2 5,gL 16 14 2 3,go 17 14 (.call 32 [(.s 15),(.s 16)]),p 18 14 17,m 4 18] [4]
def c14_1:zL:=jS (jR [jL 8 2 2,jL 9 2 3,o 10 (.call 31 [(.s 8),(.s 9)]),m 7 10,x 11 7 0,x 12 7 1,o 5 (.alloc [.t (.str []),.zC]),jO (.st 2 (.s 5) (.s 11)),m 6 12] [3,5,6]) c14_0
def c14:zL:=jS (jR [o 2 (.box 2 (.s 0)),o 3 (.box 2 (.s 1)),o 4 (.cst (.t (.bool false)))] [2,3]) c14_1
def r14:List Qh:=[.tmp 4]
def n14:Nat:=19
def c16_0:zL:=jX [jL 97 7 7,jO (.st 7 (.s 4) (.s 97)),o 5 (.cst (.zC))] [4,5]
def c16_1:zL:=jS (jD [o 92 (.build [jN 0,.t (.str []),.zC,.zC,.zC,.zC,.zC] []),m 93 6,n 94 93,f 95 1 94,l 96 95,jO (.st 7 (.s 4) (.s 92)),m 5 96] [[],[],[1],[2],[3],[0,0],[4,5,0,1,2,3,4,5]] [4,5]) .ret
def c16_3:zL:=jS (jS (jR [m 86 6,n 87 86,f 88 1 87,l 89 88,e 90 89,jB 91 .gtr 90 0] [4,6,7,91]) (jC 91 c16_1 .skip)) c16_0
def c16_4:zL:=jS (jR [m 80 6,f 81 6 2,l 82 81,f 83 6 3,l 84 83,o 85 (.call 40 [(.s 80),(.s 82),(.s 84)])] [4,6,7]) c16_3
def c16_5:zL:=jS (jR [m 73 6,f 74 5 2,l 75 74,f 76 5 3,l 77 76,o 78 (.call 39 [(.s 73),(.s 75),(.s 77)]),f 79 5 7,jO (.st 1 (.s 79) (.s 78))] [2,3,4,6,7]) c16_4
def c16_6:zL:=jR [m 69 6,jL 70 7 2,jL 71 7 3,o 72 (.call 38 [(.s 69),(.s 70),(.s 71)])] [2,3,4,6,7]
def c16_8:zL:=jS (jS (jR [f 66 0 2,l 67 66,jB 68 .eql 67 2] [2,3,4,6,7,68]) (jC 68 c16_6 .skip)) c16_5
def c16_9:zL:=jS (jR [m 61 6,jL 62 7 2,jL 63 7 3,o 64 (.call 37 [(.s 61),(.s 62),(.s 63)]),f 65 4 7,jO (.st 1 (.s 65) (.s 64))] [2,3,4,6,7]) c16_8
def c16_10:zL:=jR [jB 60 .add 45 1,m 45 60] [2,3,4,6,7,43,44,45]
def c16_11:zL:=jR [f 54 2 7,l 55 54,m 56 9,o 57 (.bsl false 1 [[.str []]] [(0,(.s 56))]),o 58 (.app 1 16 (.s 55) (.s 57)),f 59 2 7,jO (.st 1 (.s 59) (.s 58))] [2,3,4,6,7,43,44,45]
def c16_13:zL:=jS (jR [f 49 2 2,l 50 49,m 51 9,o 52 (.call 36 [(.s 50),(.s 51)]),u 53 52] [2,3,4,6,7,9,43,44,45,53]) (jC 53 c16_11 .skip)
def c16_14:zL:=jS (jR [i 47 1 43 45,l 48 47,m 9 48] [2,3,4,6,7,9,43,44,45]) c16_13
def c16_17:zL:=jS (jR [b 46 .lss 45 44] [2,3,4,6,7,43,44,45,46]) (jS (jC 46 .skip (.exit 0)) (jS (.block 1 c16_14) c16_10))
def c16_20:zL:=jS (jS (jR [f 42 2 3,l 43 42,e 44 43,jI 45 0] [2,3,4,6,7,43,44,45]) (.block 0 (.loop c16_17))) c16_9
def c16_21:zL:=jS (jR [m 35 6,f 36 3 2,l 37 36,f 38 3 3,l 39 38,o 40 (.call 35 [(.s 35),(.s 37),(.s 39),(.c (.t (.str [])))]),f 41 3 7,jO (.st 1 (.s 41) (.s 40))] [2,3,4,6,7]) c16_20
def c16_22:zL:=jS (jD [f 24 0 2,l 25 24,f 26 1 2,l 27 26,f 28 2 2,l 29 28,o 30 (.call 33 [(.s 29)]),f 31 6 2,l 32 31,o 33 (.call 34 [(.s 32)]),o 34 (.build [jN 0,.t (.str []),.zC,.zC,.zC,.zC,.zC] [(0,1,(.s 25)),(1,1,(.s 27)),(2,1,(.s 30)),(6,1,(.s 33))]),o 7 (.alloc [jN 0,.t (.str []),.zC,.zC,.zC,.zC,.zC]),jO (.st 7 (.s 7) (.s 34))] [[],[0],[],[2],[],[4],[5],[],[7],[8,6],[1,3,6,9],[],[11,10,9,0,1,2,3,4,5,6,7,8,9,10,11]] [2,3,4,6,7]) c16_21
def c16_23:zL:=jS (jR [f 20 1 2,l 21 20,o 22 (.build [.t (.str []),.zC] [(0,1,(.s 21))]),o 23 (.box 2 (.s 22)),m 6 23] [2,3,4,6]) c16_22
def c16_24:zL:=jS (jD [o 15 (.build [jN 0,.t (.str []),.zC,.zC,.zC,.zC,.zC] []),f 16 1 2,l 17 16,o 18 (.build [jN 0,.t (.str [])] [(0,1,(.c (jN 9))),(1,1,(.s 17))]),o 19 (.bsl true 2 [[.int .i64 0,.str []]] [(0,(.s 18))]),jO (.st 7 (.s 4) (.s 15)),m 5 19] [[],[],[1],[2],[3],[0,0],[4,5,0,1,2,3,4,5]] [4,5]) .ret
def c16_26:zL:=jS (jS (jR [f 10 0 2,l 11 10,f 12 0 3,l 13 12,b 14 .neq 11 13] [2,3,4,14]) (jC 14 c16_24 .skip)) c16_23
def c16:zL:=jS (jR [o 2 (.box 7 (.s 0)),o 3 (.box 7 (.s 1)),o 4 (.alloc [jN 0,.t (.str []),.zC,.zC,.zC,.zC,.zC]),o 5 (.cst (.zC))] [2,3,4]) c16_26
def r16:List Qh:=[.cell 4 true 7,.tmp 5]
def n16:Nat:=98
def c18_4:zL:=jS (jD [m 17 0,m 18 5,i 19 2 17 18,jL 20 2 19,m 21 1,m 22 5,i 23 2 21 22,jL 24 2 23,o 25 (.nw (.zbb true [.int .i64,.str] (.s 20) (.s 24)))] [[],[],[0,1],[2],[],[],[4,5],[6],[3,7]] [0,1,5,25]) (jC 25 (jX [o 4 (.cst (.t (.bool false)))] [4]) .skip)
def c18_7:zL:=jS (jS (jR [m 11 5,m 12 0,e 13 12,b 14 .lss 11 13] [0,1,5,14]) (jC 14 .skip (.exit 0))) (jS (.block 1 c18_4) (jR [m 15 5,jB 16 .add 15 1,m 5 16] [0,1,5]))
def c18_13:zL:=jS (jS (jR [m 6 0,e 7 6,m 8 1,e 9 8,b 10 .neq 7 9] [0,1,10]) (jC 10 (jX [o 4 (.cst (.t (.bool false)))] [4]) .skip)) (jS (jS (jR [jI 5 0] [0,1,5]) (.block 0 (.loop c18_7))) (jX [o 4 (.cst (.t (.bool true)))] [4]))
def c18:zL:=jS (jR [o 4 (.cst (.t (.bool false)))] [0,1]) c18_13
def r18:List Qh:=[.tmp 4]
def n18:Nat:=26
def c19_0:zL:=jX [f 91 5 2,l 92 91,f 93 5 3,l 94 93,o 95 (.call 55 [(.s 92),(.s 94)]),m 96 95,gf 97 96 6 2,gl 98 96 97,gf 99 96 6 3,gl 100 96 99,go 101 96 (.call 54 [(.s 98),(.s 100)]),p 102 96 101,m 4 102] [4]
def c19_4:zL:=jS (jR [f 62 0 6,l 63 62,f 64 0 7,l 65 64,b 66 .neq 63 65,m 67 66,hf 68 67 2 6,hL 69 67 2 68,hf 70 67 2 7,hL 71 67 2 70,ho 72 67 (.call 53 [(.s 69),(.s 71)]),ho 73 67 (.un .not (.s 72)),q 74 67 73,m 75 74,hf 76 75 1 6,hl 77 75 76,hf 78 75 1 7,hl 79 75 78,ho 80 75 (.call 54 [(.s 77),(.s 79)]),ho 81 75 (.un .not (.s 80)),q 82 75 81,m 83 82,hf 84 83 4 6,hl 85 83 84,hf 86 83 4 7,hl 87 83 86,ho 88 83 (.call 52 [(.s 85),(.s 87)]),ho 89 83 (.un .not (.s 88)),q 90 83 89] [2,3,5,90]) (jC 90 (jX [o 4 (.cst (.t (.bool false)))] [4]) .skip)
def c19_5:zL:=jS (jD [f 52 4 2,l 53 52,m 54 5,i 55 5 53 54,jL 56 5 55,f 57 4 3,l 58 57,m 59 5,i 60 5 58 59,jL 61 5 60,o 6 (.alloc [.t (.str []),.zC,.t (.str []),.zC,.zC]),o 7 (.alloc [.t (.str []),.zC,.t (.str []),.zC,.zC]),jO (.st 5 (.s 6) (.s 56)),jO (.st 5 (.s 7) (.s 61))] [[],[0],[],[1,2],[3],[],[5],[],[6,7],[8],[],[],[10,4,0,1,2,3,4,10,11],[11,9,12,0,1,2,3,4,5,6,7,8,9,10,11,12]] [2,3,5,6,7]) c19_4
def c19_8:zL:=jS (jS (jR [m 45 5,f 46 4 2,l 47 46,e 48 47,b 49 .lss 45 48] [2,3,5,49]) (jC 49 .skip (.exit 0))) (jS (.block 1 c19_5) (jR [m 50 5,jB 51 .add 50 1,m 5 51] [2,3,5]))
def c19_14:zL:=jS (jS (jR [f 8 0 2,l 9 8,f 10 0 3,l 11 10,b 12 .neq 9 11,m 13 12,hf 14 13 1 2,hl 15 13 14,hf 16 13 1 3,hl 17 13 16,hb 18 13 .neq 15 17,q 19 13 18,m 20 19,hf 21 20 2 2,hl 22 20 21,hf 23 20 2 3,hl 24 20 23,ho 25 20 (.call 51 [(.s 22),(.s 24)]),ho 26 20 (.un .not (.s 25)),q 27 20 26,m 28 27,hf 29 28 3 2,hl 30 28 29,hf 31 28 3 3,hl 32 28 31,ho 33 28 (.call 52 [(.s 30),(.s 32)]),ho 34 28 (.un .not (.s 33)),q 35 28 34,m 36 35,hf 37 36 4 2,hl 38 36 37,he 39 36 38,hf 40 36 4 3,hl 41 36 40,he 42 36 41,hb 43 36 .neq 39 42,q 44 36 43] [2,3,44]) (jC 44 (jX [o 4 (.cst (.t (.bool false)))] [4]) .skip)) (jS (jS (jR [jI 5 0] [2,3,5]) (.block 0 (.loop c19_8))) c19_0)
def c19:zL:=jS (jR [o 2 (.box 7 (.s 0)),o 3 (.box 7 (.s 1)),o 4 (.cst (.t (.bool false)))] [2,3]) c19_14
def r19:List Qh:=[.tmp 4]
def n19:Nat:=103
def c21_0:zL:=jX [f 170 0 2,l 171 170,e 172 171,f 173 0 3,l 174 173,e 175 174,b 176 .eql 172 175,m 4 176] [4]
def c21_2:zL:=jR [m 143 15,jB 144 .add 143 1,m 15 144] [2,3,5,6,7,15]
def c21_5:zL:=jS (jR [m 168 16,u 169 168] [2,3,5,6,7,15,169]) (jC 169 (jX [o 4 (.cst (.t (.bool false)))] [4]) .skip)
def c21_6:zL:=jR [m 150 17,jB 151 .add 150 1,m 17 151] [2,3,5,6,7,15,16,17]
def c21_7:zL:=jD [m 152 16,m 153 152,hf 154 153 5 7,hl 155 153 154,hm 156 153 17,hi 157 153 2 155 156,hf 158 153 0 157,hl 159 153 158,hf 160 153 5 6,hl 161 153 160,hm 162 153 15,hi 163 153 2 161 162,hf 164 153 0 163,hl 165 153 164,hb 166 153 .eql 159 165,q 167 153 166,m 16 167] [[],[0],[1],[2,1],[1],[3,4,1],[5,1],[6,1],[1],[8,1],[1],[9,10,1],[11,1],[12,1],[7,13,1],[1,14],[15,1,0,1,2,3,4,5,6,7,8,9,10,11,12,13,14,15]] [2,3,5,6,7,15,16,17]
def c21_10:zL:=jS (jS (jR [m 145 17,f 146 5 7,l 147 146,e 148 147,b 149 .lss 145 148] [2,3,5,6,7,15,16,17,149]) (jC 149 .skip (.exit 8))) (jS (.block 9 c21_7) c21_6)
def c21_13:zL:=jS (jS (jR [jI 17 0] [2,3,5,6,7,15,16,17]) (.block 8 (.loop c21_10))) c21_5
def c21_14:zL:=jS (jR [o 16 (.cst (.t (.bool false)))] [2,3,5,6,7,15,16]) c21_13
def c21_17:zL:=jS (jS (jR [m 138 15,f 139 5 6,l 140 139,e 141 140,b 142 .lss 138 141] [2,3,5,6,7,15,142]) (jC 142 .skip (.exit 6))) (jS (.block 7 c21_14) c21_2)
def c21_21:zL:=jR [m 110 12,jB 111 .add 110 1,m 12 111] [2,3,5,6,7,12]
def c21_24:zL:=jS (jD [m 124 14,u 125 124,m 126 125,hf 127 126 1 13,hL 128 126 2 127,hf 129 126 6 6,hl 130 126 129,hm 131 126 12,hi 132 126 10 130 131,hf 133 126 1 132,hL 134 126 2 133,ho 135 126 (.call 53 [(.s 128),(.s 134)]),ho 136 126 (.un .not (.s 135)),q 137 126 136] [[],[0],[1],[2],[3,2],[2],[5,2],[2],[6,7,2],[8,2],[9,2],[4,10,2,2],[11,2],[2,12]] [2,3,5,6,7,12,137]) (jC 137 (jX [o 4 (.cst (.t (.bool false)))] [4]) .skip)
def c21_25:zL:=jS (jD [f 113 6 7,l 114 113,f 115 6 6,l 116 115,m 117 12,i 118 10 116 117,f 119 0 118,l 120 119,o 121 (.call 60 [(.s 114),(.s 120)]),m 112 121,x 122 112 0,x 123 112 1,o 13 (.alloc [.t (.str []),.t (.str []),.zC,.t (.bool false),jN 0,jN 0,.t (.str []),.zC,.zC,.zC]),jO (.st 10 (.s 13) (.s 122)),m 14 123] [[],[0],[],[2],[],[3,4],[5],[6],[1,7],[8],[9],[9],[],[12,10,8,0,1,2,3,4,5,6,7,8,9,10,12],[11,13,0,1,2,3,4,5,6,7,8,9,10,11,12,13]] [2,3,5,6,7,12,13,14]) c21_24
def c21_28:zL:=jS (jS (jR [m 105 12,f 106 6 6,l 107 106,e 108 107,b 109 .lss 105 108] [2,3,5,6,7,12,109]) (jC 109 .skip (.exit 4))) (jS (.block 5 c21_25) c21_21)
def c21_31:zL:=jS (jS (jR [jI 12 0] [2,3,5,6,7,12]) (.block 4 (.loop c21_28))) (jS (jR [jI 15 0] [2,3,5,6,7,15]) (.block 6 (.loop c21_17)))
def c21_32:zL:=jR [m 78 9,jB 79 .add 78 1,m 9 79] [2,3,5,6,7,9]
def c21_35:zL:=jS (jD [m 91 11,u 92 91,m 93 92,hf 94 93 2 10,hL 95 93 2 94,hf 96 93 4 6,hl 97 93 96,hm 98 93 9,hi 99 93 5 97 98,hf 100 93 2 99,hL 101 93 2 100,ho 102 93 (.call 53 [(.s 95),(.s 101)]),ho 103 93 (.un .not (.s 102)),q 104 93 103] [[],[0],[1],[2],[3,2],[2],[5,2],[2],[6,7,2],[8,2],[9,2],[4,10,2,2],[11,2],[2,12]] [2,3,5,6,7,9,104]) (jC 104 (jX [o 4 (.cst (.t (.bool false)))] [4]) .skip)
def c21_36:zL:=jS (jD [jL 81 7 7,f 82 4 6,l 83 82,m 84 9,i 85 5 83 84,f 86 0 85,l 87 86,o 88 (.call 13 [(.s 81),(.s 87)]),m 80 88,x 89 80 0,x 90 80 1,o 10 (.alloc [.t (.str []),.zC,.t (.str []),.zC,.zC]),jO (.st 5 (.s 10) (.s 89)),m 11 90] [[],[],[1],[],[2,3],[4],[5],[0,6],[7],[8],[8],[],[11,9,7,0,1,2,3,4,5,6,7,8,9,11],[10,12,0,1,2,3,4,5,6,7,8,9,10,11,12]] [2,3,5,6,7,9,10,11]) c21_35
def c21_39:zL:=jS (jS (jR [m 73 9,f 74 4 6,l 75 74,e 76 75,b 77 .lss 73 76] [2,3,5,6,7,9,77]) (jC 77 .skip (.exit 2))) (jS (.block 3 c21_36) c21_32)
def c21_42:zL:=jS (jS (jR [jI 9 0] [2,3,5,6,7,9]) (.block 2 (.loop c21_39))) c21_31
def c21_45:zL:=jS (jS (jR [m 37 8,u 38 37,m 39 38,hf 40 39 0 6,hl 41 39 40,hf 42 39 0 7,hl 43 39 42,hb 44 39 .neq 41 43,q 45 39 44,m 46 45,hf 47 46 4 6,hl 48 46 47,he 49 46 48,hf 50 46 4 7,hl 51 46 50,he 52 46 51,hb 53 46 .neq 49 52,q 54 46 53,m 55 54,hf 56 55 5 6,hl 57 55 56,he 58 55 57,hf 59 55 5 7,hl 60 55 59,he 61 55 60,hb 62 55 .neq 58 61,q 63 55 62,m 64 63,hf 65 64 6 6,hl 66 64 65,he 67 64 66,hf 68 64 6 7,hl 69 64 68,he 70 64 69,hb 71 64 .neq 67 70,q 72 64 71] [2,3,5,6,7,72]) (jC 72 (jX [o 4 (.cst (.t (.bool false)))] [4]) .skip)) c21_42
def c21_46:zL:=jS (jR [jL 31 1 3,f 32 1 6,l 33 32,o 34 (.call 12 [(.s 31),(.s 33)]),m 30 34,x 35 30 0,x 36 30 1,o 7 (.alloc [jN 0,.t (.str []),.zC,.zC,.zC,.zC,.zC]),jO (.st 7 (.s 7) (.s 35)),m 8 36] [2,3,5,6,7,8]) c21_45
def c21_47:zL:=jS (jR [f 25 0 2,l 26 25,m 27 5,i 28 7 26 27,jL 29 7 28,o 6 (.alloc [jN 0,.t (.str []),.zC,.zC,.zC,.zC,.zC]),jO (.st 7 (.s 6) (.s 29))] [2,3,5,6]) c21_46
def c21_50:zL:=jS (jS (jR [m 18 5,f 19 0 2,l 20 19,e 21 20,b 22 .lss 18 21] [2,3,5,22]) (jC 22 .skip (.exit 0))) (jS (.block 1 c21_47) (jR [m 23 5,jB 24 .add 23 1,m 5 24] [2,3,5]))
def c21:zL:=jS (jR [o 2 (.box 1 (.s 0)),o 3 (.box 1 (.s 1)),o 4 (.cst (.t (.bool false)))] [2,3]) (jS (jS (jR [jI 5 0] [2,3,5]) (.block 0 (.loop c21_50))) c21_0)
def r21:List Qh:=[.tmp 4]
def n21:Nat:=177
def c22_2:zL:=jR [m 50 6,jB 51 .add 50 1,m 6 51] [1,3,4,5,6]
def c22_3:zL:=jD [m 52 3,f 53 4 5,l 54 53,m 55 6,i 56 5 54 55,f 57 1 56,l 58 57,e 59 58,f 60 4 5,l 61 60,m 62 6,i 63 5 61 62,f 64 4 63,l 65 64,e 66 65,b 67 .add 59 66,b 68 .add 52 67,m 3 68] [[],[],[1],[],[2,3],[4],[5],[6],[],[8],[],[9,10],[11],[12],[13],[7,14],[0,15],[16,0,1,2,3,4,5,6,7,8,9,10,11,12,13,14,15,16]] [1,3,4,5,6]
def c22_6:zL:=jS (jS (jR [m 45 6,f 46 4 5,l 47 46,e 48 47,b 49 .lss 45 48] [1,3,4,5,6,49]) (jC 49 .skip (.exit 2))) (jS (.block 3 c22_3) c22_2)
def c22_10:zL:=jS (jR [m 23 3,f 24 4 5,l 25 24,e 26 25,o 27 (.bin .add (.c (jN 1)) (.s 26)),f 28 5 5,l 29 28,e 30 29,b 31 .add 27 30,f 32 6 5,l 33 32,e 34 33,b 35 .add 31 34,f 36 3 5,l 37 36,e 38 37,b 39 .add 35 38,f 40 2 5,l 41 40,e 42 41,b 43 .add 39 42,b 44 .add 23 43,m 3 44] [1,3,4,5]) (jS (jR [jI 6 0] [1,3,4,5,6]) (.block 2 (.loop c22_6)))
def c22_11:zL:=jS (jR [f 18 0 1,l 19 18,m 20 4,i 21 7 19 20,jL 22 7 21,o 5 (.alloc [jN 0,.t (.str []),.zC,.zC,.zC,.zC,.zC]),jO (.st 7 (.s 5) (.s 22))] [1,3,4,5]) c22_10
def c22_14:zL:=jS (jS (jR [m 11 4,f 12 0 1,l 13 12,e 14 13,b 15 .lss 11 14] [1,3,4,15]) (jC 15 .skip (.exit 0))) (jS (.block 1 c22_11) (jR [m 16 4,jB 17 .add 16 1,m 4 17] [1,3,4]))
def c22_21:zL:=jS (jS (jR [f 7 0 1,l 8 7,e 9 8,jB 10 .gtr 9 70] [1,10]) (jC 10 (jX [o 2 (.cst (.t (.bool true)))] [2]) .skip)) (jS (jR [jI 3 0] [1,3]) (jS (jS (jR [jI 4 0] [1,3,4]) (.block 0 (.loop c22_14))) (jX [m 69 3,jB 70 .gtr 69 1000,m 2 70] [2])))
def c22:zL:=jS (jR [o 1 (.box 1 (.s 0)),o 2 (.cst (.t (.bool false)))] [1]) c22_21
def r22:List Qh:=[.tmp 2]
def n22:Nat:=71
def c23_4:zL:=jS (jR [f 21 0 1,l 22 21,m 23 3,i 24 7 22 23,jL 25 7 24,o 26 (.call 61 [(.s 25)]),u 27 26] [1,3,27]) (jC 27 (jX [o 2 (.cst (.t (.bool false)))] [2]) .skip)
def c23_7:zL:=jS (jS (jR [m 14 3,f 15 0 1,l 16 15,e 17 16,b 18 .lss 14 17] [1,3,18]) (jC 18 .skip (.exit 0))) (jS (.block 1 c23_4) (jR [m 19 3,jB 20 .add 19 1,m 3 20] [1,3]))
def c23_13:zL:=jS (jS (jR [f 4 0 1,l 5 4,e 6 5,jB 7 .lss 6 1,m 8 7,hf 9 8 0 1,hl 10 8 9,he 11 8 10,hB 12 8 .gtr 11 64,q 13 8 12] [1,13]) (jC 13 (jX [o 2 (.cst (.t (.bool false)))] [2]) .skip)) (jS (jS (jR [jI 3 0] [1,3]) (.block 0 (.loop c23_7))) (jX [o 2 (.cst (.t (.bool true)))] [2]))
def c23:zL:=jS (jR [o 1 (.box 1 (.s 0)),o 2 (.cst (.t (.bool false)))] [1]) c23_13
def r23:List Qh:=[.tmp 2]
def n23:Nat:=28
def c24_1:zL:=jR [m 64 5,o 65 (.build [jN 0,.t (.str [])] [(0,1,(.c (jN 30))),(1,1,(.c (.t (.str [81,117,101,114,121]))))]),o 66 (.bsl false 2 [[.int .i64 0,.str []]] [(0,(.s 65))]),o 67 (.app 2 24 (.s 64) (.s 66)),m 5 67] [5]
def c24_3:zL:=jS (jS (jR [m 59 1,m 60 59,gm 61 60 9,go 62 60 (.un .not (.s 61)),p 63 60 62] [5,63]) (jC 63 c24_1 .skip)) (jX [m 68 5,m 4 68] [4])
def c24_4:zL:=jS (jR [jL 55 1 2,o 56 (.call 12 [(.s 55),(.c (.t (.str [81,117,101,114,121])))]),m 54 56,x 57 54 0,x 58 54 1,o 8 (.alloc [jN 0,.t (.str []),.zC,.zC,.zC,.zC,.zC]),jO (.st 7 (.s 8) (.s 57)),m 9 58] [1,5,9]) c24_3
def c24_5:zL:=jR [m 15 6,jB 16 .add 15 1,m 6 16] [1,2,5,6]
def c24_6:zL:=jR [m 32 5,jL 33 1 2,jL 34 7 7,o 35 (.call 63 [(.s 33),(.s 34)]),o 36 (.app 2 24 (.s 32) (.s 35)),m 5 36] [1,2,5,6]
def c24_7:zL:=jR [m 39 5,jL 40 7 7,o 41 (.call 64 [(.s 40)]),o 42 (.app 2 24 (.s 39) (.s 41)),m 5 42] [1,2,5,6]
def c24_8:zL:=jR [m 45 5,jL 46 1 2,f 47 6 7,l 48 47,f 49 1 7,l 50 49,o 51 (.bin .add (.s 50) (.c (.t (.str [46])))),o 52 (.call 65 [(.s 46),(.s 48),(.s 51),(.c (.t (.str [])))]),o 53 (.app 2 24 (.s 45) (.s 52)),m 5 53] [1,2,5,6]
def c24_10:zL:=jS (jR [jB 44 .eql 28 5,m 43 44] [1,2,5,6,7,43]) (jC 43 c24_8 .skip)
def c24_12:zL:=jS (jR [jB 38 .eql 28 4,m 37 38] [1,2,5,6,7,28,37]) (jC 37 c24_7 c24_10)
def c24_14:zL:=jR [jB 31 .eql 28 2,m 29 31] [1,2,5,6,7,28,29]
def c24_16:zL:=jS (jS (jR [jB 30 .eql 28 1,m 29 30] [1,2,5,6,7,28,29]) (jC 29 .skip c24_14)) (jC 29 c24_6 c24_12)
def c24_18:zL:=jS (jR [f 27 0 7,l 28 27] [1,2,5,6,7,28]) (.block 2 c24_16)
def c24_19:zL:=jS (jR [m 22 5,jL 23 1 2,m 24 6,o 25 (.call 62 [(.s 23),(.s 24)]),o 26 (.app 2 24 (.s 22) (.s 25)),m 5 26] [1,2,5,6,7]) c24_18
def c24_20:zL:=jS (jR [f 17 0 2,l 18 17,m 19 6,i 20 7 18 19,jL 21 7 20,o 7 (.alloc [jN 0,.t (.str []),.zC,.zC,.zC,.zC,.zC]),jO (.st 7 (.s 7) (.s 21))] [1,2,5,6,7]) c24_19
def c24_23:zL:=jS (jS (jR [m 10 6,f 11 0 2,l 12 11,e 13 12,b 14 .lss 10 13] [1,2,5,6,14]) (jC 14 .skip (.exit 0))) (jS (.block 1 c24_20) c24_5)
def c24_26:zL:=jS (jS (jR [jI 6 0] [1,2,5,6]) (.block 0 (.loop c24_23))) c24_4
def c24:zL:=jS (jR [o 2 (.box 1 (.s 0)),o 4 (.cst (.zC))] [1,2]) (jS (jR [o 5 (.cst (.zC))] [1,2,5]) c24_26)
def r24:List Qh:=[.tmp 4]
def n24:Nat:=69
def c25_2:zL:=jD [m 20 3,jL 21 1 1,f 22 0 1,l 23 22,m 24 4,i 25 7 23 24,jL 26 7 25,o 27 (.call 66 [(.s 21),(.s 26)]),o 28 (.app 2 24 (.s 20) (.s 27)),m 3 28] [[],[],[],[2],[],[3,4],[5],[1,6],[0,7,7],[8,8,0,1,2,3,4,5,6,7,8]] [1,3,4]
def c25_3:zL:=jD [m 31 3,jL 32 1 1,f 33 0 1,l 34 33,m 35 4,i 36 7 34 35,jL 37 7 36,o 38 (.call 67 [(.s 32),(.s 37)]),o 39 (.app 2 24 (.s 31) (.s 38)),m 3 39] [[],[],[],[2],[],[3,4],[5],[1,6],[0,7,7],[8,8,0,1,2,3,4,5,6,7,8]] [1,3,4]
def c25_5:zL:=jS (jR [jB 30 .eql 17 3,m 29 30] [1,3,4,29]) (jC 29 c25_3 .skip)
def c25_7:zL:=jS (jR [jB 19 .eql 17 1,m 18 19] [1,3,4,17,18]) (jC 18 c25_2 c25_5)
def c25_9:zL:=jS (jR [f 12 0 1,l 13 12,m 14 4,i 15 7 13 14,f 16 0 15,l 17 16] [1,3,4,17]) (.block 2 c25_7)
def c25_12:zL:=jS (jS (jR [m 5 4,f 6 0 1,l 7 6,e 8 7,b 9 .lss 5 8] [1,3,4,9]) (jC 9 .skip (.exit 0))) (jS (.block 1 c25_9) (jR [m 10 4,jB 11 .add 10 1,m 4 11] [1,3,4]))
def c25:zL:=jS (jR [o 1 (.box 1 (.s 0)),o 2 (.cst (.zC))] [1]) (jS (jR [o 3 (.cst (.zC))] [1,3]) (jS (jS (jR [jI 4 0] [1,3,4]) (.block 0 (.loop c25_12))) (jX [m 40 3,m 2 40] [2])))
def r25:List Qh:=[.tmp 2]
def n25:Nat:=41
def c26_0:zL:=jS (jR [m 5 0,m 6 1,o 7 (.build [jN 0,.t (.str []),.zC,.zC,.zC,.zC,.zC] [(0,1,(.c (jN 1))),(1,1,(.s 5)),(4,1,(.s 6))]),jO (.st 7 (.s 4) (.s 7))] [4]) .ret
def c26:zL:=jS (jR [o 4 (.alloc [jN 0,.t (.str []),.zC,.zC,.zC,.zC,.zC])] [0,1,4]) c26_0
def r26:List Qh:=[.cell 4 true 7]
def n26:Nat:=8
def c27_0:zL:=jS (jR [m 5 0,m 6 1,o 7 (.build [.t (.str []),.zC] [(0,1,(.c (.t (.str [73,110,116])))),(1,1,(.s 6))]),o 8 (.build [.t (.str []),.zC,.t (.str []),.zC,.zC] [(0,1,(.s 5)),(2,2,(.s 7))]),jO (.st 5 (.s 4) (.s 8))] [4]) .ret
def c27:zL:=jS (jR [o 4 (.alloc [.t (.str []),.zC,.t (.str []),.zC,.zC])] [0,1,4]) c27_0
def r27:List Qh:=[.cell 4 true 5]
def n27:Nat:=9
def c28_0:zL:=jX [o 21 (.build [jN 0,.t (.str []),.zC,.zC,.zC,.zC,.zC] []),jO (.st 7 (.s 4) (.s 21)),o 5 (.cst (.t (.bool false)))] [4,5]
def c28_2:zL:=jX [jL 19 7 7,jO (.st 7 (.s 4) (.s 19)),o 5 (.cst (.t (.bool true)))] [4,5]
def c28_4:zL:=jS (jR [f 15 1 7,l 16 15,m 17 1,b 18 .eql 16 17] [1,4,7,9,10,11,18]) (jC 18 c28_2 .skip)
def c28_5:zL:=jS (jR [i 13 7 9 11,jL 14 7 13,o 7 (.alloc [jN 0,.t (.str []),.zC,.zC,.zC,.zC,.zC]),jO (.st 7 (.s 7) (.s 14))] [1,4,7,9,10,11]) c28_4
def c28_8:zL:=jS (jR [b 12 .lss 11 10] [1,4,9,10,11,12]) (jS (jC 12 .skip (.exit 0)) (jS (.block 1 c28_5) (jR [jB 20 .add 11 1,m 11 20] [1,4,9,10,11])))
def c28_11:zL:=jS (jS (jR [f 8 0 2,l 9 8,e 10 9,jI 11 0] [1,4,9,10,11]) (.block 0 (.loop c28_8))) c28_0
def c28:zL:=jS (jR [o 2 (.box 1 (.s 0)),o 4 (.alloc [jN 0,.t (.str []),.zC,.zC,.zC,.zC,.zC]),o 5 (.cst (.t (.bool false)))] [1,2,4]) c28_11
def r28:List Qh:=[.cell 4 true 7,.tmp 5]
def n28:Nat:=22
def c29_0:zL:=jX [jL 56 7 3,jO (.st 7 (.s 2) (.s 56))] [2]
def c29_2:zL:=jD [f 44 5 3,l 45 44,f 46 0 7,l 47 46,f 48 1 7,l 49 48,o 50 (.call 68 [(.s 49)]),o 51 (.build [.t (.str []),.zC] [(0,1,(.s 47)),(1,1,(.s 50))]),o 52 (.bsl false 2 [[.str [],.lst []]] [(0,(.s 51))]),o 53 (.app 2 40 (.s 45) (.s 52)),f 54 5 3,jO (.st 1 (.s 54) (.s 53))] [[],[0],[],[2],[],[4],[5],[3,6],[7],[1,8,6],[0,1,2,3,4,5,6,7,8,9],[10,9,9,0,1,2,3,4,5,6,7,8,9]] [2,3,38,39,40]
def c29_3:zL:=jS (jR [i 42 2 38 40,jL 43 2 42,o 7 (.alloc [.t (.str []),.zC]),jO (.st 2 (.s 7) (.s 43))] [2,3,7,38,39,40]) c29_2
def c29_6:zL:=jS (jR [b 41 .lss 40 39] [2,3,38,39,40,41]) (jS (jC 41 .skip (.exit 2)) (jS (.block 3 c29_3) (jR [jB 55 .add 40 1,m 40 55] [2,3,38,39,40])))
def c29_9:zL:=jS (jS (jR [f 37 5 1,l 38 37,e 39 38,jI 40 0] [2,3,38,39,40]) (.block 2 (.loop c29_6))) c29_0
def c29_10:zL:=jR [jB 36 .add 25 1,m 25 36] [1,2,3,23,24,25]
def c29_11:zL:=jD [f 29 4 3,l 30 29,jL 31 5 5,o 32 (.call 69 [(.s 31)]),o 33 (.bsl false 5 [[.str [],.lst [],.str [],.lst [],.lst []]] [(0,(.s 32))]),o 34 (.app 5 104 (.s 30) (.s 33)),f 35 4 3,jO (.st 1 (.s 35) (.s 34))] [[],[0],[],[2],[3],[1,4,3],[0,1,2,3,4,5],[6,5,5,0,1,2,3,4,5]] [1,2,3,23,24,25]
def c29_12:zL:=jS (jR [i 27 5 23 25,jL 28 5 27,o 5 (.alloc [.t (.str []),.zC,.t (.str []),.zC,.zC]),jO (.st 5 (.s 5) (.s 28))] [1,2,3,5,23,24,25]) c29_11
def c29_15:zL:=jS (jR [b 26 .lss 25 24] [1,2,3,23,24,25,26]) (jS (jC 26 .skip (.exit 0)) (jS (.block 1 c29_12) c29_10))
def c29_18:zL:=jS (jS (jR [f 22 4 1,l 23 22,e 24 23,jI 25 0] [1,2,3,23,24,25]) (.block 0 (.loop c29_15))) c29_9
def c29_19:zL:=jS (jD [f 8 0 1,l 9 8,f 10 1 1,l 11 10,f 12 2 1,l 13 12,o 14 (.call 33 [(.s 13)]),f 15 3 1,l 16 15,o 17 (.call 68 [(.s 16)]),f 18 6 1,l 19 18,o 20 (.call 34 [(.s 19)]),o 21 (.build [jN 0,.t (.str []),.zC,.zC,.zC,.zC,.zC] [(0,1,(.s 9)),(1,1,(.s 11)),(2,1,(.s 14)),(3,1,(.s 17)),(6,1,(.s 20))]),o 3 (.alloc [jN 0,.t (.str []),.zC,.zC,.zC,.zC,.zC]),jO (.st 7 (.s 3) (.s 21))] [[],[0],[],[2],[],[4],[5],[],[7],[8,6],[],[10],[11,9],[1,3,6,9,12],[],[14,13,12,0,1,2,3,4,5,6,7,8,9,10,11,12,13,14]] [1,2,3]) c29_18
def c29:zL:=jS (jR [o 1 (.box 7 (.s 0)),o 2 (.alloc [jN 0,.t (.str []),.zC,.zC,.zC,.zC,.zC])] [1,2]) c29_19
def r29:List Qh:=[.cell 2 true 7]
def n29:Nat:=57
def c30_2:zL:=jR [m 52 5,f 53 1 10,l 54 53,o 55 (.build [jN 0,.t (.str [])] [(0,1,(.c (jN 4))),(1,1,(.s 54))]),o 56 (.bsl false 2 [[.int .i64 0,.str []]] [(0,(.s 55))]),o 57 (.app 2 24 (.s 52) (.s 56)),m 5 57] [5,44,45,46]
def c30_4:zL:=jS (jR [jL 50 7 10,o 51 (.call 74 [(.s 50)])] [5,10,44,45,46,51]) (jC 51 c30_2 .skip)
def c30_5:zL:=jS (jR [i 48 7 44 46,jL 49 7 48,o 10 (.alloc [jN 0,.t (.str []),.zC,.zC,.zC,.zC,.zC]),jO (.st 7 (.s 10) (.s 49))] [5,10,44,45,46]) c30_4
def c30_8:zL:=jS (jR [b 47 .lss 46 45] [5,44,45,46,47]) (jS (jC 47 .skip (.exit 2)) (jS (.block 3 c30_5) (jR [jB 58 .add 46 1,m 46 58] [5,44,45,46])))
def c30_11:zL:=jS (jS (jR [f 43 0 3,l 44 43,e 45 44,jI 46 0] [5,44,45,46]) (.block 2 (.loop c30_8))) (jX [m 59 5,m 4 59] [4])
def c30_12:zL:=jR [m 39 5,o 40 (.build [jN 0,.t (.str [])] [(0,1,(.c (jN 4)))]),o 41 (.bsl false 2 [[.int .i64 0,.str []]] [(0,(.s 40))]),o 42 (.app 2 24 (.s 39) (.s 41)),m 5 42] [3,5]
def c30_14:zL:=jS (jS (jR [f 35 0 3,l 36 35,e 37 36,jB 38 .gtr 37 64] [3,5,38]) (jC 38 c30_12 .skip)) c30_11
def c30_15:zL:=jR [jB 34 .add 14 1,m 14 34] [0,3,5,12,13,14]
def c30_16:zL:=jR [m 28 5,f 29 1 7,l 30 29,o 31 (.build [jN 0,.t (.str [])] [(0,1,(.c (jN 45))),(1,1,(.s 30))]),o 32 (.bsl false 2 [[.int .i64 0,.str []]] [(0,(.s 31))]),o 33 (.app 2 24 (.s 28) (.s 32)),m 5 33] [0,3,5,12,13,14]
def c30_18:zL:=jS (jR [m 25 0,o 26 (.ze7 72 [(.s 7),(.s 8)]),o 27 (.call 71 [(.s 25),(.s 26)])] [0,3,5,7,12,13,14,27]) (jC 27 c30_16 .skip)
def c30_19:zL:=jS (jR [jL 21 1 3,f 22 1 7,l 23 22,o 24 (.call 70 [(.s 21),(.s 23)]),o 8 (.alloc [.zC]),jO (.st 1 (.s 8) (.s 24))] [0,3,5,7,8,12,13,14]) c30_18
def c30_21:zL:=jS (jS (jR [f 18 0 7,l 19 18,jB 20 .neq 19 2] [0,3,5,7,12,13,14,20]) (jC 20 (.exit 1) .skip)) c30_19
def c30_22:zL:=jS (jR [i 16 7 12 14,jL 17 7 16,o 7 (.alloc [jN 0,.t (.str []),.zC,.zC,.zC,.zC,.zC]),jO (.st 7 (.s 7) (.s 17))] [0,3,5,7,12,13,14]) c30_21
def c30_25:zL:=jS (jR [b 15 .lss 14 13] [0,3,5,12,13,14,15]) (jS (jC 15 .skip (.exit 0)) (jS (.block 1 c30_22) c30_15))
def c30_28:zL:=jS (jS (jR [f 11 0 3,l 12 11,e 13 12,jI 14 0] [0,3,5,12,13,14]) (.block 0 (.loop c30_25))) c30_14
def c30:zL:=jS (jR [o 3 (.box 1 (.s 1)),o 4 (.cst (.zC))] [0,3]) (jS (jR [o 5 (.cst (.zC))] [0,3,5]) c30_28)
def r30:List Qh:=[.tmp 4]
def n30:Nat:=60
def c31_0:zL:=jD [jL 52 2 7,jL 53 2 9,jO (.st 2 (.s 2) (.s 52)),jO (.st 2 (.s 3) (.s 53))] [[],[],[0,0],[1,2,0,1,2]] [2,3,4,6]
def c31_1:zL:=jS (jR [f 47 1 6,l 48 47,o 49 (.bsl false 1 [[.int .i64 0]] [(0,(.c (jN 2)))]),o 50 (.app 1 8 (.s 48) (.s 49)),f 51 1 6,jO (.st 1 (.s 51) (.s 50))] [2,3,4,6,7,9]) c31_0
def c31_2:zL:=jX [jL 46 2 6,jO (.st 2 (.s 4) (.s 46)),o 5 (.cst (.t (.bool true)))] [4,5]
def c31_4:zL:=jS (jS (jR [m 40 8,u 41 40,m 42 41,hm 43 42 10,ho 44 42 (.un .not (.s 43)),q 45 42 44] [2,3,4,6,7,9,45]) (jC 45 c31_2 .skip)) c31_1
def c31_5:zL:=jS (jR [jL 36 2 3,o 37 (.call 77 [(.s 36)]),m 35 37,x 38 35 0,x 39 35 1,o 9 (.alloc [.t (.str []),.zC]),jO (.st 2 (.s 9) (.s 38)),m 10 39] [2,3,4,6,7,8,9,10]) c31_4
def c31_6:zL:=jS (jR [jL 31 2 2,o 32 (.call 77 [(.s 31)]),m 30 32,x 33 30 0,x 34 30 1,o 7 (.alloc [.t (.str []),.zC]),jO (.st 2 (.s 7) (.s 33)),m 8 34] [2,3,4,6,7,8]) c31_5
def c31_7:zL:=jR [f 25 1 6,l 26 25,o 27 (.bsl false 1 [[.int .i64 0]] [(0,(.c (jN 1)))]),o 28 (.app 1 8 (.s 26) (.s 27)),f 29 1 6,jO (.st 1 (.s 29) (.s 28))] [2,3,4,6]
def c31_9:zL:=jS (jS (jR [jL 19 2 2,o 20 (.call 76 [(.s 19)]),m 21 20,gL 22 21 2 3,go 23 21 (.call 76 [(.s 22)]),p 24 21 23] [2,3,4,6,24]) (jC 24 c31_7 .skip)) c31_6
def c31_13:zL:=jS (jR [f 16 0 2,l 17 16,o 18 (.build [.t (.str []),.zC] [(0,1,(.s 17))]),o 6 (.alloc [.t (.str []),.zC]),jO (.st 2 (.s 6) (.s 18))] [2,3,4,6]) (.block 0 (.loop (.block 1 c31_9)))
def c31_14:zL:=jX [o 15 (.build [.t (.str []),.zC] []),jO (.st 2 (.s 4) (.s 15)),o 5 (.cst (.t (.bool false)))] [4,5]
def c31_16:zL:=jS (jS (jR [jL 11 2 2,jL 12 2 3,o 13 (.call 75 [(.s 11),(.s 12)]),u 14 13] [2,3,4,14]) (jC 14 c31_14 .skip)) c31_13
def c31:zL:=jS (jR [o 2 (.box 2 (.s 0)),o 3 (.box 2 (.s 1)),o 4 (.alloc [.t (.str []),.zC]),o 5 (.cst (.t (.bool false)))] [2,3,4]) c31_16
def r31:List Qh:=[.cell 4 true 2,.tmp 5]
def n31:Nat:=54
def c32_0:zL:=jX [f 5 0 2,l 6 5,f 7 0 3,l 8 7,b 9 .eql 6 8,m 10 9,gf 11 10 1 2,gl 12 10 11,gf 13 10 1 3,gl 14 10 13,go 15 10 (.call 78 [(.s 12),(.s 14)]),p 16 10 15,m 4 16] [4]
def c32:zL:=jS (jR [o 2 (.box 2 (.s 0)),o 3 (.box 2 (.s 1)),o 4 (.cst (.t (.bool false)))] [2,3]) c32_0
def r32:List Qh:=[.tmp 4]
def n32:Nat:=17
def c33_0:zL:=jX [o 5 (.bsl true 1 [] []),m 6 0,o 7 (.app 1 16 (.s 5) (.s 6)),m 2 7] [2]
def c33_3:zL:=jS (jS (jR [m 3 0,o 4 (.nw (.eqn false (.s 3)))] [0,4]) (jC 4 (jX [o 2 (.cst (.zC))] [2]) .skip)) c33_0
def c33:zL:=jS (jR [o 2 (.cst (.zC))] [0]) c33_3
def r33:List Qh:=[.tmp 2]
def n33:Nat:=8
def c34_2:zL:=jR [m 26 3,jL 27 10 5,o 28 (.bsl false 10 [[.str [],.str [],.lst [],.bool false,.int .i64 0,.int .i64 0,.str [],.lst [],.lst [],.lst []]] [(0,(.s 27))]),o 29 (.app 10 168 (.s 26) (.s 28)),m 3 29] [3,6,7,8]
def c34_3:zL:=jS (jR [f 22 9 5,l 23 22,o 24 (.call 81 [(.s 23)]),f 25 9 5,jO (.st 1 (.s 25) (.s 24))] [3,5,6,7,8]) c34_2
def c34_4:zL:=jS (jR [f 18 4 5,jL 19 5 18,o 20 (.call 80 [(.s 19)]),f 21 4 5,jO (.st 5 (.s 21) (.s 20))] [3,5,6,7,8]) c34_3
def c34_5:zL:=jS (jR [f 12 1 5,f 13 1 12,l 14 13,o 15 (.call 79 [(.s 14)]),f 16 1 5,f 17 1 16,jO (.st 1 (.s 17) (.s 15))] [3,5,6,7,8]) c34_4
def c34_6:zL:=jS (jR [i 10 10 6 8,jL 11 10 10,o 5 (.alloc [.t (.str []),.t (.str []),.zC,.t (.bool false),jN 0,jN 0,.t (.str []),.zC,.zC,.zC]),jO (.st 10 (.s 5) (.s 11))] [3,5,6,7,8]) c34_5
def c34_12:zL:=jS (jS (jR [m 6 0,e 7 6,jI 8 0] [3,6,7,8]) (.block 0 (.loop (jS (jR [b 9 .lss 8 7] [3,6,7,8,9]) (jS (jC 9 .skip (.exit 0)) (jS (.block 1 c34_6) (jR [jB 30 .add 8 1,m 8 30] [3,6,7,8]))))))) (jX [m 31 3,m 2 31] [2])
def c34:zL:=jS (jR [o 2 (.cst (.zC))] [0]) (jS (jR [o 3 (.cst (.zC))] [0,3]) c34_12)
def r34:List Qh:=[.tmp 2]
def n34:Nat:=32
def c35_1:zL:=jS (jR [m 17 0,m 18 10,m 19 3,o 20 (.call 83 [(.s 17),(.s 18),(.c (jN 29)),(.s 19)])] [9]) (jX [m 21 9,m 8 21] [8])
def c35_2:zL:=jS (jR [m 12 1,m 13 2,o 14 (.call 82 [(.s 12),(.s 13)]),m 11 14,x 15 11 0,x 16 11 1,m 9 15,m 10 16] [0,3,9,10]) c35_1
def c35:zL:=jS (jR [o 8 (.cst (.zC))] [0,1,2,3]) c35_2
def r35:List Qh:=[.tmp 8]
def n35:Nat:=22
def c36_0:zL:=jX [m 5 0,m 6 1,o 7 (.call 84 [(.s 5),(.s 6)]),jB 8 .geq 7 0,m 4 8] [4]
def c36:zL:=jS (jR [o 4 (.cst (.t (.bool false)))] [0,1]) c36_0
def r36:List Qh:=[.tmp 4]
def n36:Nat:=9
def c37_2:zL:=jR [m 86 7,jL 87 5 16,o 88 (.call 69 [(.s 87)]),o 89 (.bsl false 5 [[.str [],.lst [],.str [],.lst [],.lst []]] [(0,(.s 88))]),o 90 (.app 5 104 (.s 86) (.s 89)),m 7 90] [4,7,71,72,73]
def c37_4:zL:=jS (jR [m 84 18,u 85 84] [4,7,16,71,72,73,85]) (jC 85 c37_2 .skip)
def c37_5:zL:=jS (jR [jL 78 7 4,f 79 0 16,l 80 79,o 81 (.call 85 [(.s 78),(.s 80)]),m 77 81,x 82 77 0,x 83 77 1,o 17 (.alloc [.t (.str []),.zC,.t (.str []),.zC,.zC]),jO (.st 5 (.s 17) (.s 82)),m 18 83] [4,7,16,18,71,72,73]) c37_4
def c37_6:zL:=jS (jR [i 75 5 71 73,jL 76 5 75,o 16 (.alloc [.t (.str []),.zC,.t (.str []),.zC,.zC]),jO (.st 5 (.s 16) (.s 76))] [4,7,16,71,72,73]) c37_5
def c37_9:zL:=jS (jR [b 74 .lss 73 72] [4,7,71,72,73,74]) (jS (jC 74 .skip (.exit 2)) (jS (.block 3 c37_6) (jR [jB 91 .add 73 1,m 73 91] [4,7,71,72,73])))
def c37_12:zL:=jS (jS (jR [f 70 4 5,l 71 70,e 72 71,jI 73 0] [4,7,71,72,73]) (.block 2 (.loop c37_9))) (jX [m 92 7,m 6 92] [6])
def c37_13:zL:=jR [jB 69 .add 22 1,m 22 69] [0,4,5,7,20,21,22]
def c37_14:zL:=jR [m 65 7,jL 66 5 10,o 67 (.bsl false 5 [[.str [],.lst [],.str [],.lst [],.lst []]] [(0,(.s 66))]),o 68 (.app 5 104 (.s 65) (.s 67)),m 7 68] [0,4,5,7,20,21,22]
def c37_15:zL:=jD [jL 54 2 13,m 55 0,f 56 4 9,l 57 56,f 58 4 11,l 59 58,f 60 0 9,l 61 60,o 62 (.call 35 [(.s 55),(.s 57),(.s 59),(.s 61)]),f 63 2 10,jO (.st 2 (.s 63) (.s 54)),f 64 4 10,jO (.st 1 (.s 64) (.s 62))] [[],[],[],[2],[],[4],[],[6],[1,3,5,7],[0],[9,0,8,0],[0,1,2,3,4,5,6,7,8,9,10],[11,8,10,0,1,2,3,4,5,6,7,8,9,10]] [0,4,5,7,10,20,21,22]
def c37_16:zL:=jS (jR [m 50 0,jL 51 5 9,jL 52 5 11,o 53 (.call 86 [(.s 50),(.s 51),(.s 52)])] [0,4,5,7,9,10,11,13,20,21,22]) c37_15
def c37_17:zL:=jS (jR [m 44 0,m 45 14,u 46 45,f 47 0 9,l 48 47,o 49 (.call 83 [(.s 44),(.s 46),(.c (jN 10)),(.s 48)])] [0,4,5,7,9,10,11,13,20,21,22]) c37_16
def c37_18:zL:=jS (jR [f 37 2 9,jL 38 2 37,f 39 2 11,jL 40 2 39,o 41 (.call 31 [(.s 38),(.s 40)]),m 36 41,x 42 36 0,x 43 36 1,o 13 (.alloc [.t (.str []),.zC]),jO (.st 2 (.s 13) (.s 42)),m 14 43] [0,4,5,7,9,10,11,13,14,20,21,22]) c37_17
def c37_20:zL:=jS (jR [m 35 12] [0,4,5,7,9,10,11,20,21,22,35]) (jC 35 c37_18 .skip)
def c37_21:zL:=jS (jS (jR [jL 29 7 5,f 30 0 9,l 31 30,o 32 (.call 85 [(.s 29),(.s 31)]),m 28 32,x 33 28 0,x 34 28 1,o 11 (.alloc [.t (.str []),.zC,.t (.str []),.zC,.zC]),jO (.st 5 (.s 11) (.s 33)),m 12 34] [0,4,5,7,9,10,11,12,20,21,22]) c37_20) c37_14
def c37_22:zL:=jS (jR [jL 26 5 9,o 27 (.call 69 [(.s 26)]),o 10 (.alloc [.t (.str []),.zC,.t (.str []),.zC,.zC]),jO (.st 5 (.s 10) (.s 27))] [0,4,5,7,9,10,20,21,22]) c37_21
def c37_23:zL:=jS (jR [i 24 5 20 22,jL 25 5 24,o 9 (.alloc [.t (.str []),.zC,.t (.str []),.zC,.zC]),jO (.st 5 (.s 9) (.s 25))] [0,4,5,7,9,20,21,22]) c37_22
def c37_26:zL:=jS (jR [b 23 .lss 22 21] [0,4,5,7,20,21,22,23]) (jS (jC 23 .skip (.exit 0)) (jS (.block 1 c37_23) c37_13))
def c37_29:zL:=jS (jS (jR [f 19 4 4,l 20 19,e 21 20,jI 22 0] [0,4,5,7,20,21,22]) (.block 0 (.loop c37_26))) c37_12
def c37_30:zL:=jS (jR [o 7 (.cst (.zC))] [0,4,5,7]) c37_29
def c37:zL:=jS (jR [o 4 (.box 7 (.s 1)),o 5 (.box 7 (.s 2)),o 6 (.cst (.zC))] [0,4,5]) c37_30
def r37:List Qh:=[.tmp 6]
def n37:Nat:=93
def c38_1:zL:=jR [m 49 0,m 50 13,u 51 50,f 52 0 11,l 53 52,o 54 (.call 83 [(.s 49),(.s 51),(.c (jN 45)),(.s 53)])] [0,4,36,37,38]
def c38_2:zL:=jS (jR [jL 43 7 4,f 44 0 11,l 45 44,o 46 (.call 85 [(.s 43),(.s 45)]),m 42 46,x 47 42 0,x 48 42 1,o 12 (.alloc [.t (.str []),.zC,.t (.str []),.zC,.zC]),jO (.st 5 (.s 12) (.s 47)),m 13 48] [0,4,11,13,36,37,38]) c38_1
def c38_3:zL:=jS (jR [i 40 5 36 38,jL 41 5 40,o 11 (.alloc [.t (.str []),.zC,.t (.str []),.zC,.zC]),jO (.st 5 (.s 11) (.s 41))] [0,4,11,36,37,38]) c38_2
def c38_6:zL:=jS (jR [b 39 .lss 38 37] [0,4,36,37,38,39]) (jS (jC 39 .skip (.exit 2)) (jS (.block 3 c38_3) (jR [jB 55 .add 38 1,m 38 55] [0,4,36,37,38])))
def c38_9:zL:=jS (jR [f 35 4 5,l 36 35,e 37 36,jI 38 0] [0,4,36,37,38]) (.block 2 (.loop c38_6))
def c38_10:zL:=jR [jB 34 .add 17 1,m 17 34] [0,4,5,15,16,17]
def c38_11:zL:=jR [m 28 0,m 29 9,u 30 29,f 31 0 7,l 32 31,o 33 (.call 83 [(.s 28),(.s 30),(.c (jN 45)),(.s 32)])] [0,4,5,15,16,17]
def c38_12:zL:=jS (jR [jL 22 7 5,f 23 0 7,l 24 23,o 25 (.call 85 [(.s 22),(.s 24)]),m 21 25,x 26 21 0,x 27 21 1,o 8 (.alloc [.t (.str []),.zC,.t (.str []),.zC,.zC]),jO (.st 5 (.s 8) (.s 26)),m 9 27] [0,4,5,7,9,15,16,17]) c38_11
def c38_13:zL:=jS (jR [i 19 5 15 17,jL 20 5 19,o 7 (.alloc [.t (.str []),.zC,.t (.str []),.zC,.zC]),jO (.st 5 (.s 7) (.s 20))] [0,4,5,7,15,16,17]) c38_12
def c38_16:zL:=jS (jR [b 18 .lss 17 16] [0,4,5,15,16,17,18]) (jS (jC 18 .skip (.exit 0)) (jS (.block 1 c38_13) c38_10))
def c38_19:zL:=jS (jS (jR [f 14 4 4,l 15 14,e 16 15,jI 17 0] [0,4,5,15,16,17]) (.block 0 (.loop c38_16))) c38_9
def c38:zL:=jS (jR [o 4 (.box 7 (.s 1)),o 5 (.box 7 (.s 2))] [0,4,5]) c38_19
def r38:List Qh:=[]
def n38:Nat:=56
def c39_1:zL:=jR [jB 69 .add 52 1,m 52 69] [0,1,7,50,51,52]
def c39_2:zL:=jR [m 63 0,m 64 15,u 65 64,f 66 0 13,l 67 66,o 68 (.call 83 [(.s 63),(.s 65),(.c (jN 45)),(.s 67)])] [0,1,7,50,51,52]
def c39_3:zL:=jS (jR [m 57 1,f 58 0 13,l 59 58,o 60 (.call 87 [(.s 57),(.s 59)]),m 56 60,x 61 56 0,x 62 56 1,o 14 (.alloc [.t (.str []),.zC]),jO (.st 2 (.s 14) (.s 61)),m 15 62] [0,1,7,13,15,50,51,52]) c39_2
def c39_4:zL:=jS (jR [i 54 2 50 52,jL 55 2 54,o 13 (.alloc [.t (.str []),.zC]),jO (.st 2 (.s 13) (.s 55))] [0,1,7,13,50,51,52]) c39_3
def c39_7:zL:=jS (jR [b 53 .lss 52 51] [0,1,7,50,51,52,53]) (jS (jC 53 .skip (.exit 2)) (jS (.block 3 c39_4) c39_1))
def c39_10:zL:=jS (jS (jR [m 50 2,e 51 50,jI 52 0] [0,1,7,50,51,52]) (.block 2 (.loop c39_7))) (jX [m 70 7,m 6 70] [6])
def c39_11:zL:=jR [jB 49 .add 18 1,m 18 49] [0,1,2,7,16,17,18]
def c39_12:zL:=jR [m 45 7,jL 46 2 9,o 47 (.bsl false 2 [[.str [],.lst []]] [(0,(.s 46))]),o 48 (.app 2 40 (.s 45) (.s 47)),m 7 48] [0,1,2,7,16,17,18]
def c39_13:zL:=jR [m 36 0,f 37 1 9,l 38 37,f 39 1 10,l 40 39,f 41 0 9,l 42 41,o 43 (.call 35 [(.s 36),(.s 38),(.s 40),(.s 42)]),f 44 1 9,jO (.st 1 (.s 44) (.s 43))] [0,1,2,7,9,16,17,18]
def c39_15:zL:=jS (jS (jR [m 35 11] [0,1,2,7,9,10,16,17,18,35]) (jC 35 c39_13 .skip)) c39_12
def c39_16:zL:=jS (jR [m 29 0,m 30 11,u 31 30,f 32 0 9,l 33 32,o 34 (.call 83 [(.s 29),(.s 31),(.c (jN 45)),(.s 33)])] [0,1,2,7,9,10,11,16,17,18]) c39_15
def c39_17:zL:=jS (jR [m 23 2,f 24 0 9,l 25 24,o 26 (.call 87 [(.s 23),(.s 25)]),m 22 26,x 27 22 0,x 28 22 1,o 10 (.alloc [.t (.str []),.zC]),jO (.st 2 (.s 10) (.s 27)),m 11 28] [0,1,2,7,9,10,11,16,17,18]) c39_16
def c39_18:zL:=jS (jR [i 20 2 16 18,jL 21 2 20,o 9 (.alloc [.t (.str []),.zC]),jO (.st 2 (.s 9) (.s 21))] [0,1,2,7,9,16,17,18]) c39_17
def c39_21:zL:=jS (jR [b 19 .lss 18 17] [0,1,2,7,16,17,18,19]) (jS (jC 19 .skip (.exit 0)) (jS (.block 1 c39_18) c39_11))
def c39_24:zL:=jS (jS (jR [m 16 1,e 17 16,jI 18 0] [0,1,2,7,16,17,18]) (.block 0 (.loop c39_21))) c39_10
def c39_25:zL:=jS (jR [o 7 (.cst (.zC))] [0,1,2,7]) c39_24
def c39:zL:=jS (jR [o 6 (.cst (.zC))] [0,1,2]) c39_25
def r39:List Qh:=[.tmp 6]
def n39:Nat:=71
def c40_1:zL:=jR [m 67 0,m 68 13,u 69 68,f 70 0 11,l 71 70,o 72 (.call 83 [(.s 67),(.s 69),(.c (jN 45)),(.s 71)])] [0,1,54,55,56]
def c40_2:zL:=jS (jR [m 61 1,f 62 0 11,l 63 62,o 64 (.call 88 [(.s 61),(.s 63)]),m 60 64,x 65 60 0,x 66 60 1,o 12 (.alloc [.t (.str []),.t (.str []),.zC,.t (.bool false),jN 0,jN 0,.t (.str []),.zC,.zC,.zC]),jO (.st 10 (.s 12) (.s 65)),m 13 66] [0,1,11,13,54,55,56]) c40_1
def c40_3:zL:=jS (jR [i 58 10 54 56,jL 59 10 58,o 11 (.alloc [.t (.str []),.t (.str []),.zC,.t (.bool false),jN 0,jN 0,.t (.str []),.zC,.zC,.zC]),jO (.st 10 (.s 11) (.s 59))] [0,1,11,54,55,56]) c40_2
def c40_6:zL:=jS (jR [b 57 .lss 56 55] [0,1,54,55,56,57]) (jS (jC 57 .skip (.exit 3)) (jS (.block 4 c40_3) (jR [jB 73 .add 56 1,m 56 73] [0,1,54,55,56])))
def c40_9:zL:=jS (jR [m 54 2,e 55 54,jI 56 0] [0,1,54,55,56]) (.block 3 (.loop c40_6))
def c40_10:zL:=jR [jB 53 .add 16 1,m 16 53] [0,1,2,14,15,16]
def c40_11:zL:=jR [m 38 0,f 39 0 7,l 40 39,o 41 (.call 83 [(.s 38),(.c (.t (.bool true))),(.c (jN 45)),(.s 40)])] [0,1,2,14,15,16]
def c40_12:zL:=jR [m 49 0,f 50 0 7,l 51 50,o 52 (.call 83 [(.s 49),(.c (.t (.bool true))),(.c (jN 10)),(.s 51)])] [0,1,2,14,15,16]
def c40_13:zL:=jD [m 27 0,jL 28 10 7,jL 29 10 8,o 30 (.call 89 [(.s 28),(.s 29)]),u 31 30,f 32 0 7,l 33 32,o 34 (.call 83 [(.s 27),(.s 31),(.c (jN 22)),(.s 33)])] [[],[],[],[1,2],[3],[],[5],[0,4,6,3]] [0,1,2,14,15,16]
def c40_15:zL:=jS (jR [f 43 1 7,jL 44 2 43,f 45 1 8,jL 46 2 45,o 47 (.call 32 [(.s 44),(.s 46)]),u 48 47,m 42 48] [0,1,2,7,8,14,15,16,42]) (jC 42 c40_12 c40_13)
def c40_17:zL:=jS (jR [m 36 9,u 37 36,m 35 37] [0,1,2,7,8,14,15,16,35]) (jC 35 c40_11 c40_15)
def c40_19:zL:=jS (jR [m 21 2,f 22 0 7,l 23 22,o 24 (.call 88 [(.s 21),(.s 23)]),m 20 24,x 25 20 0,x 26 20 1,o 8 (.alloc [.t (.str []),.t (.str []),.zC,.t (.bool false),jN 0,jN 0,.t (.str []),.zC,.zC,.zC]),jO (.st 10 (.s 8) (.s 25)),m 9 26] [0,1,2,7,8,9,14,15,16]) (.block 2 c40_17)
def c40_20:zL:=jS (jR [i 18 10 14 16,jL 19 10 18,o 7 (.alloc [.t (.str []),.t (.str []),.zC,.t (.bool false),jN 0,jN 0,.t (.str []),.zC,.zC,.zC]),jO (.st 10 (.s 7) (.s 19))] [0,1,2,7,14,15,16]) c40_19
def c40_23:zL:=jS (jR [b 17 .lss 16 15] [0,1,2,14,15,16,17]) (jS (jC 17 .skip (.exit 0)) (jS (.block 1 c40_20) c40_10))
def c40:zL:=jS (jS (jR [m 14 1,e 15 14,jI 16 0] [0,1,2,14,15,16]) (.block 0 (.loop c40_23))) c40_9
def r40:List Qh:=[]
def n40:Nat:=74
def c51_4:zL:=jS (jD [m 17 0,m 18 5,i 19 1 17 18,l 20 19,m 21 1,m 22 5,i 23 1 21 22,l 24 23,b 25 .neq 20 24] [[],[],[0,1],[2],[],[],[4,5],[6],[3,7]] [0,1,5,25]) (jC 25 (jX [o 4 (.cst (.t (.bool false)))] [4]) .skip)
def c51_7:zL:=jS (jS (jR [m 11 5,m 12 0,e 13 12,b 14 .lss 11 13] [0,1,5,14]) (jC 14 .skip (.exit 0))) (jS (.block 1 c51_4) (jR [m 15 5,jB 16 .add 15 1,m 5 16] [0,1,5]))
def c51_13:zL:=jS (jS (jR [m 6 0,e 7 6,m 8 1,e 9 8,b 10 .neq 7 9] [0,1,10]) (jC 10 (jX [o 4 (.cst (.t (.bool false)))] [4]) .skip)) (jS (jS (jR [jI 5 0] [0,1,5]) (.block 0 (.loop c51_7))) (jX [o 4 (.cst (.t (.bool true)))] [4]))
def c51:zL:=jS (jR [o 4 (.cst (.t (.bool false)))] [0,1]) c51_13
def r51:List Qh:=[.tmp 4]
def n51:Nat:=26
def c52_4:zL:=jS (jD [m 17 0,m 18 5,i 19 2 17 18,f 20 0 19,l 21 20,m 22 1,m 23 5,i 24 2 22 23,f 25 0 24,l 26 25,b 27 .neq 21 26,m 28 27,hm 29 28 0,hm 30 28 5,hi 31 28 2 29 30,hf 32 28 1 31,hl 33 28 32,hm 34 28 1,hm 35 28 5,hi 36 28 2 34 35,hf 37 28 1 36,hl 38 28 37,ho 39 28 (.call 101 [(.s 33),(.s 38)]),ho 40 28 (.un .not (.s 39)),q 41 28 40] [[],[],[0,1],[2],[3],[],[],[5,6],[7],[8],[4,9],[10],[11],[11],[12,13,11],[14,11],[15,11],[11],[11],[17,18,11],[19,11],[20,11],[16,21,11,11],[22,11],[11,23]] [0,1,5,41]) (jC 41 (jX [o 4 (.cst (.t (.bool false)))] [4]) .skip)
def c52_7:zL:=jS (jS (jR [m 11 5,m 12 0,e 13 12,b 14 .lss 11 13] [0,1,5,14]) (jC 14 .skip (.exit 0))) (jS (.block 1 c52_4) (jR [m 15 5,jB 16 .add 15 1,m 5 16] [0,1,5]))
def c52_13:zL:=jS (jS (jR [m 6 0,e 7 6,m 8 1,e 9 8,b 10 .neq 7 9] [0,1,10]) (jC 10 (jX [o 4 (.cst (.t (.bool false)))] [4]) .skip)) (jS (jS (jR [jI 5 0] [0,1,5]) (.block 0 (.loop c52_7))) (jX [o 4 (.cst (.t (.bool true)))] [4]))
def c52:zL:=jS (jR [o 4 (.cst (.t (.bool false)))] [0,1]) c52_13
def r52:List Qh:=[.tmp 4]
def n52:Nat:=42
def c53_0:zL:=jX [f 5 0 2,l 6 5,f 7 0 3,l 8 7,b 9 .eql 6 8,m 10 9,gf 11 10 1 2,gl 12 10 11,gf 13 10 1 3,gl 14 10 13,go 15 10 (.call 102 [(.s 12),(.s 14)]),p 16 10 15,m 4 16] [4]
def c53:zL:=jS (jR [o 2 (.box 2 (.s 0)),o 3 (.box 2 (.s 1)),o 4 (.cst (.t (.bool false)))] [2,3]) c53_0
def r53:List Qh:=[.tmp 4]
def n53:Nat:=17
def c54_4:zL:=jS (jD [m 17 0,m 18 5,i 19 10 17 18,f 20 0 19,l 21 20,m 22 1,m 23 5,i 24 10 22 23,f 25 0 24,l 26 25,b 27 .neq 21 26,m 28 27,hm 29 28 0,hm 30 28 5,hi 31 28 10 29 30,hL 32 28 10 31,hm 33 28 1,hm 34 28 5,hi 35 28 10 33 34,hL 36 28 10 35,ho 37 28 (.call 93 [(.s 32),(.s 36)]),ho 38 28 (.un .not (.s 37)),q 39 28 38,m 40 39,hm 41 40 0,hm 42 40 5,hi 43 40 10 41 42,hf 44 40 9 43,hl 45 40 44,hm 46 40 1,hm 47 40 5,hi 48 40 10 46 47,hf 49 40 9 48,hl 50 40 49,ho 51 40 (.call 52 [(.s 45),(.s 50)]),ho 52 40 (.un .not (.s 51)),q 53 40 52] [[],[],[0,1],[2],[3],[],[],[5,6],[7],[8],[4,9],[10],[11],[11],[12,13,11],[14,11],[11],[11],[16,17,11],[18,11],[15,19,11,11],[20,11],[11,21],[22,20],[23],[23],[24,25,23],[26,23],[27,23],[23],[23],[29,30,23],[31,23],[32,23],[28,33,23,23],[34,23],[23,35]] [0,1,5,53]) (jC 53 (jX [o 4 (.cst (.t (.bool false)))] [4]) .skip)
def c54_7:zL:=jS (jS (jR [m 11 5,m 12 0,e 13 12,b 14 .lss 11 13] [0,1,5,14]) (jC 14 .skip (.exit 0))) (jS (.block 1 c54_4) (jR [m 15 5,jB 16 .add 15 1,m 5 16] [0,1,5]))
def c54_13:zL:=jS (jS (jR [m 6 0,e 7 6,m 8 1,e 9 8,b 10 .neq 7 9] [0,1,10]) (jC 10 (jX [o 4 (.cst (.t (.bool false)))] [4]) .skip)) (jS (jS (jR [jI 5 0] [0,1,5]) (.block 0 (.loop c54_7))) (jX [o 4 (.cst (.t (.bool true)))] [4]))
def c54:zL:=jS (jR [o 4 (.cst (.t (.bool false)))] [0,1]) c54_13
def r54:List Qh:=[.tmp 4]
def n54:Nat:=54
def c55_4:zL:=jS (jD [m 17 0,m 18 5,i 19 2 17 18,f 20 0 19,l 21 20,m 22 1,m 23 5,i 24 2 22 23,f 25 0 24,l 26 25,b 27 .neq 21 26,m 28 27,hm 29 28 0,hm 30 28 5,hi 31 28 2 29 30,hf 32 28 1 31,hl 33 28 32,hm 34 28 1,hm 35 28 5,hi 36 28 2 34 35,hf 37 28 1 36,hl 38 28 37,ho 39 28 (.call 52 [(.s 33),(.s 38)]),ho 40 28 (.un .not (.s 39)),q 41 28 40] [[],[],[0,1],[2],[3],[],[],[5,6],[7],[8],[4,9],[10],[11],[11],[12,13,11],[14,11],[15,11],[11],[11],[17,18,11],[19,11],[20,11],[16,21,11,11],[22,11],[11,23]] [0,1,5,41]) (jC 41 (jX [o 4 (.cst (.t (.bool false)))] [4]) .skip)
def c55_7:zL:=jS (jS (jR [m 11 5,m 12 0,e 13 12,b 14 .lss 11 13] [0,1,5,14]) (jC 14 .skip (.exit 0))) (jS (.block 1 c55_4) (jR [m 15 5,jB 16 .add 15 1,m 5 16] [0,1,5]))
def c55_13:zL:=jS (jS (jR [m 6 0,e 7 6,m 8 1,e 9 8,b 10 .neq 7 9] [0,1,10]) (jC 10 (jX [o 4 (.cst (.t (.bool false)))] [4]) .skip)) (jS (jS (jR [jI 5 0] [0,1,5]) (.block 0 (.loop c55_7))) (jX [o 4 (.cst (.t (.bool true)))] [4]))
def c55:zL:=jS (jR [o 4 (.cst (.t (.bool false)))] [0,1]) c55_13
def r55:List Qh:=[.tmp 4]
def n55:Nat:=42
def c60_0:zL:=jX [o 24 (.build [.t (.str []),.t (.str []),.zC,.t (.bool false),jN 0,jN 0,.t (.str []),.zC,.zC,.zC] []),jO (.st 10 (.s 4) (.s 24)),o 5 (.cst (.t (.bool false)))] [4,5]
def c60_1:zL:=jR [m 11 6,jB 12 .add 11 1,m 6 12] [0,1,4,6]
def c60_2:zL:=jX [m 20 0,m 21 6,i 22 10 20 21,jL 23 10 22,jO (.st 10 (.s 4) (.s 23)),o 5 (.cst (.t (.bool true)))] [4,5]
def c60_4:zL:=jS (jR [m 13 0,m 14 6,i 15 10 13 14,f 16 0 15,l 17 16,m 18 1,b 19 .eql 17 18] [0,1,4,6,19]) (jC 19 c60_2 .skip)
def c60_7:zL:=jS (jS (jR [m 7 6,m 8 0,e 9 8,b 10 .lss 7 9] [0,1,4,6,10]) (jC 10 .skip (.exit 0))) (jS (.block 1 c60_4) c60_1)
def c60:zL:=jS (jR [o 4 (.alloc [.t (.str []),.t (.str []),.zC,.t (.bool false),jN 0,jN 0,.t (.str []),.zC,.zC,.zC]),o 5 (.cst (.t (.bool false)))] [0,1,4]) (jS (jS (jR [jI 6 0] [0,1,4,6]) (.block 0 (.loop c60_7))) c60_0)
def r60:List Qh:=[.cell 4 true 10,.tmp 5]
def n60:Nat:=25
def c61_1:zL:=jX [f 58 4 1,l 59 58,o 60 (.call 108 [(.s 59)]),m 61 60,gm 62 61 6,p 63 61 62,m 64 63,gm 65 64 7,p 66 64 65,m 2 66] [2]
def c61_2:zL:=jX [m 69 4,m 70 69,gf 71 70 4 1,gl 72 70 71,go 73 70 (.call 108 [(.s 72)]),p 74 70 73,m 75 74,gm 76 75 6,p 77 75 76,m 78 77,gm 79 78 7,p 80 78 79,m 2 80] [2]
def c61_3:zL:=jS (jR [m 83 4,m 84 83,gm 85 84 5,p 86 84 85,m 87 86,gf 88 87 5 1,gl 89 87 88,go 90 87 (.call 109 [(.s 89),(.c (.t (.bool true)))]),p 91 87 90,m 92 91,gm 93 92 7,p 94 92 93,m 2 94] [2]) .ret
def c61_4:zL:=jS (jR [m 97 4,m 98 97,gm 99 98 5,p 100 98 99,m 101 100,gf 102 101 5 1,gl 103 101 102,go 104 101 (.call 109 [(.s 103),(.c (.t (.bool false)))]),p 105 101 104,m 106 105,gm 107 106 7,p 108 106 107,m 2 108] [2]) .ret
def c61_5:zL:=jX [m 111 4,m 112 111,gm 113 112 5,p 114 112 113,m 115 114,gm 116 115 6,p 117 115 116,m 118 117,gf 119 118 6 1,gl 120 118 119,ge 121 118 120,gB 122 118 .gtr 121 0,p 123 118 122,m 124 123,gf 125 124 6 1,gl 126 124 125,go 127 124 (.call 110 [(.s 126)]),p 128 124 127,m 2 128] [2]
def c61_7:zL:=jS (jR [jB 110 .eql 55 5,m 109 110] [1,4,5,6,109]) (jC 109 c61_5 .skip)
def c61_9:zL:=jS (jR [jB 96 .eql 55 4,m 95 96] [1,4,5,6,7,55,95]) (jC 95 c61_4 c61_7)
def c61_11:zL:=jS (jR [jB 82 .eql 55 3,m 81 82] [1,4,5,6,7,55,81]) (jC 81 c61_3 c61_9)
def c61_13:zL:=jS (jR [jB 68 .eql 55 2,m 67 68] [1,4,5,6,7,55,67]) (jC 67 c61_2 c61_11)
def c61_15:zL:=jS (jR [jB 57 .eql 55 1,m 56 57] [1,4,5,6,7,55,56]) (jC 56 c61_1 c61_13)
def c61_17:zL:=jS (jS (jR [f 54 0 1,l 55 54] [1,4,5,6,7,55]) (.block 2 c61_15)) (jX [o 2 (.cst (.t (.bool false)))] [2])
def c61_18:zL:=jS (jD [f 38 2 1,l 39 38,e 40 39,jB 41 .eql 40 0,f 42 4 1,l 43 42,e 44 43,jB 45 .eql 44 0,f 46 5 1,l 47 46,e 48 47,jB 49 .eql 48 0,f 50 6 1,l 51 50,e 52 51,jB 53 .eql 52 0,m 4 41,m 5 45,m 6 49,m 7 53] [[],[0],[1],[2],[],[4],[5],[6],[],[8],[9],[10],[],[12],[13],[14],[3,0,1,2,3],[7,16,0,1,2,3,4,5,6,7,16],[11,17,0,1,2,3,4,5,6,7,8,9,10,11,16,17],[15,18,0,1,2,3,4,5,6,7,8,9,10,11,12,13,14,15,16,17,18]] [1,4,5,6,7]) c61_17
def c61_22:zL:=jS (jR [f 31 2 1,l 32 31,m 33 3,i 34 1 32 33,l 35 34,o 36 (.call 106 [(.s 35)]),u 37 36] [1,3,37]) (jC 37 (jX [o 2 (.cst (.t (.bool false)))] [2]) .skip)
def c61_25:zL:=jS (jS (jR [m 24 3,f 25 2 1,l 26 25,e 27 26,b 28 .lss 24 27] [1,3,28]) (jC 28 .skip (.exit 0))) (jS (.block 1 c61_22) (jR [m 29 3,jB 30 .add 29 1,m 3 30] [1,3]))
def c61_31:zL:=jS (jS (jR [f 8 1 1,l 9 8,o 10 (.call 106 [(.s 9)]),u 11 10,m 12 11,hf 13 12 3 1,hl 14 12 13,ho 15 12 (.call 107 [(.s 14)]),ho 16 12 (.un .not (.s 15)),q 17 12 16,m 18 17,hf 19 18 2 1,hl 20 18 19,he 21 18 20,hB 22 18 .gtr 21 64,q 23 18 22] [1,23]) (jC 23 (jX [o 2 (.cst (.t (.bool false)))] [2]) .skip)) (jS (jS (jR [jI 3 0] [1,3]) (.block 0 (.loop c61_25))) c61_18)
def c61:zL:=jS (jR [o 1 (.box 7 (.s 0)),o 2 (.cst (.t (.bool false)))] [1]) c61_31
def r61:List Qh:=[.tmp 2]
def n61:Nat:=129
def c62_0:zL:=jX [m 93 8,m 4 93] [4]
def c62_1:zL:=jR [m 87 8,f 88 1 5,l 89 88,o 90 (.build [jN 0,.t (.str [])] [(0,1,(.c (jN 5))),(1,1,(.s 89))]),o 91 (.bsl false 2 [[.int .i64 0,.str []]] [(0,(.s 90))]),o 92 (.app 2 24 (.s 87) (.s 91)),m 8 92] [8]
def c62_3:zL:=jS (jS (jR [jL 84 1 2,jL 85 7 5,o 86 (.call 114 [(.s 84),(.s 85)])] [5,8,86]) (jC 86 c62_1 .skip)) c62_0
def c62_4:zL:=jR [m 78 8,f 79 1 5,l 80 79,o 81 (.build [jN 0,.t (.str [])] [(0,1,(.c (jN 9))),(1,1,(.s 80))]),o 82 (.bsl false 2 [[.int .i64 0,.str []]] [(0,(.s 81))]),o 83 (.app 2 24 (.s 78) (.s 82)),m 8 83] [2,5,8]
def c62_6:zL:=jS (jS (jR [m 62 9,m 63 62,gf 64 63 0 5,gl 65 63 64,gB 66 63 .neq 65 1,p 67 63 66,m 68 67,hf 69 68 0 5,hl 70 68 69,hB 71 68 .lss 70 1,q 72 68 71,m 73 72,hf 74 73 0 5,hl 75 73 74,hB 76 73 .gtr 75 5,q 77 73 76] [2,5,8,77]) (jC 77 c62_4 .skip)) c62_3
def c62_7:zL:=jS (jR [f 49 1 5,l 50 49,o 51 (.bin .eql (.s 50) (.c (.t (.str [81,117,101,114,121])))),m 52 51,hf 53 52 1 5,hl 54 52 53,ho 55 52 (.bin .eql (.s 54) (.c (.t (.str [77,117,116,97,116,105,111,110])))),q 56 52 55,m 57 56,hf 58 57 1 5,hl 59 57 58,ho 60 57 (.bin .eql (.s 59) (.c (.t (.str [83,117,98,115,99,114,105,112,116,105,111,110])))),q 61 57 60,m 9 61] [2,5,8,9]) c62_6
def c62_8:zL:=jR [m 43 8,f 44 1 5,l 45 44,o 46 (.build [jN 0,.t (.str [])] [(0,1,(.c (jN 8))),(1,1,(.s 45))]),o 47 (.bsl false 2 [[.int .i64 0,.str []]] [(0,(.s 46))]),o 48 (.app 2 24 (.s 43) (.s 47)),m 8 48] [2,5,8]
def c62_10:zL:=jS (jS (jR [jL 41 7 5,o 42 (.call 113 [(.s 41)])] [2,5,8,42]) (jC 42 c62_8 .skip)) c62_7
def c62_11:zL:=jS (jR [f 35 1 5,l 36 35,m 37 6,f 38 1 5,l 39 38,o 40 (.call 112 [(.s 36),(.c (.t (.bool false))),(.s 37),(.s 39)]),m 8 40] [2,5,8]) c62_10
def c62_12:zL:=jR [m 21 7,jB 22 .add 21 1,m 7 22] [1,2,5,6,7]
def c62_13:zL:=jD [m 23 6,m 24 23,hf 25 24 0 2,hl 26 24 25,hm 27 24 7,hi 28 24 7 26 27,hf 29 24 1 28,hl 30 24 29,hf 31 24 1 5,hl 32 24 31,hb 33 24 .eql 30 32,q 34 24 33,m 6 34] [[],[0],[1],[2,1],[1],[3,4,1],[5,1],[6,1],[1],[8,1],[7,9,1],[1,10],[11,1,0,1,2,3,4,5,6,7,8,9,10,11]] [1,2,5,6,7]
def c62_16:zL:=jS (jS (jR [m 18 7,m 19 1,b 20 .lss 18 19] [1,2,5,6,7,20]) (jC 20 .skip (.exit 0))) (jS (.block 1 c62_13) c62_12)
def c62_19:zL:=jS (jS (jR [jI 7 0] [1,2,5,6,7]) (.block 0 (.loop c62_16))) c62_11
def c62_20:zL:=jS (jR [f 15 1 5,l 16 15,o 17 (.call 111 [(.s 16)]),m 6 17] [1,2,5,6]) c62_19
def c62_21:zL:=jS (jR [f 10 0 2,l 11 10,m 12 1,i 13 7 11 12,jL 14 7 13,o 5 (.alloc [jN 0,.t (.str []),.zC,.zC,.zC,.zC,.zC]),jO (.st 7 (.s 5) (.s 14))] [1,2,5]) c62_20
def c62:zL:=jS (jR [o 2 (.box 1 (.s 0)),o 4 (.cst (.zC))] [1,2]) c62_21
def r62:List Qh:=[.tmp 4]
def n62:Nat:=94
def c63_1:zL:=jR [m 18 6,jB 19 .add 18 1,m 6 19] [2,3,5,6]
def c63_2:zL:=jR [m 86 5,jL 87 1 2,f 88 1 7,l 89 88,m 90 8,o 91 (.bin .add (.s 90) (.c (.t (.str [40])))),o 92 (.call 65 [(.s 87),(.s 89),(.s 91),(.c (.t (.str [41])))]),o 93 (.app 2 24 (.s 86) (.s 92)),m 5 93] [2,3,5,6]
def c63_3:zL:=jR [m 63 5,m 64 8,o 65 (.build [jN 0,.t (.str [])] [(0,1,(.c (jN 8))),(1,1,(.s 64))]),o 66 (.bsl false 2 [[.int .i64 0,.str []]] [(0,(.s 65))]),o 67 (.app 2 24 (.s 63) (.s 66)),m 5 67] [2,3,5,6,7,8]
def c63_4:zL:=jR [m 81 5,m 82 8,o 83 (.build [jN 0,.t (.str [])] [(0,1,(.c (jN 10))),(1,1,(.s 82))]),o 84 (.bsl false 2 [[.int .i64 0,.str []]] [(0,(.s 83))]),o 85 (.app 2 24 (.s 81) (.s 84)),m 5 85] [2,3,5,6,7,8]
def c63_6:zL:=jS (jR [f 68 2 7,f 69 0 68,l 70 69,o 71 (.call 111 [(.s 70)]),u 72 71,m 73 72,gm 74 73 12,p 75 73 74,m 76 75,gf 77 76 0 11,gl 78 76 77,gB 79 76 .eql 78 5,p 80 76 79] [2,3,5,6,7,8,80]) (jC 80 c63_4 .skip)
def c63_8:zL:=jS (jS (jR [jL 57 1 2,f 58 2 7,f 59 0 58,l 60 59,o 61 (.call 115 [(.s 57),(.s 60)]),u 62 61] [2,3,5,6,7,8,11,12,62]) (jC 62 c63_3 c63_6)) c63_2
def c63_9:zL:=jS (jR [jL 50 1 2,f 51 2 7,f 52 0 51,l 53 52,o 54 (.call 12 [(.s 50),(.s 53)]),m 49 54,x 55 49 0,x 56 49 1,o 11 (.alloc [jN 0,.t (.str []),.zC,.zC,.zC,.zC,.zC]),jO (.st 7 (.s 11) (.s 55)),m 12 56] [2,3,5,6,7,8,11,12]) c63_8
def c63_10:zL:=jS (jR [m 42 5,f 43 0 7,l 44 43,m 45 10,m 46 8,o 47 (.call 112 [(.s 44),(.c (.t (.bool false))),(.s 45),(.s 46)]),o 48 (.app 2 24 (.s 42) (.s 47)),m 5 48] [2,3,5,6,7,8]) c63_9
def c63_11:zL:=jS (jD [f 32 4 3,l 33 32,m 34 6,o 35 (.sll 5 (.s 33) none (some (.s 34))),o 36 (.build [jN 0,.t (.str []),.zC,.zC,.zC,.zC,.zC] [(4,1,(.s 35))]),f 37 0 7,l 38 37,o 39 (.call 13 [(.s 36),(.s 38)]),m 31 39,x 40 31 0,x 41 31 1,o 9 (.alloc [.t (.str []),.zC,.t (.str []),.zC,.zC]),jO (.st 5 (.s 9) (.s 40)),m 10 41] [[],[0],[],[1,2],[3],[],[5],[4,6],[7],[8],[8],[],[11,9,7,0,1,2,3,4,5,6,7,8,9,11],[10,12,0,1,2,3,4,5,6,7,8,9,10,11,12]] [2,3,5,6,7,8,10]) c63_10
def c63_12:zL:=jS (jR [f 25 1 3,l 26 25,o 27 (.bin .add (.s 26) (.c (.t (.str [46])))),f 28 0 7,l 29 28,b 30 .add 27 29,m 8 30] [2,3,5,6,7,8]) c63_11
def c63_13:zL:=jS (jR [f 20 4 3,l 21 20,m 22 6,i 23 5 21 22,jL 24 5 23,o 7 (.alloc [.t (.str []),.zC,.t (.str []),.zC,.zC]),jO (.st 5 (.s 7) (.s 24))] [2,3,5,6,7]) c63_12
def c63_16:zL:=jS (jS (jR [m 13 6,f 14 4 3,l 15 14,e 16 15,b 17 .lss 13 16] [2,3,5,6,17]) (jC 17 .skip (.exit 0))) (jS (.block 1 c63_13) c63_1)
def c63_19:zL:=jS (jS (jR [jI 6 0] [2,3,5,6]) (.block 0 (.loop c63_16))) (jX [m 94 5,m 4 94] [4])
def c63:zL:=jS (jR [o 2 (.box 1 (.s 0)),o 3 (.box 7 (.s 1)),o 4 (.cst (.zC))] [2,3]) (jS (jR [o 5 (.cst (.zC))] [2,3,5]) c63_19)
def r63:List Qh:=[.tmp 4]
def n63:Nat:=95
def c64_2:zL:=jR [m 37 3,m 38 5,m 39 5,o 40 (.bin .eql (.s 39) (.c (.t (.str [116,114,117,101])))),m 41 40,hm 42 41 5,ho 43 41 (.bin .eql (.s 42) (.c (.t (.str [102,97,108,115,101])))),q 44 41 43,m 45 44,hm 46 45 5,ho 47 45 (.bin .eql (.s 46) (.c (.t (.str [110,117,108,108])))),q 48 45 47,m 49 6,f 50 1 1,l 51 50,o 52 (.bin .add (.s 51) (.c (.t (.str [46])))),m 53 5,b 54 .add 52 53,o 55 (.call 112 [(.s 38),(.s 48),(.s 49),(.s 54)]),o 56 (.app 2 24 (.s 37) (.s 55)),m 3 56] [1,3,4]
def c64_3:zL:=jR [m 24 7,jB 25 .add 24 1,m 7 25] [1,3,4,5,6,7]
def c64_4:zL:=jR [m 26 6,m 27 26,hf 28 27 5 1,hl 29 27 28,hm 30 27 7,hi 31 27 2 29 30,hf 32 27 0 31,hl 33 27 32,hm 34 27 5,hb 35 27 .eql 33 34,q 36 27 35,m 6 36] [1,3,4,5,6,7]
def c64_7:zL:=jS (jS (jR [m 21 7,m 22 4,b 23 .lss 21 22] [1,3,4,5,6,7,23]) (jC 23 .skip (.exit 2))) (jS (.block 3 c64_4) c64_3)
def c64_10:zL:=jS (jS (jR [jI 7 0] [1,3,4,5,6,7]) (.block 2 (.loop c64_7))) c64_2
def c64_11:zL:=jS (jR [o 6 (.cst (.t (.bool false)))] [1,3,4,5,6]) c64_10
def c64_12:zL:=jS (jR [f 15 5 1,l 16 15,m 17 4,i 18 2 16 17,f 19 0 18,l 20 19,m 5 20] [1,3,4,5]) c64_11
def c64_15:zL:=jS (jS (jR [m 8 4,f 9 5 1,l 10 9,e 11 10,b 12 .lss 8 11] [1,3,4,12]) (jC 12 .skip (.exit 0))) (jS (.block 1 c64_12) (jR [m 13 4,jB 14 .add 13 1,m 4 14] [1,3,4]))
def c64:zL:=jS (jR [o 1 (.box 7 (.s 0)),o 2 (.cst (.zC))] [1]) (jS (jR [o 3 (.cst (.zC))] [1,3]) (jS (jS (jR [jI 4 0] [1,3,4]) (.block 0 (.loop c64_15))) (jX [m 57 3,m 2 57] [2])))
def r64:List Qh:=[.tmp 2]
def n64:Nat:=58
def c65_1:zL:=jR [m 18 10,jB 19 .add 18 1,m 10 19] [1,2,3,4,9,10]
def c65_2:zL:=jR [m 60 9,m 61 11,o 62 (.build [jN 0,.t (.str [])] [(0,1,(.c (jN 8))),(1,1,(.s 61))]),o 63 (.bsl false 2 [[.int .i64 0,.str []]] [(0,(.s 62))]),o 64 (.app 2 24 (.s 60) (.s 63)),m 9 64] [1,2,3,4,9,10]
def c65_3:zL:=jR [m 74 9,m 75 11,o 76 (.build [jN 0,.t (.str [])] [(0,1,(.c (jN 10))),(1,1,(.s 75))]),o 77 (.bsl false 2 [[.int .i64 0,.str []]] [(0,(.s 76))]),o 78 (.app 2 24 (.s 74) (.s 77)),m 9 78] [1,2,3,4,9,10]
def c65_5:zL:=jS (jD [jL 65 1 4,m 66 1,m 67 10,i 68 10 66 67,f 69 1 68,f 70 0 69,l 71 70,o 72 (.call 116 [(.s 65),(.s 71)]),u 73 72] [[],[],[],[1,2],[3],[4],[5],[0,6],[7]] [1,2,3,4,9,10,11,73]) (jC 73 c65_3 .skip)
def c65_7:zL:=jS (jD [jL 51 1 4,m 52 1,m 53 10,i 54 10 52 53,f 55 1 54,f 56 0 55,l 57 56,o 58 (.call 115 [(.s 51),(.s 57)]),u 59 58] [[],[],[],[1,2],[3],[4],[5],[0,6],[7]] [1,2,3,4,9,10,11,59]) (jC 59 c65_2 c65_5)
def c65_8:zL:=jS (jR [m 41 9,m 42 1,m 43 10,i 44 10 42 43,f 45 0 44,l 46 45,m 47 13,m 48 11,o 49 (.call 112 [(.s 46),(.c (.t (.bool false))),(.s 47),(.s 48)]),o 50 (.app 2 24 (.s 41) (.s 49)),m 9 50] [1,2,3,4,9,10,11]) c65_7
def c65_9:zL:=jS (jD [m 30 1,m 31 10,o 32 (.sll 10 (.s 30) none (some (.s 31))),m 33 1,m 34 10,i 35 10 33 34,f 36 0 35,l 37 36,o 38 (.call 60 [(.s 32),(.s 37)]),m 29 38,x 39 29 0,x 40 29 1,o 12 (.alloc [.t (.str []),.t (.str []),.zC,.t (.bool false),jN 0,jN 0,.t (.str []),.zC,.zC,.zC]),jO (.st 10 (.s 12) (.s 39)),m 13 40] [[],[],[0,1],[],[],[3,4],[5],[6],[2,7],[8],[9],[9],[],[12,10,8,0,1,2,3,4,5,6,7,8,9,10,12],[11,13,0,1,2,3,4,5,6,7,8,9,10,11,12,13]] [1,2,3,4,9,10,11,13]) c65_8
def c65_10:zL:=jS (jR [m 20 2,m 21 1,m 22 10,i 23 10 21 22,f 24 0 23,l 25 24,b 26 .add 20 25,m 27 3,b 28 .add 26 27,m 11 28] [1,2,3,4,9,10,11]) c65_9
def c65_13:zL:=jS (jS (jR [m 14 10,m 15 1,e 16 15,b 17 .lss 14 16] [1,2,3,4,9,10,17]) (jC 17 .skip (.exit 0))) (jS (.block 1 c65_10) c65_1)
def c65_16:zL:=jS (jS (jR [jI 10 0] [1,2,3,4,9,10]) (.block 0 (.loop c65_13))) (jX [m 79 9,m 8 79] [8])
def c65_17:zL:=jS (jR [o 9 (.cst (.zC))] [1,2,3,4,9]) c65_16
def c65:zL:=jS (jR [o 4 (.box 1 (.s 0)),o 8 (.cst (.zC))] [1,2,3,4]) c65_17
def r65:List Qh:=[.tmp 8]
def n65:Nat:=80
def c66_1:zL:=jR [m 16 6,jB 17 .add 16 1,m 6 17] [2,3,5,6]
def c66_2:zL:=jR [m 63 10,jB 64 .add 63 1,m 10 64] [2,3,5,6,8,10]
def c66_3:zL:=jD [m 65 5,jL 66 1 2,jL 67 7 3,f 68 4 8,l 69 68,m 70 10,i 71 5 69 70,jL 72 5 71,o 73 (.call 119 [(.s 66),(.s 67),(.s 72)]),o 74 (.app 2 24 (.s 65) (.s 73)),m 5 74] [[],[],[],[],[3],[],[4,5],[6],[1,2,7],[0,8,8],[9,9,0,1,2,3,4,5,6,7,8,9]] [2,3,5,6,8,10]
def c66_6:zL:=jS (jS (jR [m 58 10,f 59 4 8,l 60 59,e 61 60,b 62 .lss 58 61] [2,3,5,6,8,10,62]) (jC 62 .skip (.exit 2))) (jS (.block 3 c66_3) c66_2)
def c66_10:zL:=jS (jD [jL 49 1 2,f 50 2 3,l 51 50,m 52 6,i 53 1 51 52,l 54 53,o 55 (.call 12 [(.s 49),(.s 54)]),m 48 55,x 56 48 0,x 57 48 1,o 8 (.alloc [jN 0,.t (.str []),.zC,.zC,.zC,.zC,.zC]),jO (.st 7 (.s 8) (.s 56)),m 9 57] [[],[],[1],[],[2,3],[4],[0,5],[6],[7],[7],[],[10,8,6,0,1,2,3,4,5,6,7,8,10],[9,11,0,1,2,3,4,5,6,7,8,9,10,11]] [2,3,5,6,8]) (jS (jR [jI 10 0] [2,3,5,6,8,10]) (.block 2 (.loop c66_6)))
def c66_11:zL:=jS (jR [m 41 5,m 42 7,f 43 1 3,l 44 43,o 45 (.build [jN 0,.t (.str [])] [(0,1,(.s 42)),(1,1,(.s 44))]),o 46 (.bsl false 2 [[.int .i64 0,.str []]] [(0,(.s 45))]),o 47 (.app 2 24 (.s 41) (.s 46)),m 5 47] [2,3,5,6]) (.exit 1)
def c66_13:zL:=jS (jS (jR [m 39 7,jB 40 .neq 39 0] [2,3,5,6,7,40]) (jC 40 c66_11 .skip)) c66_10
def c66_16:zL:=jS (jS (jD [m 25 7,jB 26 .eql 25 0,m 27 26,gf 28 27 2 3,gl 29 27 28,gm 30 27 6,go 31 27 (.sll 1 (.s 29) none (some (.s 30))),gf 32 27 2 3,gl 33 27 32,gm 34 27 6,gi 35 27 1 33 34,gl 36 27 35,go 37 27 (.call 118 [(.s 31),(.s 36)]),p 38 27 37] [[],[0],[1],[2],[3,2],[2],[4,5,2],[2],[7,2],[2],[8,9,2],[10,2],[6,11,2,2],[2,12]] [2,3,5,6,7,38]) (jC 38 (jR [jI 7 7] [2,3,5,6,7]) .skip)) c66_13
def c66_17:zL:=jS (jD [jL 18 1 2,f 19 2 3,l 20 19,m 21 6,i 22 1 20 21,l 23 22,o 24 (.call 117 [(.s 18),(.s 23),(.c (jN 2))]),m 7 24] [[],[],[1],[],[2,3],[4],[0,5],[6,6,0,1,2,3,4,5,6]] [2,3,5,6,7]) c66_16
def c66_20:zL:=jS (jS (jR [m 11 6,f 12 2 3,l 13 12,e 14 13,b 15 .lss 11 14] [2,3,5,6,15]) (jC 15 .skip (.exit 0))) (jS (.block 1 c66_17) c66_1)
def c66_23:zL:=jS (jS (jR [jI 6 0] [2,3,5,6]) (.block 0 (.loop c66_20))) (jX [m 75 5,m 4 75] [4])
def c66:zL:=jS (jR [o 2 (.box 1 (.s 0)),o 3 (.box 7 (.s 1)),o 4 (.cst (.zC))] [2,3]) (jS (jR [o 5 (.cst (.zC))] [2,3,5]) c66_23)
def r66:List Qh:=[.tmp 4]
def n66:Nat:=76
def c67_1:zL:=jR [m 14 6,jB 15 .add 14 1,m 6 15] [2,3,5,6]
def c67_2:zL:=jR [m 38 5,m 39 8,f 40 1 3,l 41 40,o 42 (.bin .add (.s 41) (.c (.t (.str [46])))),m 43 7,b 44 .add 42 43,o 45 (.build [jN 0,.t (.str [])] [(0,1,(.s 39)),(1,1,(.s 44))]),o 46 (.bsl false 2 [[.int .i64 0,.str []]] [(0,(.s 45))]),o 47 (.app 2 24 (.s 38) (.s 46)),m 5 47] [2,3,5,6]
def c67_4:zL:=jS (jR [m 36 8,jB 37 .neq 36 0] [2,3,5,6,7,8,37]) (jC 37 c67_2 .skip)
def c67_7:zL:=jS (jS (jR [m 25 8,jB 26 .eql 25 0,m 27 26,gf 28 27 5 3,gl 29 27 28,gm 30 27 6,go 31 27 (.sll 2 (.s 29) none (some (.s 30))),go 32 27 (.build [jN 0,.t (.str []),.zC,.zC,.zC,.zC,.zC] [(5,1,(.s 31))]),gm 33 27 7,go 34 27 (.call 120 [(.s 32),(.s 33)]),p 35 27 34] [2,3,5,6,7,8,35]) (jC 35 (jR [jI 8 7] [2,3,5,6,7,8]) .skip)) c67_4
def c67_8:zL:=jS (jR [jL 22 1 2,m 23 7,o 24 (.call 117 [(.s 22),(.s 23),(.c (jN 1))]),m 8 24] [2,3,5,6,7,8]) c67_7
def c67_9:zL:=jS (jR [f 16 5 3,l 17 16,m 18 6,i 19 2 17 18,f 20 0 19,l 21 20,m 7 21] [2,3,5,6,7]) c67_8
def c67_12:zL:=jS (jS (jR [m 9 6,f 10 5 3,l 11 10,e 12 11,b 13 .lss 9 12] [2,3,5,6,13]) (jC 13 .skip (.exit 0))) (jS (.block 1 c67_9) c67_1)
def c67_15:zL:=jS (jS (jR [jI 6 0] [2,3,5,6]) (.block 0 (.loop c67_12))) (jX [m 48 5,m 4 48] [4])
def c67:zL:=jS (jR [o 2 (.box 1 (.s 0)),o 3 (.box 7 (.s 1)),o 4 (.cst (.zC))] [2,3]) (jS (jR [o 5 (.cst (.zC))] [2,3,5]) c67_15)
def r67:List Qh:=[.tmp 4]
def n67:Nat:=49
def c68_2:zL:=jR [m 41 3,jL 42 2 6,o 43 (.bsl false 2 [[.str [],.lst []]] [(0,(.s 42))]),o 44 (.app 2 40 (.s 41) (.s 43)),m 3 44] [3,10,11,12]
def c68_3:zL:=jR [jB 40 .add 25 1,m 25 40] [3,6,10,11,12,23,24,25]
def c68_4:zL:=jD [f 29 1 6,l 30 29,f 31 0 8,l 32 31,f 33 1 8,jL 34 5 33,o 35 (.call 80 [(.s 34)]),o 36 (.build [.t (.str []),jN 0,jN 0,.t (.str []),.zC,.zC] [(0,1,(.s 32)),(1,5,(.s 35))]),o 37 (.bsl false 6 [[.str [],.int .i64 0,.int .i64 0,.str [],.lst [],.lst []]] [(0,(.s 36))]),o 38 (.app 6 96 (.s 30) (.s 37)),f 39 1 6,jO (.st 1 (.s 39) (.s 38))] [[],[0],[],[2],[],[4],[5],[3,6],[7],[1,8,6],[0,1,2,3,4,5,6,7,8,9],[10,9,9,0,1,2,3,4,5,6,7,8,9]] [3,6,10,11,12,23,24,25]
def c68_5:zL:=jS (jR [i 27 6 23 25,jL 28 6 27,o 8 (.alloc [.t (.str []),jN 0,jN 0,.t (.str []),.zC,.zC]),jO (.st 6 (.s 8) (.s 28))] [3,6,8,10,11,12,23,24,25]) c68_4
def c68_8:zL:=jS (jR [b 26 .lss 25 24] [3,6,10,11,12,23,24,25,26]) (jS (jC 26 .skip (.exit 2)) (jS (.block 3 c68_5) c68_3))
def c68_11:zL:=jS (jS (jR [f 22 1 5,l 23 22,e 24 23,jI 25 0] [3,6,10,11,12,23,24,25]) (.block 2 (.loop c68_8))) c68_2
def c68_12:zL:=jS (jR [f 19 0 5,l 20 19,o 21 (.build [.t (.str []),.zC] [(0,1,(.s 20))]),o 6 (.alloc [.t (.str []),.zC]),jO (.st 2 (.s 6) (.s 21))] [3,5,6,10,11,12]) c68_11
def c68_14:zL:=jS (jS (jR [m 16 3,o 17 (.ze7 123 [(.s 5)]),o 18 (.call 122 [(.s 16),(.s 17)])] [3,5,10,11,12,18]) (jC 18 (.exit 1) .skip)) c68_12
def c68_15:zL:=jS (jR [i 14 2 10 12,jL 15 2 14,o 5 (.alloc [.t (.str []),.zC]),jO (.st 2 (.s 5) (.s 15))] [3,5,10,11,12]) c68_14
def c68_18:zL:=jS (jR [b 13 .lss 12 11] [3,10,11,12,13]) (jS (jC 13 .skip (.exit 0)) (jS (.block 1 c68_15) (jR [jB 45 .add 12 1,m 12 45] [3,10,11,12])))
def c68_21:zL:=jS (jS (jR [m 9 0,o 10 (.call 121 [(.s 9)]),e 11 10,jI 12 0] [3,10,11,12]) (.block 0 (.loop c68_18))) (jX [m 46 3,m 2 46] [2])
def c68:zL:=jS (jR [o 2 (.cst (.zC))] [0]) (jS (jR [o 3 (.cst (.zC))] [0,3]) c68_21)
def r68:List Qh:=[.tmp 2]
def n68:Nat:=47
def c69_0:zL:=jS (jD [f 3 0 1,l 4 3,f 5 1 1,l 6 5,o 7 (.call 34 [(.s 6)]),f 8 2 1,f 9 0 8,l 10 9,f 11 2 1,f 12 1 11,l 13 12,o 14 (.call 79 [(.s 13)]),o 15 (.build [.t (.str []),.zC] [(0,1,(.s 10)),(1,1,(.s 14))]),f 16 4 1,l 17 16,o 18 (.call 68 [(.s 17)]),o 19 (.build [.t (.str []),.zC,.t (.str []),.zC,.zC] [(0,1,(.s 4)),(1,1,(.s 7)),(2,2,(.s 15)),(4,1,(.s 18))]),jO (.st 5 (.s 2) (.s 19))] [[],[0],[],[2],[3],[],[5],[6],[],[8],[9],[10,4],[7,11],[],[13],[14,11],[1,4,12,15],[16,15,0,1,2,3,4,5,6,7,8,9,10,11,12,13,14,15,16]] [2]) .ret
def c69:zL:=jS (jR [o 1 (.box 5 (.s 0)),o 2 (.alloc [.t (.str []),.zC,.t (.str []),.zC,.zC])] [1,2]) c69_0
def r69:List Qh:=[.cell 2 true 5]
def n69:Nat:=20
def c70_1:zL:=jR [jB 111 .add 95 1,m 95 111] [7,15,93,94,95]
def c70_2:zL:=jR [m 108 7,f 109 1 17,l 110 109,jO (.nw (.zaK [.str] false (.s 108) (.s 110)))] [7,15,93,94,95]
def c70_3:zL:=jS (jR [m 103 15,f 104 1 17,l 105 104,o 106 (.bsl false 1 [[.str []]] [(0,(.s 105))]),o 107 (.app 1 16 (.s 103) (.s 106)),m 15 107] [7,15,17,93,94,95]) c70_2
def c70_5:zL:=jS (jR [m 99 7,f 100 1 17,l 101 100,o 102 (.nw (.lookup [.str] false (.t (.bool false)) false (.s 99) (.s 101)))] [7,15,17,93,94,95,102]) (jC 102 c70_3 .skip)
def c70_6:zL:=jS (jR [i 97 7 93 95,jL 98 7 97,o 17 (.alloc [jN 0,.t (.str []),.zC,.zC,.zC,.zC,.zC]),jO (.st 7 (.s 17) (.s 98))] [7,15,17,93,94,95]) c70_5
def c70_9:zL:=jS (jR [b 96 .lss 95 94] [7,15,93,94,95,96]) (jS (jC 96 .skip (.exit 7)) (jS (.block 8 c70_6) c70_1))
def c70_12:zL:=jS (jS (jR [f 92 0 2,l 93 92,e 94 93,jI 95 0] [7,15,93,94,95]) (.block 7 (.loop c70_9))) (jX [m 112 15,m 4 112] [4])
def c70_13:zL:=jS (jR [o 15 (.cst (.zC))] [2,7,15]) c70_12
def c70_14:zL:=jR [m 90 7,m 91 12,jO (.nw (.zaK [.str] false (.s 90) (.s 91)))] [1,2,5,7,61]
def c70_16:zL:=jS (jR [m 72 14,u 73 72,m 74 73,hf 75 74 0 13,hl 76 74 75,hB 77 74 .neq 76 1,q 78 74 77,m 79 78,hf 80 79 0 5,hl 81 79 80,hB 82 79 .eql 81 2,hm 83 79 82,gL 84 83 7 13,gm 85 83 1,go 86 83 (.call 125 [(.s 84),(.s 85)]),go 87 83 (.un .not (.s 86)),ho 88 79 (.pick (.s 83) (.s 87) (.c (.t (.bool false)))),q 89 79 88] [1,2,5,7,12,61,89]) (jC 89 c70_14 .skip)
def c70_17:zL:=jS (jR [jL 67 1 2,m 68 12,o 69 (.call 28 [(.s 67),(.s 68)]),m 66 69,x 70 66 0,x 71 66 1,o 13 (.alloc [jN 0,.t (.str []),.zC,.zC,.zC,.zC,.zC]),jO (.st 7 (.s 13) (.s 70)),m 14 71] [1,2,5,7,12,13,14,61]) c70_16
def c70_18:zL:=jS (jR [o 64 (.nw (.z7v (.s 61))),x 65 64 0,m 12 65] [1,2,5,7,12,61]) c70_17
def c70_21:zL:=jS (jR [o 62 (.nw (.nxt (.s 61))),x 63 62 0] [1,2,5,7,61,63]) (jS (jC 63 .skip (.exit 5)) (.block 6 c70_18))
def c70_23:zL:=.block 5 (.loop c70_21)
def c70_24:zL:=jS (jS (jR [m 60 7,o 61 (.Qq (.s 60))] [1,2,5,7,61]) c70_23) c70_13
def c70_25:zL:=jR [m 29 7,m 30 1,jO (.nw (.zda [.str] false (.s 29) (.s 30) (.c (.t (.bool true)))))] [1,2,5,7]
def c70_26:zL:=jR [jB 46 .add 36 1,m 36 46] [1,2,5,7,34,35,36]
def c70_27:zL:=jR [m 43 7,f 44 1 9,l 45 44,jO (.nw (.zda [.str] false (.s 43) (.s 45) (.c (.t (.bool true)))))] [1,2,5,7,34,35,36]
def c70_29:zL:=jS (jR [jL 40 7 9,m 41 1,o 42 (.call 125 [(.s 40),(.s 41)])] [1,2,5,7,9,34,35,36,42]) (jC 42 c70_27 .skip)
def c70_30:zL:=jS (jR [i 38 7 34 36,jL 39 7 38,o 9 (.alloc [jN 0,.t (.str []),.zC,.zC,.zC,.zC,.zC]),jO (.st 7 (.s 9) (.s 39))] [1,2,5,7,9,34,35,36]) c70_29
def c70_33:zL:=jS (jR [b 37 .lss 36 35] [1,2,5,7,34,35,36,37]) (jS (jC 37 .skip (.exit 1)) (jS (.block 2 c70_30) c70_26))
def c70_36:zL:=jS (jR [f 33 0 2,l 34 33,e 35 34,jI 36 0] [1,2,5,7,34,35,36]) (.block 1 (.loop c70_33))
def c70_37:zL:=jR [jB 59 .add 52 1,m 52 59] [1,2,5,7,50,51,52]
def c70_38:zL:=jR [m 56 7,f 57 0 11,l 58 57,jO (.nw (.zda [.str] false (.s 56) (.s 58) (.c (.t (.bool true)))))] [1,2,5,7,50,51,52]
def c70_39:zL:=jS (jR [i 54 2 50 52,jL 55 2 54,o 11 (.alloc [.t (.str []),.zC]),jO (.st 2 (.s 11) (.s 55))] [1,2,5,7,11,50,51,52]) c70_38
def c70_42:zL:=jS (jR [b 53 .lss 52 51] [1,2,5,7,50,51,52,53]) (jS (jC 53 .skip (.exit 3)) (jS (.block 4 c70_39) c70_37))
def c70_45:zL:=jS (jR [f 49 5 5,l 50 49,e 51 50,jI 52 0] [1,2,5,7,50,51,52]) (.block 3 (.loop c70_42))
def c70_47:zL:=jS (jR [jB 48 .eql 26 3,m 47 48] [1,2,5,7,47]) (jC 47 c70_45 .skip)
def c70_49:zL:=jS (jR [jB 32 .eql 26 2,m 31 32] [1,2,5,7,26,31]) (jC 31 c70_36 c70_47)
def c70_51:zL:=jS (jR [jB 28 .eql 26 1,m 27 28] [1,2,5,7,26,27]) (jC 27 c70_25 c70_49)
def c70_53:zL:=jS (jS (jR [f 25 0 5,l 26 25] [1,2,5,7,26]) (.block 0 c70_51)) c70_24
def c70_54:zL:=jS (jR [o 24 (.z3t false false),m 7 24] [1,2,5,7]) c70_53
def c70_55:zL:=jS (jR [jL 19 1 2,m 20 1,o 21 (.call 28 [(.s 19),(.s 20)]),m 18 21,x 22 18 0,x 23 18 1,o 5 (.alloc [jN 0,.t (.str []),.zC,.zC,.zC,.zC,.zC]),jO (.st 7 (.s 5) (.s 22)),m 6 23] [1,2,5]) c70_54
def c70:zL:=jS (jR [o 2 (.box 1 (.s 0)),o 4 (.cst (.zC))] [1,2]) c70_55
def r70:List Qh:=[.tmp 4]
def n70:Nat:=113
def c71_0:zL:=jX [m 5 0,m 6 1,o 7 (.call 126 [(.s 5),(.s 6)]),jB 8 .geq 7 0,m 4 8] [4]
def c71:zL:=jS (jR [o 4 (.cst (.t (.bool false)))] [0,1]) c71_0
def r71:List Qh:=[.tmp 4]
def n71:Nat:=9
def c72_0:zL:=jS (jD [m 15 6,m 16 15,gf 17 16 1 3,gL 18 16 1 17,gf 19 16 1 1,gl 20 16 19,go 21 16 (.call 70 [(.s 18),(.s 20)]),gl 22 16 2,go 23 16 (.call 73 [(.s 21),(.s 22)]),go 24 16 (.un .not (.s 23)),p 25 16 24,m 4 25] [[],[0],[1],[2,1],[1],[4,1],[3,5,1,1],[1],[6,7,6,1],[8,1],[1,9],[10,8,0,1,2,3,4,5,6,7,8,9,10]] [4]) .ret
def c72_1:zL:=jS (jR [f 8 1 3,jL 9 1 8,f 10 1 1,l 11 10,o 12 (.call 28 [(.s 9),(.s 11)]),m 7 12,x 13 7 0,x 14 7 1,o 5 (.alloc [jN 0,.t (.str []),.zC,.zC,.zC,.zC,.zC]),jO (.st 7 (.s 5) (.s 13)),m 6 14] [1,2,3,6]) c72_0
def c72:zL:=jS (jR [o 3 (.box 2 (.s 0)),o 4 (.cst (.t (.bool false)))] [1,2,3]) c72_1
def r72:List Qh:=[.tmp 4]
def n72:Nat:=26
def c73_0:zL:=jX [m 6 5,m 7 0,m 8 1,o 9 (.z13 (.s 6) [(.s 7),(.s 8)]),m 10 9,gm 11 10 5,gm 12 10 1,gm 13 10 0,go 14 10 (.z13 (.s 11) [(.s 12),(.s 13)]),p 15 10 14,m 4 15] [4]
def c73_1:zL:=jS (jR [o 5 (.cst (.t (.fn 127)))] [0,1,5]) c73_0
def c73:zL:=jS (jR [o 4 (.cst (.t (.bool false)))] [0,1]) c73_1
def r73:List Qh:=[.tmp 4]
def n73:Nat:=16
def c74_0:zL:=jS (jR [f 19 4 1,l 20 19,o 21 (.call 130 [(.s 20),(.c (.t (.fn 131)))]),m 22 21,hf 23 22 5 1,hl 24 22 23,ho 25 22 (.call 132 [(.s 24),(.c (.t (.fn 133)))]),q 26 22 25,m 2 26] [2]) .ret
def c74_3:zL:=jS (jS (jR [f 3 2 1,l 4 3,e 5 4,jB 6 .gtr 5 64,m 7 6,hf 8 7 4 1,hl 9 7 8,he 10 7 9,hB 11 7 .gtr 10 64,q 12 7 11,m 13 12,hf 14 13 3 1,hl 15 13 14,he 16 13 15,hB 17 13 .gtr 16 16,q 18 13 17] [1,18]) (jC 18 (jX [o 2 (.cst (.t (.bool true)))] [2]) .skip)) c74_0
def c74:zL:=jS (jR [o 1 (.box 7 (.s 0)),o 2 (.cst (.t (.bool false)))] [1]) c74_3
def r74:List Qh:=[.tmp 2]
def n74:Nat:=27
def c75_0:zL:=jS (jD [f 5 0 2,l 6 5,f 7 0 3,l 8 7,b 9 .eql 6 8,m 10 9,gf 11 10 1 2,gl 12 10 11,go 13 10 (.call 134 [(.s 12)]),gf 14 10 1 3,gl 15 10 14,go 16 10 (.call 134 [(.s 15)]),go 17 10 (.call 78 [(.s 13),(.s 16)]),p 18 10 17,m 4 18] [[],[0],[],[2],[1,3],[4],[5],[6,5],[7,5,5],[5],[9,5],[10,8,5],[8,11,11,5],[5,12],[13,12,0,1,2,3,4,5,6,7,8,9,10,11,12,13]] [4]) .ret
def c75:zL:=jS (jR [o 2 (.box 2 (.s 0)),o 3 (.box 2 (.s 1)),o 4 (.cst (.t (.bool false)))] [2,3]) c75_0
def r75:List Qh:=[.tmp 4]
def n75:Nat:=19
def c76_0:zL:=jX [f 3 1 1,l 4 3,e 5 4,jB 6 .gtr 5 0,m 7 6,gf 8 7 1 1,gl 9 7 8,go 10 7 (.ia 1 (.s 9) (.c (jN 0))),gl 11 7 10,gB 12 7 .eql 11 1,p 13 7 12,m 2 13] [2]
def c76:zL:=jS (jR [o 1 (.box 2 (.s 0)),o 2 (.cst (.t (.bool false)))] [1]) c76_0
def r76:List Qh:=[.tmp 2]
def n76:Nat:=14
def c77_0:zL:=jX [jL 14 2 1,jO (.st 2 (.s 2) (.s 14)),o 3 (.cst (.t (.bool true)))] [2,3]
def c77_1:zL:=jS (jR [f 10 1 1,l 11 10,o 12 (.sll 1 (.s 11) (some (.c (jN 1))) none),f 13 1 1,jO (.st 1 (.s 13) (.s 12))] [1,2]) c77_0
def c77_2:zL:=jS (jR [jL 8 2 1,o 9 (.call 136 [(.s 8)]),jO (.st 2 (.s 1) (.s 9))] [1,2]) c77_1
def c77_3:zL:=jX [o 7 (.build [.t (.str []),.zC] []),jO (.st 2 (.s 2) (.s 7)),o 3 (.cst (.t (.bool false)))] [2,3]
def c77_5:zL:=jS (jS (jR [jL 4 2 1,o 5 (.call 135 [(.s 4)]),u 6 5] [1,2,6]) (jC 6 c77_3 .skip)) c77_2
def c77:zL:=jS (jR [o 1 (.box 2 (.s 0)),o 2 (.alloc [.t (.str []),.zC]),o 3 (.cst (.t (.bool false)))] [1,2]) c77_5
def r77:List Qh:=[.cell 2 true 2,.tmp 3]
def n77:Nat:=15
def c78_4:zL:=jS (jD [m 16 0,m 17 5,i 18 1 16 17,l 19 18,m 20 1,m 21 5,i 22 1 20 21,l 23 22,b 24 .neq 19 23] [[],[],[0,1],[2],[],[],[4,5],[6],[3,7]] [0,1,12,13,24]) (jC 24 (jX [o 4 (.cst (.t (.bool false)))] [4]) .skip)
def c78_5:zL:=jS (jR [m 15 13,m 5 15] [0,1,5,12,13]) c78_4
def c78_8:zL:=jS (jR [b 14 .lss 13 12] [0,1,12,13,14]) (jS (jC 14 .skip (.exit 0)) (jS (.block 1 c78_5) (jR [jB 25 .add 13 1,m 13 25] [0,1,12,13])))
def c78_11:zL:=jS (jS (jR [m 11 0,e 12 11,jI 13 0] [0,1,12,13]) (.block 0 (.loop c78_8))) (jX [o 4 (.cst (.t (.bool true)))] [4])
def c78_14:zL:=jS (jS (jR [m 6 0,e 7 6,m 8 1,e 9 8,b 10 .neq 7 9] [0,1,10]) (jC 10 (jX [o 4 (.cst (.t (.bool false)))] [4]) .skip)) c78_11
def c78:zL:=jS (jR [o 4 (.cst (.t (.bool false)))] [0,1]) c78_14
def r78:List Qh:=[.tmp 4]
def n78:Nat:=26
def c79_0:zL:=jX [o 5 (.bsl true 1 [] []),m 6 0,o 7 (.app 1 8 (.s 5) (.s 6)),m 2 7] [2]
def c79_3:zL:=jS (jS (jR [m 3 0,o 4 (.nw (.eqn false (.s 3)))] [0,4]) (jC 4 (jX [o 2 (.cst (.zC))] [2]) .skip)) c79_0
def c79:zL:=jS (jR [o 2 (.cst (.zC))] [0]) c79_3
def r79:List Qh:=[.tmp 2]
def n79:Nat:=8
def c80_0:zL:=jX [jL 11 5 1,jO (.st 5 (.s 2) (.s 11))] [2]
def c80_1:zL:=jS (jR [f 7 4 1,l 8 7,o 9 (.call 33 [(.s 8)]),f 10 4 1,jO (.st 1 (.s 10) (.s 9))] [1,2]) c80_0
def c80_2:zL:=jS (jR [f 3 3 1,l 4 3,o 5 (.call 137 [(.s 4)]),f 6 3 1,jO (.st 1 (.s 6) (.s 5))] [1,2]) c80_1
def c80:zL:=jS (jR [o 1 (.box 5 (.s 0)),o 2 (.alloc [jN 0,jN 0,.t (.str []),.zC,.zC])] [1,2]) c80_2
def r80:List Qh:=[.cell 2 true 5]
def n80:Nat:=12
def c81_0:zL:=jX [o 5 (.bsl true 2 [] []),m 6 0,o 7 (.app 2 40 (.s 5) (.s 6)),m 2 7] [2]
def c81_3:zL:=jS (jS (jR [m 3 0,o 4 (.nw (.eqn false (.s 3)))] [0,4]) (jC 4 (jX [o 2 (.cst (.zC))] [2]) .skip)) c81_0
def c81:zL:=jS (jR [o 2 (.cst (.zC))] [0]) c81_3
def r81:List Qh:=[.tmp 2]
def n81:Nat:=8
def c82_1:zL:=jR [jB 61 .add 21 1,m 21 61] [6,7,8,9,19,20,21]
def c82_2:zL:=jR [m 57 6,jL 58 2 11,o 59 (.bsl false 2 [[.str [],.lst []]] [(0,(.s 58))]),o 60 (.app 2 40 (.s 57) (.s 59)),m 6 60] [6,7,8,9,19,20,21]
def c82_4:zL:=jS (jR [m 53 6,o 54 (.ze7 139 [(.s 11)]),o 55 (.call 122 [(.s 53),(.s 54)]),u 56 55] [6,7,8,9,11,19,20,21,56]) (jC 56 c82_2 .skip)
def c82_5:zL:=jR [o 9 (.cst (.t (.bool true)))] [6,7,8,9,11,19,20,21]
def c82_7:zL:=jS (jD [f 31 0 11,l 32 31,o 33 (.bin .neq (.s 32) (.c (.t (.str [116,97,103])))),m 34 33,gm 35 34 12,gB 36 34 .geq 35 0,p 37 34 36,m 38 37,gm 39 38 6,gm 40 38 12,gi 41 38 2 39 40,gL 42 38 2 41,gm 43 38 7,gm 44 38 7,gf 45 38 0 11,gl 46 38 45,go 47 38 (.call 138 [(.s 44),(.s 46)]),gi 48 38 2 43 47,gL 49 38 2 48,go 50 38 (.call 124 [(.s 42),(.s 49)]),go 51 38 (.un .not (.s 50)),p 52 38 51] [[],[0],[1],[2],[3],[4,3],[3,5],[6,3],[7],[7],[8,9,7],[10,7],[7],[7],[7],[14,7],[13,15,7,7],[12,16,7],[17,7],[11,18,16,7],[19,7],[7,20]] [6,7,8,9,11,19,20,21,52]) (jC 52 c82_5 .skip)
def c82_8:zL:=jS (jS (jD [m 25 6,m 26 8,o 27 (.sll 2 (.s 25) none (some (.s 26))),f 28 0 11,l 29 28,o 30 (.call 138 [(.s 27),(.s 29)]),m 12 30] [[],[],[0,1],[],[3],[2,4],[5,5,0,1,2,3,4,5]] [6,7,8,9,11,12,19,20,21]) c82_7) c82_4
def c82_9:zL:=jS (jR [i 23 2 19 21,jL 24 2 23,o 11 (.alloc [.t (.str []),.zC]),jO (.st 2 (.s 11) (.s 24))] [6,7,8,9,11,19,20,21]) c82_8
def c82_12:zL:=jS (jR [b 22 .lss 21 20] [6,7,8,9,19,20,21,22]) (jS (jC 22 .skip (.exit 0)) (jS (.block 1 c82_9) c82_1))
def c82_15:zL:=jS (jS (jR [m 19 7,e 20 19,jI 21 0] [6,7,8,9,19,20,21]) (.block 0 (.loop c82_12))) (jX [m 62 6,m 63 9,m 4 62,m 5 63] [4,5])
def c82_16:zL:=jS (jR [o 9 (.cst (.t (.bool false)))] [6,7,8,9]) c82_15
def c82_17:zL:=jS (jR [m 17 6,e 18 17,m 8 18] [6,7,8]) c82_16
def c82_18:zL:=jS (jR [m 13 0,o 14 (.call 68 [(.s 13)]),m 15 1,o 16 (.call 68 [(.s 15)]),m 6 14,m 7 16] [6,7]) c82_17
def c82:zL:=jS (jR [o 4 (.cst (.zC)),o 5 (.cst (.t (.bool false)))] [0,1]) c82_18
def r82:List Qh:=[.tmp 4,.tmp 5]
def n82:Nat:=64
def c83_0:zL:=jR [m 20 0,m 21 0,n 22 21,f 23 1 22,l 24 23,m 25 2,m 26 8,o 27 (.build [jN 0,.t (.str [])] [(0,1,(.s 25)),(1,1,(.s 26))]),o 28 (.bsl false 2 [[.int .i64 0,.str []]] [(0,(.s 27))]),o 29 (.app 2 24 (.s 24) (.s 28)),n 30 20,f 31 1 30,jO (.st 1 (.s 31) (.s 29))] []
def c83_1:zL:=jR [m 16 8,m 17 3,o 18 (.bin .add (.c (.t (.str [46]))) (.s 17)),b 19 .add 16 18,m 8 19] [0,2,8]
def c83_3:zL:=jS (jS (jR [m 14 3,o 15 (.bin .neq (.s 14) (.c (.t (.str []))))] [0,2,3,8,15]) (jC 15 c83_1 .skip)) c83_0
def c83_4:zL:=jS (jR [m 10 0,n 11 10,f 12 0 11,l 13 12,m 8 13] [0,2,3,8]) c83_3
def c83:zL:=jS (jR [m 9 1] [0,2,3,9]) (jC 9 c83_4 .skip)
def r83:List Qh:=[]
def n83:Nat:=32
def c84_4:zL:=jS (jR [m 11 1,m 12 0,m 13 5,i 14 1 12 13,l 15 14,b 16 .eql 11 15] [0,1,5,7,8,16]) (jC 16 (jX [m 17 5,m 4 17] [4]) .skip)
def c84_11:zL:=jS (jS (jR [m 6 0,e 7 6,jI 8 0] [0,1,7,8]) (.block 0 (.loop (jS (jR [b 9 .lss 8 7] [0,1,7,8,9]) (jS (jC 9 .skip (.exit 0)) (jS (.block 1 (jS (jR [m 10 8,m 5 10] [0,1,5,7,8]) c84_4)) (jR [jB 18 .add 8 1,m 8 18] [0,1,7,8]))))))) (jX [jI 4 (-1)] [4])
def c84:zL:=jS (jR [jI 4 0] [0,1]) c84_11
def r84:List Qh:=[.tmp 4]
def n84:Nat:=19
def c85_0:zL:=jX [o 21 (.build [.t (.str []),.zC,.t (.str []),.zC,.zC] []),jO (.st 5 (.s 4) (.s 21)),o 5 (.cst (.t (.bool false)))] [4,5]
def c85_2:zL:=jX [jL 19 5 7,jO (.st 5 (.s 4) (.s 19)),o 5 (.cst (.t (.bool true)))] [4,5]
def c85_4:zL:=jS (jR [f 15 0 7,l 16 15,m 17 1,b 18 .eql 16 17] [1,4,7,9,10,11,18]) (jC 18 c85_2 .skip)
def c85_5:zL:=jS (jR [i 13 5 9 11,jL 14 5 13,o 7 (.alloc [.t (.str []),.zC,.t (.str []),.zC,.zC]),jO (.st 5 (.s 7) (.s 14))] [1,4,7,9,10,11]) c85_4
def c85_8:zL:=jS (jR [b 12 .lss 11 10] [1,4,9,10,11,12]) (jS (jC 12 .skip (.exit 0)) (jS (.block 1 c85_5) (jR [jB 20 .add 11 1,m 11 20] [1,4,9,10,11])))
def c85_11:zL:=jS (jS (jR [f 8 4 2,l 9 8,e 10 9,jI 11 0] [1,4,9,10,11]) (.block 0 (.loop c85_8))) c85_0
def c85:zL:=jS (jR [o 2 (.box 7 (.s 0)),o 4 (.alloc [.t (.str []),.zC,.t (.str []),.zC,.zC]),o 5 (.cst (.t (.bool false)))] [1,2,4]) c85_11
def r85:List Qh:=[.cell 4 true 5,.tmp 5]
def n85:Nat:=22
def c86_1:zL:=jR [m 62 0,m 63 13,u 64 63,f 65 0 4,l 66 65,o 67 (.bin .add (.s 66) (.c (.t (.str [40])))),f 68 0 11,l 69 68,b 70 .add 67 69,o 71 (.bin .add (.s 70) (.c (.t (.str [41])))),o 72 (.call 83 [(.s 62),(.s 64),(.c (jN 22)),(.s 71)])] [0,4,48,49,50]
def c86_2:zL:=jS (jR [f 55 1 4,l 56 55,f 57 0 11,l 58 57,o 59 (.call 88 [(.s 56),(.s 58)]),m 54 59,x 60 54 0,x 61 54 1,o 12 (.alloc [.t (.str []),.t (.str []),.zC,.t (.bool false),jN 0,jN 0,.t (.str []),.zC,.zC,.zC]),jO (.st 10 (.s 12) (.s 60)),m 13 61] [0,4,11,13,48,49,50]) c86_1
def c86_3:zL:=jS (jR [i 52 10 48 50,jL 53 10 52,o 11 (.alloc [.t (.str []),.t (.str []),.zC,.t (.bool false),jN 0,jN 0,.t (.str []),.zC,.zC,.zC]),jO (.st 10 (.s 11) (.s 53))] [0,4,11,48,49,50]) c86_2
def c86_6:zL:=jS (jR [b 51 .lss 50 49] [0,4,48,49,50,51]) (jS (jC 51 .skip (.exit 2)) (jS (.block 3 c86_3) (jR [jB 73 .add 50 1,m 50 73] [0,4,48,49,50])))
def c86_9:zL:=jS (jR [f 47 1 5,l 48 47,e 49 48,jI 50 0] [0,4,48,49,50]) (.block 2 (.loop c86_6))
def c86_10:zL:=jR [jB 46 .add 17 1,m 17 46] [0,4,5,15,16,17]
def c86_11:zL:=jD [m 29 0,m 30 9,u 31 30,m 32 31,hL 33 32 10 7,hL 34 32 10 8,ho 35 32 (.call 89 [(.s 33),(.s 34)]),ho 36 32 (.un .not (.s 35)),q 37 32 36,f 38 0 4,l 39 38,o 40 (.bin .add (.s 39) (.c (.t (.str [40])))),f 41 0 7,l 42 41,b 43 .add 40 42,o 44 (.bin .add (.s 43) (.c (.t (.str [41])))),o 45 (.call 83 [(.s 29),(.s 37),(.c (jN 22)),(.s 44)])] [[],[],[1],[2],[3],[3],[4,5,3,3],[6,3],[3,7],[],[9],[10],[],[12],[11,13],[14],[0,8,15,6]] [0,4,5,15,16,17]
def c86_12:zL:=jS (jR [f 22 1 5,l 23 22,f 24 0 7,l 25 24,o 26 (.call 88 [(.s 23),(.s 25)]),m 21 26,x 27 21 0,x 28 21 1,o 8 (.alloc [.t (.str []),.t (.str []),.zC,.t (.bool false),jN 0,jN 0,.t (.str []),.zC,.zC,.zC]),jO (.st 10 (.s 8) (.s 27)),m 9 28] [0,4,5,7,8,9,15,16,17]) c86_11
def c86_13:zL:=jS (jR [i 19 10 15 17,jL 20 10 19,o 7 (.alloc [.t (.str []),.t (.str []),.zC,.t (.bool false),jN 0,jN 0,.t (.str []),.zC,.zC,.zC]),jO (.st 10 (.s 7) (.s 20))] [0,4,5,7,15,16,17]) c86_12
def c86_16:zL:=jS (jR [b 18 .lss 17 16] [0,4,5,15,16,17,18]) (jS (jC 18 .skip (.exit 0)) (jS (.block 1 c86_13) c86_10))
def c86_19:zL:=jS (jS (jR [f 14 1 4,l 15 14,e 16 15,jI 17 0] [0,4,5,15,16,17]) (.block 0 (.loop c86_16))) c86_9
def c86:zL:=jS (jR [o 4 (.box 5 (.s 1)),o 5 (.box 5 (.s 2))] [0,4,5]) c86_19
def r86:List Qh:=[]
def n86:Nat:=74
def c87_0:zL:=jX [o 20 (.build [.t (.str []),.zC] []),jO (.st 2 (.s 4) (.s 20)),o 5 (.cst (.t (.bool false)))] [4,5]
def c87_2:zL:=jX [jL 18 2 7,jO (.st 2 (.s 4) (.s 18)),o 5 (.cst (.t (.bool true)))] [4,5]
def c87_4:zL:=jS (jR [f 14 0 7,l 15 14,m 16 1,b 17 .eql 15 16] [1,4,7,8,9,10,17]) (jC 17 c87_2 .skip)
def c87_5:zL:=jS (jR [i 12 2 8 10,jL 13 2 12,o 7 (.alloc [.t (.str []),.zC]),jO (.st 2 (.s 7) (.s 13))] [1,4,7,8,9,10]) c87_4
def c87_8:zL:=jS (jR [b 11 .lss 10 9] [1,4,8,9,10,11]) (jS (jC 11 .skip (.exit 0)) (jS (.block 1 c87_5) (jR [jB 19 .add 10 1,m 10 19] [1,4,8,9,10])))
def c87_11:zL:=jS (jS (jR [m 8 0,e 9 8,jI 10 0] [1,4,8,9,10]) (.block 0 (.loop c87_8))) c87_0
def c87:zL:=jS (jR [o 4 (.alloc [.t (.str []),.zC]),o 5 (.cst (.t (.bool false)))] [0,1,4]) c87_11
def r87:List Qh:=[.cell 4 true 2,.tmp 5]
def n87:Nat:=21
def c88_0:zL:=jX [o 20 (.build [.t (.str []),.t (.str []),.zC,.t (.bool false),jN 0,jN 0,.t (.str []),.zC,.zC,.zC] []),jO (.st 10 (.s 4) (.s 20)),o 5 (.cst (.t (.bool false)))] [4,5]
def c88_2:zL:=jX [jL 18 10 7,jO (.st 10 (.s 4) (.s 18)),o 5 (.cst (.t (.bool true)))] [4,5]
def c88_4:zL:=jS (jR [f 14 0 7,l 15 14,m 16 1,b 17 .eql 15 16] [1,4,7,8,9,10,17]) (jC 17 c88_2 .skip)
def c88_5:zL:=jS (jR [i 12 10 8 10,jL 13 10 12,o 7 (.alloc [.t (.str []),.t (.str []),.zC,.t (.bool false),jN 0,jN 0,.t (.str []),.zC,.zC,.zC]),jO (.st 10 (.s 7) (.s 13))] [1,4,7,8,9,10]) c88_4
def c88_8:zL:=jS (jR [b 11 .lss 10 9] [1,4,8,9,10,11]) (jS (jC 11 .skip (.exit 0)) (jS (.block 1 c88_5) (jR [jB 19 .add 10 1,m 10 19] [1,4,8,9,10])))
def c88_11:zL:=jS (jS (jR [m 8 0,e 9 8,jI 10 0] [1,4,8,9,10]) (.block 0 (.loop c88_8))) c88_0
def c88:zL:=jS (jR [o 4 (.alloc [.t (.str []),.t (.str []),.zC,.t (.bool false),jN 0,jN 0,.t (.str []),.zC,.zC,.zC]),o 5 (.cst (.t (.bool false)))] [0,1,4]) c88_11
def r88:List Qh:=[.cell 4 true 10,.tmp 5]
def n88:Nat:=21
def c89_0:zL:=jX [f 5 1 2,jL 6 2 5,f 7 1 3,jL 8 2 7,o 9 (.call 32 [(.s 6),(.s 8)]),m 10 9,gf 11 10 3 2,gl 12 10 11,gf 13 10 3 3,gl 14 10 13,go 15 10 (.eqb false (.s 12) (.s 14)),p 16 10 15,m 17 16,gf 18 17 4 2,gL 19 17 5 18,gf 20 17 4 3,gL 21 17 5 20,go 22 17 (.call 140 [(.s 19),(.s 21)]),p 23 17 22,m 4 23] [4]
def c89:zL:=jS (jR [o 2 (.box 10 (.s 0)),o 3 (.box 10 (.s 1)),o 4 (.cst (.t (.bool false)))] [2,3]) c89_0
def r89:List Qh:=[.tmp 4]
def n89:Nat:=24
def c93_0:zL:=jX [f 5 1 2,jL 6 2 5,f 7 1 3,jL 8 2 7,o 9 (.call 53 [(.s 6),(.s 8)]),m 10 9,gf 11 10 3 2,gl 12 10 11,gf 13 10 3 3,gl 14 10 13,go 15 10 (.eqb false (.s 12) (.s 14)),p 16 10 15,m 17 16,gf 18 17 4 2,gL 19 17 5 18,gf 20 17 4 3,gL 21 17 5 20,go 22 17 (.call 141 [(.s 19),(.s 21)]),p 23 17 22,m 4 23] [4]
def c93:zL:=jS (jR [o 2 (.box 10 (.s 0)),o 3 (.box 10 (.s 1)),o 4 (.cst (.t (.bool false)))] [2,3]) c93_0
def r93:List Qh:=[.tmp 4]
def n93:Nat:=24
def c97_0:zL:=jX [jL 8 2 1,o 9 (.call 146 [(.s 8)]),o 10 (.call 145 [(.s 9)]),jO (.st 2 (.s 2) (.s 10)),o 3 (.cst (.t (.bool true)))] [2,3]
def c97_1:zL:=jX [o 7 (.build [.t (.str []),.zC] []),jO (.st 2 (.s 2) (.s 7)),o 3 (.cst (.t (.bool false)))] [2,3]
def c97_3:zL:=jS (jS (jR [jL 4 2 1,o 5 (.call 144 [(.s 4)]),u 6 5] [1,2,6]) (jC 6 c97_1 .skip)) c97_0
def c97:zL:=jS (jR [o 1 (.box 2 (.s 0)),o 2 (.alloc [.t (.str []),.zC]),o 3 (.cst (.t (.bool false)))] [1,2]) c97_3
def r97:List Qh:=[.cell 2 true 2,.tmp 3]
def n97:Nat:=11
def c99_0:zL:=jX [f 3 1 1,l 4 3,e 5 4,jB 6 .gtr 5 0,m 7 6,gf 8 7 1 1,gl 9 7 8,go 10 7 (.ia 1 (.s 9) (.c (jN 0))),gl 11 7 10,gB 12 7 .eql 11 1,p 13 7 12,m 2 13] [2]
def c99:zL:=jS (jR [o 1 (.box 2 (.s 0)),o 2 (.cst (.t (.bool false)))] [1]) c99_0
def r99:List Qh:=[.tmp 2]
def n99:Nat:=14
def c101_4:zL:=jS (jD [m 17 0,m 18 5,i 19 6 17 18,f 20 0 19,l 21 20,m 22 1,m 23 5,i 24 6 22 23,f 25 0 24,l 26 25,b 27 .neq 21 26,m 28 27,hm 29 28 0,hm 30 28 5,hi 31 28 6 29 30,hf 32 28 1 31,hL 33 28 5 32,hm 34 28 1,hm 35 28 5,hi 36 28 6 34 35,hf 37 28 1 36,hL 38 28 5 37,ho 39 28 (.call 141 [(.s 33),(.s 38)]),ho 40 28 (.un .not (.s 39)),q 41 28 40] [[],[],[0,1],[2],[3],[],[],[5,6],[7],[8],[4,9],[10],[11],[11],[12,13,11],[14,11],[15,11],[11],[11],[17,18,11],[19,11],[20,11],[16,21,11,11],[22,11],[11,23]] [0,1,5,41]) (jC 41 (jX [o 4 (.cst (.t (.bool false)))] [4]) .skip)
def c101_7:zL:=jS (jS (jR [m 11 5,m 12 0,e 13 12,b 14 .lss 11 13] [0,1,5,14]) (jC 14 .skip (.exit 0))) (jS (.block 1 c101_4) (jR [m 15 5,jB 16 .add 15 1,m 5 16] [0,1,5]))
def c101_13:zL:=jS (jS (jR [m 6 0,e 7 6,m 8 1,e 9 8,b 10 .neq 7 9] [0,1,10]) (jC 10 (jX [o 4 (.cst (.t (.bool false)))] [4]) .skip)) (jS (jS (jR [jI 5 0] [0,1,5]) (.block 0 (.loop c101_7))) (jX [o 4 (.cst (.t (.bool true)))] [4]))
def c101:zL:=jS (jR [o 4 (.cst (.t (.bool false)))] [0,1]) c101_13
def r101:List Qh:=[.tmp 4]
def n101:Nat:=42
def c102_4:zL:=jS (jD [m 17 0,m 18 5,i 19 1 17 18,l 20 19,m 21 1,m 22 5,i 23 1 21 22,l 24 23,b 25 .neq 20 24] [[],[],[0,1],[2],[],[],[4,5],[6],[3,7]] [0,1,5,25]) (jC 25 (jX [o 4 (.cst (.t (.bool false)))] [4]) .skip)
def c102_7:zL:=jS (jS (jR [m 11 5,m 12 0,e 13 12,b 14 .lss 11 13] [0,1,5,14]) (jC 14 .skip (.exit 0))) (jS (.block 1 c102_4) (jR [m 15 5,jB 16 .add 15 1,m 5 16] [0,1,5]))
def c102_13:zL:=jS (jS (jR [m 6 0,e 7 6,m 8 1,e 9 8,b 10 .neq 7 9] [0,1,10]) (jC 10 (jX [o 4 (.cst (.t (.bool false)))] [4]) .skip)) (jS (jS (jR [jI 5 0] [0,1,5]) (.block 0 (.loop c102_7))) (jX [o 4 (.cst (.t (.bool true)))] [4]))
def c102:zL:=jS (jR [o 4 (.cst (.t (.bool false)))] [0,1]) c102_13
def r102:List Qh:=[.tmp 4]
def n102:Nat:=26
def c105_1:zL:=jR [m 25 8,jB 26 .add 25 1,m 8 26] [1,2,5,6,7,8]
def c105_2:zL:=jR [m 75 5,f 76 1 9,l 77 76,o 78 (.bsl false 1 [[.str []]] [(0,(.s 77))]),o 79 (.app 1 16 (.s 75) (.s 78)),m 5 79] [1,2,5,6,7,8]
def c105_5:zL:=jS (jR [m 62 10,m 63 62,hf 64 63 0 6,hl 65 63 64,hB 66 63 .eql 65 3,hm 67 63 66,gL 68 67 7 6,gf 69 67 1 9,gl 70 67 69,go 71 67 (.call 120 [(.s 68),(.s 70)]),ho 72 63 (.pick (.s 67) (.s 71) (.c (.t (.bool false)))),q 73 63 72,m 10 73] [1,2,5,6,7,8,9,10]) (jS (jR [m 74 10] [1,2,5,6,7,8,9,74]) (jC 74 c105_2 .skip))
def c105_6:zL:=jS (jR [m 50 10,m 51 50,hf 52 51 0 6,hl 53 51 52,hB 54 51 .eql 53 2,hm 55 51 54,gf 56 55 2 9,gl 57 55 56,gm 58 55 1,go 59 55 (.call 118 [(.s 57),(.s 58)]),ho 60 51 (.pick (.s 55) (.s 59) (.c (.t (.bool false)))),q 61 51 60,m 10 61] [1,2,5,6,7,8,9,10]) c105_5
def c105_7:zL:=jS (jR [f 41 0 6,l 42 41,jB 43 .eql 42 1,m 44 43,gf 45 44 1 9,gl 46 44 45,gm 47 44 1,gb 48 44 .eql 46 47,p 49 44 48,m 10 49] [1,2,5,6,7,8,9,10]) c105_6
def c105_9:zL:=jS (jS (jR [f 32 0 9,l 33 32,jB 34 .neq 33 1,m 35 34,hL 36 35 1 2,hm 37 35 8,ho 38 35 (.call 148 [(.s 36),(.s 37)]),ho 39 35 (.un .not (.s 38)),q 40 35 39] [1,2,5,6,7,8,9,40]) (jC 40 (.exit 1) .skip)) c105_7
def c105_10:zL:=jS (jR [f 27 0 2,l 28 27,m 29 8,i 30 7 28 29,jL 31 7 30,o 9 (.alloc [jN 0,.t (.str []),.zC,.zC,.zC,.zC,.zC]),jO (.st 7 (.s 9) (.s 31))] [1,2,5,6,7,8,9]) c105_9
def c105_13:zL:=jS (jS (jR [m 17 8,f 18 0 2,l 19 18,e 20 19,b 21 .lss 17 20,m 22 21,gm 23 22 7,p 24 22 23] [1,2,5,6,7,8,24]) (jC 24 .skip (.exit 0))) (jS (.block 1 c105_10) c105_1)
def c105_16:zL:=jS (jS (jR [jI 8 0] [1,2,5,6,7,8]) (.block 0 (.loop c105_13))) (jX [m 80 5,m 4 80] [4])
def c105_17:zL:=jS (jR [jL 12 1 2,m 13 1,o 14 (.call 12 [(.s 12),(.s 13)]),m 11 14,x 15 11 0,x 16 11 1,o 6 (.alloc [jN 0,.t (.str []),.zC,.zC,.zC,.zC,.zC]),jO (.st 7 (.s 6) (.s 15)),m 7 16] [1,2,5,6,7]) c105_16
def c105_18:zL:=jS (jR [o 5 (.cst (.zC))] [1,2,5]) c105_17
def c105:zL:=jS (jR [o 2 (.box 1 (.s 0)),o 4 (.cst (.zC))] [1,2]) c105_18
def r105:List Qh:=[.tmp 4]
def n105:Nat:=81
def c106_4:zL:=jS (jR [m 18 0,m 19 3,o 20 (.ixs (.s 18) (.s 19)),o 21 (.call 149 [(.s 20)]),u 22 21,m 23 22,gm 24 23 3,gB 25 23 .eql 24 0,gm 26 23 25,hm 27 26 0,hm 28 26 3,ho 29 26 (.ixs (.s 27) (.s 28)),ho 30 26 (.call 150 [(.s 29)]),ho 31 26 (.un .not (.s 30)),go 32 23 (.pick (.s 26) (.c (.t (.bool true))) (.s 31)),p 33 23 32] [0,3,33]) (jC 33 (jX [o 2 (.cst (.t (.bool false)))] [2]) .skip)
def c106_7:zL:=jS (jS (jR [m 12 3,m 13 0,o 14 (.lens (.s 13)),b 15 .lss 12 14] [0,3,15]) (jC 15 .skip (.exit 0))) (jS (.block 1 c106_4) (jR [m 16 3,jB 17 .add 16 1,m 3 17] [0,3]))
def c106_13:zL:=jS (jS (jR [m 4 0,o 5 (.lens (.s 4)),jB 6 .lss 5 1,m 7 6,hm 8 7 0,ho 9 7 (.lens (.s 8)),hB 10 7 .gtr 9 64,q 11 7 10] [0,11]) (jC 11 (jX [o 2 (.cst (.t (.bool false)))] [2]) .skip)) (jS (jS (jR [jI 3 0] [0,3]) (.block 0 (.loop c106_7))) (jX [o 2 (.cst (.t (.bool true)))] [2]))
def c106:zL:=jS (jR [o 2 (.cst (.t (.bool false)))] [0]) c106_13
def r106:List Qh:=[.tmp 2]
def n106:Nat:=34
def c107_5:zL:=jS (jR [f 49 0 5,l 50 49,o 51 (.call 106 [(.s 50)]),u 52 51,m 53 52,hf 54 53 1 5,hL 55 53 5 54,ho 56 53 (.call 151 [(.s 55)]),ho 57 53 (.un .not (.s 56)),q 58 53 57,m 59 58,hf 60 59 1 5,hL 61 59 5 60,ho 62 59 (.call 152 [(.s 61)]),ho 63 59 (.un .not (.s 62)),q 64 59 63] [0,3,4,64]) (jC 64 (jX [o 2 (.cst (.t (.bool false)))] [2]) .skip)
def c107_6:zL:=jS (jR [m 41 0,m 42 3,i 43 2 41 42,f 44 1 43,l 45 44,m 46 4,i 47 6 45 46,jL 48 6 47,o 5 (.alloc [.t (.str []),jN 0,jN 0,.t (.str []),.zC,.zC]),jO (.st 6 (.s 5) (.s 48))] [0,3,4,5]) c107_5
def c107_9:zL:=jS (jS (jR [m 31 4,m 32 0,m 33 3,i 34 2 32 33,f 35 1 34,l 36 35,e 37 36,b 38 .lss 31 37] [0,3,4,38]) (jC 38 .skip (.exit 2))) (jS (.block 3 c107_6) (jR [m 39 4,jB 40 .add 39 1,m 4 40] [0,3,4]))
def c107_15:zL:=jS (jS (jR [m 15 0,m 16 3,i 17 2 15 16,f 18 0 17,l 19 18,o 20 (.call 106 [(.s 19)]),u 21 20,m 22 21,hm 23 22 0,hm 24 22 3,hi 25 22 2 23 24,hf 26 22 1 25,hl 27 22 26,he 28 22 27,hB 29 22 .gtr 28 16,q 30 22 29] [0,3,30]) (jC 30 (jX [o 2 (.cst (.t (.bool false)))] [2]) .skip)) (jS (jR [jI 4 0] [0,3,4]) (.block 2 (.loop c107_9)))
def c107_18:zL:=jS (jS (jR [m 9 3,m 10 0,e 11 10,b 12 .lss 9 11] [0,3,12]) (jC 12 .skip (.exit 0))) (jS (.block 1 c107_15) (jR [m 13 3,jB 14 .add 13 1,m 3 14] [0,3]))
def c107_24:zL:=jS (jS (jR [m 6 0,e 7 6,jB 8 .gtr 7 16] [0,8]) (jC 8 (jX [o 2 (.cst (.t (.bool false)))] [2]) .skip)) (jS (jS (jR [jI 3 0] [0,3]) (.block 0 (.loop c107_18))) (jX [o 2 (.cst (.t (.bool true)))] [2]))
def c107:zL:=jS (jR [o 2 (.cst (.t (.bool false)))] [0]) c107_24
def r107:List Qh:=[.tmp 2]
def n107:Nat:=65
def c108_4:zL:=jS (jR [m 18 0,m 19 3,i 20 5 18 19,f 21 0 20,l 22 21,o 23 (.call 106 [(.s 22)]),u 24 23,m 25 24,hm 26 25 0,hm 27 25 3,hi 28 25 5 26 27,hf 29 25 1 28,hl 30 25 29,ho 31 25 (.call 110 [(.s 30)]),ho 32 25 (.un .not (.s 31)),q 33 25 32,m 34 33,hm 35 34 0,hm 36 34 3,hi 37 34 5 35 36,hf 38 34 2 37,hL 39 34 2 38,ho 40 34 (.call 153 [(.s 39)]),ho 41 34 (.un .not (.s 40)),q 42 34 41,m 43 42,hm 44 43 0,hm 45 43 3,hi 46 43 5 44 45,hf 47 43 4 46,hl 48 43 47,ho 49 43 (.call 107 [(.s 48)]),ho 50 43 (.un .not (.s 49)),q 51 43 50] [0,3,51]) (jC 51 (jX [o 2 (.cst (.t (.bool false)))] [2]) .skip)
def c108_7:zL:=jS (jS (jR [m 12 3,m 13 0,e 14 13,b 15 .lss 12 14] [0,3,15]) (jC 15 .skip (.exit 0))) (jS (.block 1 c108_4) (jR [m 16 3,jB 17 .add 16 1,m 3 17] [0,3]))
def c108_13:zL:=jS (jS (jR [m 4 0,e 5 4,jB 6 .lss 5 1,m 7 6,hm 8 7 0,he 9 7 8,hB 10 7 .gtr 9 64,q 11 7 10] [0,11]) (jC 11 (jX [o 2 (.cst (.t (.bool false)))] [2]) .skip)) (jS (jS (jR [jI 3 0] [0,3]) (.block 0 (.loop c108_7))) (jX [o 2 (.cst (.t (.bool true)))] [2]))
def c108:zL:=jS (jR [o 2 (.cst (.t (.bool false)))] [0]) c108_13
def r108:List Qh:=[.tmp 2]
def n108:Nat:=52
def c109_4:zL:=jS (jR [m 20 0,m 21 5,i 22 2 20 21,f 23 0 22,l 24 23,o 25 (.call 106 [(.s 24)]),u 26 25,m 27 26,hm 28 27 0,hm 29 27 5,hi 30 27 2 28 29,hf 31 27 1 30,hl 32 27 31,ho 33 27 (.call 107 [(.s 32)]),ho 34 27 (.un .not (.s 33)),q 35 27 34,m 36 35,hm 37 36 1,hm 38 36 37,gm 39 38 0,gm 40 38 5,gi 41 38 2 39 40,gf 42 38 1 41,gl 43 38 42,ge 44 38 43,gB 45 38 .gtr 44 0,ho 46 36 (.pick (.s 38) (.s 45) (.c (.t (.bool false)))),q 47 36 46] [0,1,5,47]) (jC 47 (jX [o 4 (.cst (.t (.bool false)))] [4]) .skip)
def c109_7:zL:=jS (jS (jR [m 14 5,m 15 0,e 16 15,b 17 .lss 14 16] [0,1,5,17]) (jC 17 .skip (.exit 0))) (jS (.block 1 c109_4) (jR [m 18 5,jB 19 .add 18 1,m 5 19] [0,1,5]))
def c109_13:zL:=jS (jS (jR [m 6 0,e 7 6,jB 8 .lss 7 1,m 9 8,hm 10 9 0,he 11 9 10,hB 12 9 .gtr 11 64,q 13 9 12] [0,1,13]) (jC 13 (jX [o 4 (.cst (.t (.bool false)))] [4]) .skip)) (jS (jS (jR [jI 5 0] [0,1,5]) (.block 0 (.loop c109_7))) (jX [o 4 (.cst (.t (.bool true)))] [4]))
def c109:zL:=jS (jR [o 4 (.cst (.t (.bool false)))] [0,1]) c109_13
def r109:List Qh:=[.tmp 4]
def n109:Nat:=48
def c110_4:zL:=jS (jR [f 34 3 4,l 35 34,m 36 35,gf 37 36 4 4,gL 38 36 5 37,go 39 36 (.call 151 [(.s 38)]),go 40 36 (.un .not (.s 39)),gm 41 36 40,hf 42 41 4 4,hL 43 41 5 42,ho 44 41 (.call 152 [(.s 43)]),ho 45 41 (.un .not (.s 44)),go 46 36 (.pick (.s 41) (.c (.t (.bool true))) (.s 45)),p 47 36 46,m 48 47,hf 49 48 3 4,hl 50 48 49,ho 51 48 (.un .not (.s 50)),hm 52 48 51,gf 53 52 4 4,gL 54 52 5 53,go 55 52 (.call 154 [(.s 54)]),go 56 52 (.un .not (.s 55)),ho 57 48 (.pick (.s 52) (.s 56) (.c (.t (.bool false)))),q 58 48 57] [0,3,58]) (jC 58 (jX [o 2 (.cst (.t (.bool false)))] [2]) .skip)
def c110_7:zL:=jS (jS (jR [f 18 0 4,l 19 18,o 20 (.call 106 [(.s 19)]),u 21 20,m 22 21,hf 23 22 1 4,hL 24 22 2 23,ho 25 22 (.call 153 [(.s 24)]),ho 26 22 (.un .not (.s 25)),q 27 22 26,m 28 27,hf 29 28 9 4,hl 30 28 29,ho 31 28 (.call 107 [(.s 30)]),ho 32 28 (.un .not (.s 31)),q 33 28 32] [0,3,4,33]) (jC 33 (jX [o 2 (.cst (.t (.bool false)))] [2]) .skip)) c110_4
def c110_8:zL:=jS (jR [m 14 0,m 15 3,i 16 10 14 15,jL 17 10 16,o 4 (.alloc [.t (.str []),.t (.str []),.zC,.t (.bool false),jN 0,jN 0,.t (.str []),.zC,.zC,.zC]),jO (.st 10 (.s 4) (.s 17))] [0,3,4]) c110_7
def c110_11:zL:=jS (jS (jR [m 8 3,m 9 0,e 10 9,b 11 .lss 8 10] [0,3,11]) (jC 11 .skip (.exit 0))) (jS (.block 1 c110_8) (jR [m 12 3,jB 13 .add 12 1,m 3 13] [0,3]))
def c110_17:zL:=jS (jS (jR [m 5 0,e 6 5,jB 7 .gtr 6 16] [0,7]) (jC 7 (jX [o 2 (.cst (.t (.bool false)))] [2]) .skip)) (jS (jS (jR [jI 3 0] [0,3]) (.block 0 (.loop c110_11))) (jX [o 2 (.cst (.t (.bool true)))] [2]))
def c110:zL:=jS (jR [o 2 (.cst (.t (.bool false)))] [0]) c110_17
def r110:List Qh:=[.tmp 2]
def n110:Nat:=59
def c111_0:zL:=jS (jR [m 3 0,o 4 (.bin .eql (.s 3) (.c (.t (.str [73,110,116])))),m 5 4,hm 6 5 0,ho 7 5 (.bin .eql (.s 6) (.c (.t (.str [83,116,114,105,110,103])))),q 8 5 7,m 9 8,hm 10 9 0,ho 11 9 (.bin .eql (.s 10) (.c (.t (.str [66,111,111,108,101,97,110])))),q 12 9 11,m 13 12,hm 14 13 0,ho 15 13 (.bin .eql (.s 14) (.c (.t (.str [73,68])))),q 16 13 15,m 2 16] [2]) .ret
def c111:zL:=jS (jR [o 2 (.cst (.t (.bool false)))] [0]) c111_0
def r111:List Qh:=[.tmp 2]
def n111:Nat:=17
def c112_1:zL:=jR [m 22 9,m 23 3,o 24 (.build [jN 0,.t (.str [])] [(0,1,(.c (jN 7))),(1,1,(.s 23))]),o 25 (.bsl false 2 [[.int .i64 0,.str []]] [(0,(.s 24))]),o 26 (.app 2 24 (.s 22) (.s 25)),m 9 26] [9]
def c112_3:zL:=jS (jS (jR [m 21 2] [3,9,21]) (jC 21 c112_1 .skip)) (jX [m 27 9,m 8 27] [8])
def c112_4:zL:=jR [m 16 9,m 17 3,o 18 (.build [jN 0,.t (.str [])] [(0,1,(.c (jN 6))),(1,1,(.s 17))]),o 19 (.bsl false 2 [[.int .i64 0,.str []]] [(0,(.s 18))]),o 20 (.app 2 24 (.s 16) (.s 19)),m 9 20] [2,3,9]
def c112_6:zL:=jS (jS (jR [m 10 1,m 11 10,hm 12 11 0,ho 13 11 (.call 155 [(.s 12)]),ho 14 11 (.un .not (.s 13)),q 15 11 14] [2,3,9,15]) (jC 15 c112_4 .skip)) c112_3
def c112_7:zL:=jS (jR [o 9 (.cst (.zC))] [0,1,2,3,9]) c112_6
def c112:zL:=jS (jR [o 8 (.cst (.zC))] [0,1,2,3]) c112_7
def r112:List Qh:=[.tmp 8]
def n112:Nat:=28
def c113_1:zL:=jX [f 8 4 1,l 9 8,e 10 9,jB 11 .eql 10 0,m 2 11] [2]
def c113_2:zL:=jX [f 15 5 1,l 16 15,e 17 16,jB 18 .eql 17 0,m 2 18] [2]
def c113_3:zL:=jX [f 21 6 1,l 22 21,e 23 22,jB 24 .eql 23 0,m 2 24] [2]
def c113_5:zL:=jS (jR [jB 20 .eql 4 5,m 19 20] [1,19]) (jC 19 c113_3 .skip)
def c113_9:zL:=jS (jS (jR [jB 13 .eql 4 3,m 12 13] [1,4,12]) (jC 12 .skip (jR [jB 14 .eql 4 4,m 12 14] [1,4,12]))) (jC 12 c113_2 c113_5)
def c113_13:zL:=jS (jS (jR [jB 6 .eql 4 1,m 5 6] [1,4,5]) (jC 5 .skip (jR [jB 7 .eql 4 2,m 5 7] [1,4,5]))) (jC 5 c113_1 c113_9)
def c113_15:zL:=jS (jS (jR [f 3 0 1,l 4 3] [1,4]) (.block 0 c113_13)) (jX [o 2 (.cst (.t (.bool false)))] [2])
def c113:zL:=jS (jR [o 1 (.box 7 (.s 0)),o 2 (.cst (.t (.bool false)))] [1]) c113_15
def r113:List Qh:=[.tmp 2]
def n113:Nat:=25
def c114_0:zL:=jX [m 38 5,f 39 1 3,l 40 39,o 41 (.call 157 [(.s 38),(.s 40)]),m 4 41] [4]
def c114_1:zL:=jR [m 21 6,jB 22 .add 21 1,m 6 22] [2,3,5,6]
def c114_2:zL:=jR [jL 32 1 2,jL 33 7 7,f 34 1 3,l 35 34,m 36 5,o 37 (.call 156 [(.s 32),(.s 33),(.s 35),(.s 36)]),m 5 37] [2,3,5,6]
def c114_3:zL:=jS (jD [jL 24 1 2,m 25 5,m 26 6,i 27 1 25 26,l 28 27,o 29 (.call 12 [(.s 24),(.s 28)]),m 23 29,x 30 23 0,x 31 23 1,o 7 (.alloc [jN 0,.t (.str []),.zC,.zC,.zC,.zC,.zC]),jO (.st 7 (.s 7) (.s 30)),m 8 31] [[],[],[],[1,2],[3],[0,4],[5],[6],[6],[],[9,7,5,0,1,2,3,4,5,6,7,9],[8,10,0,1,2,3,4,5,6,7,8,9,10]] [2,3,5,6,7]) c114_2
def c114_6:zL:=jS (jS (jR [m 17 6,m 18 5,e 19 18,b 20 .lss 17 19] [2,3,5,6,20]) (jC 20 .skip (.exit 0))) (jS (.block 1 c114_3) c114_1)
def c114_9:zL:=jS (jS (jR [jI 6 0] [2,3,5,6]) (.block 0 (.loop c114_6))) c114_0
def c114_10:zL:=jS (jR [jL 12 1 2,jL 13 7 3,f 14 1 3,l 15 14,o 16 (.call 156 [(.s 12),(.s 13),(.s 15),(.c (.zC))]),m 5 16] [2,3,5]) c114_9
def c114_13:zL:=jS (jS (jR [f 9 0 3,l 10 9,jB 11 .neq 10 5] [2,3,11]) (jC 11 (jX [o 4 (.cst (.t (.bool false)))] [4]) .skip)) c114_10
def c114:zL:=jS (jR [o 2 (.box 1 (.s 0)),o 3 (.box 7 (.s 1)),o 4 (.cst (.t (.bool false)))] [2,3]) c114_13
def r114:List Qh:=[.tmp 4]
def n114:Nat:=42
def c115_0:zL:=jX [m 13 1,o 14 (.call 111 [(.s 13)]),m 15 14,hm 16 15 6,q 17 15 16,m 4 17] [4]
def c115_1:zL:=jS (jR [jL 8 1 2,m 9 1,o 10 (.call 12 [(.s 8),(.s 9)]),m 7 10,x 11 7 0,x 12 7 1,o 5 (.alloc [jN 0,.t (.str []),.zC,.zC,.zC,.zC,.zC]),jO (.st 7 (.s 5) (.s 11)),m 6 12] [1,6]) c115_0
def c115:zL:=jS (jR [o 2 (.box 1 (.s 0)),o 4 (.cst (.t (.bool false)))] [1,2]) c115_1
def r115:List Qh:=[.tmp 4]
def n115:Nat:=18
def c116_0:zL:=jS (jR [jL 13 1 2,m 14 1,o 15 (.call 158 [(.s 13),(.s 14)]),m 16 15,hm 17 16 6,hm 18 16 17,gf 19 18 0 5,gl 20 18 19,gB 21 18 .eql 20 5,ho 22 16 (.pick (.s 18) (.s 21) (.c (.t (.bool false)))),q 23 16 22,m 4 23] [4]) .ret
def c116_1:zL:=jS (jR [jL 8 1 2,m 9 1,o 10 (.call 12 [(.s 8),(.s 9)]),m 7 10,x 11 7 0,x 12 7 1,o 5 (.alloc [jN 0,.t (.str []),.zC,.zC,.zC,.zC,.zC]),jO (.st 7 (.s 5) (.s 11)),m 6 12] [1,2,5,6]) c116_0
def c116:zL:=jS (jR [o 2 (.box 1 (.s 0)),o 4 (.cst (.t (.bool false)))] [1,2]) c116_1
def r116:List Qh:=[.tmp 4]
def n116:Nat:=24
def c117_3:zL:=jS (jS (jR [f 22 0 7,l 23 22,m 24 2,b 25 .neq 23 24] [25]) (jC 25 (jX [jI 6 9] [6]) .skip)) (jX [jI 6 0] [6])
def c117_6:zL:=jS (jS (jR [m 15 8,u 16 15,m 17 16,gm 18 17 1,go 19 17 (.call 111 [(.s 18)]),go 20 17 (.un .not (.s 19)),p 21 17 20] [2,7,21]) (jC 21 (jX [jI 6 8] [6]) .skip)) c117_3
def c117_7:zL:=jS (jR [jL 10 1 3,m 11 1,o 12 (.call 12 [(.s 10),(.s 11)]),m 9 12,x 13 9 0,x 14 9 1,o 7 (.alloc [jN 0,.t (.str []),.zC,.zC,.zC,.zC,.zC]),jO (.st 7 (.s 7) (.s 13)),m 8 14] [1,2,7,8]) c117_6
def c117:zL:=jS (jR [o 3 (.box 1 (.s 0)),jI 6 0] [1,2,3]) c117_7
def r117:List Qh:=[.tmp 6]
def n117:Nat:=26
def c118_4:zL:=jS (jR [m 12 0,m 13 5,i 14 1 12 13,l 15 14,m 16 1,b 17 .eql 15 16] [0,1,5,17]) (jC 17 (jX [o 4 (.cst (.t (.bool true)))] [4]) .skip)
def c118_7:zL:=jS (jS (jR [m 6 5,m 7 0,e 8 7,b 9 .lss 6 8] [0,1,5,9]) (jC 9 .skip (.exit 0))) (jS (.block 1 c118_4) (jR [m 10 5,jB 11 .add 10 1,m 5 11] [0,1,5]))
def c118:zL:=jS (jR [o 4 (.cst (.t (.bool false)))] [0,1]) (jS (jS (jR [jI 5 0] [0,1,5]) (.block 0 (.loop c118_7))) (jX [o 4 (.cst (.t (.bool false)))] [4]))
def r118:List Qh:=[.tmp 4]
def n118:Nat:=18
def c119_1:zL:=jR [m 99 14,jB 100 .add 99 1,m 14 100] [5,7,8,10,14]
def c119_2:zL:=jR [m 133 10,m 134 7,o 135 (.bin .add (.s 134) (.c (.t (.str [40])))),f 136 1 8,l 137 136,m 138 14,i 139 10 137 138,f 140 0 139,l 141 140,b 142 .add 135 141,o 143 (.bin .add (.s 142) (.c (.t (.str [41])))),o 144 (.build [jN 0,.t (.str [])] [(0,1,(.c (jN 22))),(1,1,(.s 143))]),o 145 (.bsl false 2 [[.int .i64 0,.str []]] [(0,(.s 144))]),o 146 (.app 2 24 (.s 133) (.s 145)),m 10 146] [5,7,8,10,14]
def c119_4:zL:=jS (jR [m 113 16,u 114 113,m 115 114,gf 116 115 1 8,gl 117 115 116,gm 118 115 14,gi 119 115 10 117 118,gf 120 115 1 119,gL 121 115 2 120,go 122 115 (.call 99 [(.s 121)]),p 123 115 122,m 124 123,gf 125 124 1 8,gl 126 124 125,gm 127 124 14,gi 128 124 10 126 127,gf 129 124 3 128,gl 130 124 129,go 131 124 (.un .not (.s 130)),p 132 124 131] [5,7,8,10,14,132]) (jC 132 c119_2 .skip)
def c119_5:zL:=jS (jD [f 102 1 5,l 103 102,f 104 1 8,l 105 104,m 106 14,i 107 10 105 106,f 108 0 107,l 109 108,o 110 (.call 60 [(.s 103),(.s 109)]),m 101 110,x 111 101 0,x 112 101 1,o 15 (.alloc [.t (.str []),.t (.str []),.zC,.t (.bool false),jN 0,jN 0,.t (.str []),.zC,.zC,.zC]),jO (.st 10 (.s 15) (.s 111)),m 16 112] [[],[0],[],[2],[],[3,4],[5],[6],[1,7],[8],[9],[9],[],[12,10,8,0,1,2,3,4,5,6,7,8,9,10,12],[11,13,0,1,2,3,4,5,6,7,8,9,10,11,12,13]] [5,7,8,10,14,16]) c119_4
def c119_8:zL:=jS (jS (jR [m 94 14,f 95 1 8,l 96 95,e 97 96,b 98 .lss 94 97] [5,7,8,10,14,98]) (jC 98 .skip (.exit 2))) (jS (.block 3 c119_5) c119_1)
def c119_11:zL:=jS (jS (jR [jI 14 0] [5,7,8,10,14]) (.block 2 (.loop c119_8))) (jX [m 147 10,m 6 147] [6])
def c119_12:zL:=jR [m 52 11,jB 53 .add 52 1,m 11 53] [5,7,8,10,11]
def c119_13:zL:=jR [m 80 10,m 81 7,o 82 (.bin .add (.s 81) (.c (.t (.str [40])))),f 83 1 5,l 84 83,m 85 11,i 86 10 84 85,f 87 0 86,l 88 87,b 89 .add 82 88,o 90 (.bin .add (.s 89) (.c (.t (.str [41])))),o 91 (.build [jN 0,.t (.str [])] [(0,1,(.c (jN 22))),(1,1,(.s 90))]),o 92 (.bsl false 2 [[.int .i64 0,.str []]] [(0,(.s 91))]),o 93 (.app 2 24 (.s 80) (.s 92)),m 10 93] [5,7,8,10,11]
def c119_15:zL:=jS (jD [m 66 13,u 67 66,m 68 67,hf 69 68 1 12,hL 70 68 2 69,hf 71 68 1 5,hl 72 68 71,hm 73 68 11,hi 74 68 10 72 73,hf 75 68 1 74,hL 76 68 2 75,ho 77 68 (.call 53 [(.s 70),(.s 76)]),ho 78 68 (.un .not (.s 77)),q 79 68 78] [[],[0],[1],[2],[3,2],[2],[5,2],[2],[6,7,2],[8,2],[9,2],[4,10,2,2],[11,2],[2,12]] [5,7,8,10,11,79]) (jC 79 c119_13 .skip)
def c119_16:zL:=jS (jD [f 55 1 8,l 56 55,f 57 1 5,l 58 57,m 59 11,i 60 10 58 59,f 61 0 60,l 62 61,o 63 (.call 60 [(.s 56),(.s 62)]),m 54 63,x 64 54 0,x 65 54 1,o 12 (.alloc [.t (.str []),.t (.str []),.zC,.t (.bool false),jN 0,jN 0,.t (.str []),.zC,.zC,.zC]),jO (.st 10 (.s 12) (.s 64)),m 13 65] [[],[0],[],[2],[],[3,4],[5],[6],[1,7],[8],[9],[9],[],[12,10,8,0,1,2,3,4,5,6,7,8,9,10,12],[11,13,0,1,2,3,4,5,6,7,8,9,10,11,12,13]] [5,7,8,10,11,12,13]) c119_15
def c119_19:zL:=jS (jS (jR [m 47 11,f 48 1 5,l 49 48,e 50 49,b 51 .lss 47 50] [5,7,8,10,11,51]) (jC 51 .skip (.exit 0))) (jS (.block 1 c119_16) c119_12)
def c119_20:zL:=.loop c119_19
def c119_22:zL:=jS (jS (jR [jI 11 0] [5,7,8,10,11]) (.block 0 c119_20)) c119_11
def c119_23:zL:=jR [m 42 10,m 43 7,o 44 (.build [jN 0,.t (.str [])] [(0,1,(.c (jN 10))),(1,1,(.s 43))]),o 45 (.bsl false 2 [[.int .i64 0,.str []]] [(0,(.s 44))]),o 46 (.app 2 24 (.s 42) (.s 45)),m 10 46] [5,7,8,10]
def c119_25:zL:=jS (jS (jR [jL 35 1 3,f 36 2 8,jL 37 2 36,f 38 2 5,jL 39 2 38,o 40 (.call 159 [(.s 35),(.s 37),(.s 39)]),u 41 40] [5,7,8,10,41]) (jC 41 c119_23 .skip)) c119_22
def c119_26:zL:=jS (jR [o 10 (.cst (.zC))] [3,5,7,8,10]) c119_25
def c119_27:zL:=jS (jR [m 32 7,o 33 (.build [jN 0,.t (.str [])] [(0,1,(.c (jN 20))),(1,1,(.s 32))]),o 34 (.bsl true 2 [[.int .i64 0,.str []]] [(0,(.s 33))]),m 6 34] [6]) .ret
def c119_29:zL:=jS (jS (jR [m 30 9,u 31 30] [3,5,7,8,31]) (jC 31 c119_27 .skip)) c119_26
def c119_30:zL:=jS (jR [jL 24 7 4,f 25 0 5,l 26 25,o 27 (.call 13 [(.s 24),(.s 26)]),m 23 27,x 28 23 0,x 29 23 1,o 8 (.alloc [.t (.str []),.zC,.t (.str []),.zC,.zC]),jO (.st 5 (.s 8) (.s 28)),m 9 29] [3,5,7,8,9]) c119_29
def c119_31:zL:=jS (jR [f 17 1 4,l 18 17,o 19 (.bin .add (.s 18) (.c (.t (.str [46])))),f 20 0 5,l 21 20,b 22 .add 19 21,m 7 22] [3,4,5,7]) c119_30
def c119:zL:=jS (jR [o 3 (.box 1 (.s 0)),o 4 (.box 7 (.s 1)),o 5 (.box 5 (.s 2)),o 6 (.cst (.zC))] [3,4,5]) c119_31
def r119:List Qh:=[.tmp 6]
def n119:Nat:=148
def c120_4:zL:=jS (jR [f 13 5 2,l 14 13,m 15 5,i 16 2 14 15,f 17 0 16,l 18 17,m 19 1,b 20 .eql 18 19] [1,2,5,20]) (jC 20 (jX [o 4 (.cst (.t (.bool true)))] [4]) .skip)
def c120_7:zL:=jS (jS (jR [m 6 5,f 7 5 2,l 8 7,e 9 8,b 10 .lss 6 9] [1,2,5,10]) (jC 10 .skip (.exit 0))) (jS (.block 1 c120_4) (jR [m 11 5,jB 12 .add 11 1,m 5 12] [1,2,5]))
def c120:zL:=jS (jR [o 2 (.box 7 (.s 0)),o 4 (.cst (.t (.bool false)))] [1,2]) (jS (jS (jR [jI 5 0] [1,2,5]) (.block 0 (.loop c120_7))) (jX [o 4 (.cst (.t (.bool false)))] [4]))
def r120:List Qh:=[.tmp 4]
def n120:Nat:=21
def c121_2:zL:=jR [m 14 3,jL 15 2 5,o 16 (.bsl false 2 [[.str [],.lst []]] [(0,(.s 15))]),o 17 (.app 2 40 (.s 14) (.s 16)),m 3 17] [3,6,7,8]
def c121_4:zL:=jR [o 23 (.bin .eql (.s 13) (.c (.t (.str [112,114,111,118,105,100,101,115])))),m 18 23] [3,5,6,7,8,18]
def c121_6:zL:=jS (jR [o 22 (.bin .eql (.s 13) (.c (.t (.str [114,101,113,117,105,114,101,115])))),m 18 22] [3,5,6,7,8,13,18]) (jC 18 .skip c121_4)
def c121_8:zL:=jS (jR [o 21 (.bin .eql (.s 13) (.c (.t (.str [115,104,97,114,101,97,98,108,101])))),m 18 21] [3,5,6,7,8,13,18]) (jC 18 .skip c121_6)
def c121_10:zL:=jS (jR [o 20 (.bin .eql (.s 13) (.c (.t (.str [101,120,116,101,114,110,97,108])))),m 18 20] [3,5,6,7,8,13,18]) (jC 18 .skip c121_8)
def c121_12:zL:=jS (jS (jR [o 19 (.bin .eql (.s 13) (.c (.t (.str [107,101,121])))),m 18 19] [3,5,6,7,8,13,18]) (jC 18 .skip c121_10)) (jC 18 .skip c121_2)
def c121_14:zL:=jS (jR [f 12 0 5,l 13 12] [3,5,6,7,8,13]) (.block 2 c121_12)
def c121_15:zL:=jS (jR [i 10 2 6 8,jL 11 2 10,o 5 (.alloc [.t (.str []),.zC]),jO (.st 2 (.s 5) (.s 11))] [3,5,6,7,8]) c121_14
def c121_21:zL:=jS (jS (jR [m 6 0,e 7 6,jI 8 0] [3,6,7,8]) (.block 0 (.loop (jS (jR [b 9 .lss 8 7] [3,6,7,8,9]) (jS (jC 9 .skip (.exit 0)) (jS (.block 1 c121_15) (jR [jB 24 .add 8 1,m 8 24] [3,6,7,8]))))))) (jX [m 25 3,m 2 25] [2])
def c121:zL:=jS (jR [o 2 (.cst (.zC))] [0]) (jS (jR [o 3 (.cst (.zC))] [0,3]) c121_21)
def r121:List Qh:=[.tmp 2]
def n121:Nat:=26
def c122_0:zL:=jX [m 5 0,m 6 1,o 7 (.call 160 [(.s 5),(.s 6)]),jB 8 .geq 7 0,m 4 8] [4]
def c122:zL:=jS (jR [o 4 (.cst (.t (.bool false)))] [0,1]) c122_0
def r122:List Qh:=[.tmp 4]
def n122:Nat:=9
def c123_0:zL:=jX [jL 4 2 1,jL 5 2 2,o 6 (.call 124 [(.s 4),(.s 5)]),m 3 6] [3]
def c123:zL:=jS (jR [o 2 (.box 2 (.s 0)),o 3 (.cst (.t (.bool false)))] [1,2]) c123_0
def r123:List Qh:=[.tmp 3]
def n123:Nat:=7
def c124_0:zL:=jS (jR [f 5 0 2,l 6 5,f 7 0 3,l 8 7,b 9 .eql 6 8,m 10 9,gf 11 10 1 2,gl 12 10 11,gf 13 10 1 3,gl 14 10 13,go 15 10 (.call 161 [(.s 12),(.s 14),(.c (.t (.fn 162)))]),p 16 10 15,m 4 16] [4]) .ret
def c124:zL:=jS (jR [o 2 (.box 2 (.s 0)),o 3 (.box 2 (.s 1)),o 4 (.cst (.t (.bool false)))] [2,3]) c124_0
def r124:List Qh:=[.tmp 4]
def n124:Nat:=17
def c125_0:zL:=jX [f 5 2 2,l 6 5,m 7 1,o 8 (.call 36 [(.s 6),(.s 7)]),m 4 8] [4]
def c125:zL:=jS (jR [o 2 (.box 7 (.s 0)),o 4 (.cst (.t (.bool false)))] [1,2]) c125_0
def r125:List Qh:=[.tmp 4]
def n125:Nat:=9
def c126_4:zL:=jS (jR [m 11 1,m 12 0,m 13 5,i 14 2 12 13,jL 15 2 14,o 16 (.z13 (.s 11) [(.s 15)])] [0,1,5,7,8,16]) (jC 16 (jX [m 17 5,m 4 17] [4]) .skip)
def c126_11:zL:=jS (jS (jR [m 6 0,e 7 6,jI 8 0] [0,1,7,8]) (.block 0 (.loop (jS (jR [b 9 .lss 8 7] [0,1,7,8,9]) (jS (jC 9 .skip (.exit 0)) (jS (.block 1 (jS (jR [m 10 8,m 5 10] [0,1,5,7,8]) c126_4)) (jR [jB 18 .add 8 1,m 8 18] [0,1,7,8]))))))) (jX [jI 4 (-1)] [4])
def c126:zL:=jS (jR [jI 4 0] [0,1]) c126_11
def r126:List Qh:=[.tmp 4]
def n126:Nat:=19
def c127_0:zL:=jX [m 5 0,o 6 (.ze7 129 [(.s 3)]),o 7 (.call 128 [(.s 5),(.s 6)]),u 8 7,m 4 8] [4]
def c127:zL:=jS (jR [o 3 (.box 1 (.s 1)),o 4 (.cst (.t (.bool false)))] [0,3]) c127_0
def r127:List Qh:=[.tmp 4]
def n127:Nat:=9
def c128_0:zL:=jX [m 5 0,m 6 1,o 7 (.call 163 [(.s 5),(.s 6)]),jB 8 .geq 7 0,m 4 8] [4]
def c128:zL:=jS (jR [o 4 (.cst (.t (.bool false)))] [0,1]) c128_0
def r128:List Qh:=[.tmp 4]
def n128:Nat:=9
def c129_0:zL:=jX [l 4 1,m 5 0,o 6 (.call 36 [(.s 4),(.s 5)]),u 7 6,m 3 7] [3]
def c129:zL:=jS (jR [o 3 (.cst (.t (.bool false)))] [0,1]) c129_0
def r129:List Qh:=[.tmp 3]
def n129:Nat:=8
def c130_0:zL:=jX [m 5 0,m 6 1,o 7 (.call 164 [(.s 5),(.s 6)]),jB 8 .geq 7 0,m 4 8] [4]
def c130:zL:=jS (jR [o 4 (.cst (.t (.bool false)))] [0,1]) c130_0
def r130:List Qh:=[.tmp 4]
def n130:Nat:=9
def c131_0:zL:=jX [f 3 4 1,l 4 3,e 5 4,jB 6 .gtr 5 16,m 2 6] [2]
def c131:zL:=jS (jR [o 1 (.box 5 (.s 0)),o 2 (.cst (.t (.bool false)))] [1]) c131_0
def r131:List Qh:=[.tmp 2]
def n131:Nat:=7
def c132_0:zL:=jX [m 5 0,m 6 1,o 7 (.call 165 [(.s 5),(.s 6)]),jB 8 .geq 7 0,m 4 8] [4]
def c132:zL:=jS (jR [o 4 (.cst (.t (.bool false)))] [0,1]) c132_0
def r132:List Qh:=[.tmp 4]
def n132:Nat:=9
def c133_0:zL:=jX [f 3 1 1,l 4 3,e 5 4,jB 6 .gtr 5 16,m 2 6] [2]
def c133:zL:=jS (jR [o 1 (.box 2 (.s 0)),o 2 (.cst (.t (.bool false)))] [1]) c133_0
def r133:List Qh:=[.tmp 2]
def n133:Nat:=7
def c134_0:zL:=jS (jR [m 3 0,o 4 (.call 79 [(.s 3)]),o 5 (.call 166 [(.s 4),(.c (.t (.fn 167)))]),m 2 5] [2]) .ret
def c134:zL:=jS (jR [o 2 (.cst (.zC))] [0]) c134_0
def r134:List Qh:=[.tmp 2]
def n134:Nat:=6
def c135_0:zL:=jX [f 5 1 1,l 6 5,e 7 6,jB 8 .gtr 7 0,m 9 8,gf 10 9 1 1,gl 11 9 10,go 12 9 (.ia 1 (.s 11) (.c (jN 0))),gl 13 9 12,gB 14 9 .eql 13 2,p 15 9 14,m 2 15] [2]
def c135_1:zL:=jS (jR [jL 3 2 1,o 4 (.call 136 [(.s 3)]),jO (.st 2 (.s 1) (.s 4))] [1]) c135_0
def c135:zL:=jS (jR [o 1 (.box 2 (.s 0)),o 2 (.cst (.t (.bool false)))] [1]) c135_1
def r135:List Qh:=[.tmp 2]
def n135:Nat:=16
def c136_0:zL:=jS (jD [f 10 0 1,l 11 10,m 12 3,o 13 (.call 79 [(.s 12)]),o 14 (.build [.t (.str []),.zC] [(0,1,(.s 11)),(1,1,(.s 13))]),jO (.st 2 (.s 2) (.s 14))] [[],[0],[],[2],[1,3],[4,3,0,1,2,3,4]] [2]) .ret
def c136_1:zL:=jR [m 8 3,o 9 (.sll 1 (.s 8) (some (.c (jN 1))) none),m 3 9] [1,2,3]
def c136_3:zL:=jS (jS (jR [jL 6 2 1,o 7 (.call 76 [(.s 6)])] [1,2,3,7]) (jC 7 c136_1 .skip)) c136_0
def c136_4:zL:=jS (jR [f 4 1 1,l 5 4,m 3 5] [1,2,3]) c136_3
def c136:zL:=jS (jR [o 1 (.box 2 (.s 0)),o 2 (.alloc [.t (.str []),.zC])] [1,2]) c136_4
def r136:List Qh:=[.cell 2 true 2]
def n136:Nat:=15
def c137_2:zL:=jR [m 12 3,jL 13 5 5,o 14 (.call 80 [(.s 13)]),o 15 (.bsl false 5 [[.int .i64 0,.int .i64 0,.str [],.lst [],.lst []]] [(0,(.s 14))]),o 16 (.app 5 80 (.s 12) (.s 15)),m 3 16] [3,6,7,8]
def c137_3:zL:=jS (jR [i 10 5 6 8,jL 11 5 10,o 5 (.alloc [jN 0,jN 0,.t (.str []),.zC,.zC]),jO (.st 5 (.s 5) (.s 11))] [3,5,6,7,8]) c137_2
def c137_9:zL:=jS (jS (jR [m 6 0,e 7 6,jI 8 0] [3,6,7,8]) (.block 0 (.loop (jS (jR [b 9 .lss 8 7] [3,6,7,8,9]) (jS (jC 9 .skip (.exit 0)) (jS (.block 1 c137_3) (jR [jB 17 .add 8 1,m 8 17] [3,6,7,8]))))))) (jX [m 18 3,m 2 18] [2])
def c137:zL:=jS (jR [o 2 (.cst (.zC))] [0]) (jS (jR [o 3 (.cst (.zC))] [0,3]) c137_9)
def r137:List Qh:=[.tmp 2]
def n137:Nat:=19
def c138_0:zL:=jX [m 5 0,o 6 (.ze7 168 [(.s 3)]),o 7 (.call 160 [(.s 5),(.s 6)]),m 4 7] [4]
def c138:zL:=jS (jR [o 3 (.box 1 (.s 1)),jI 4 0] [0,3]) c138_0
def r138:List Qh:=[.tmp 4]
def n138:Nat:=8
def c139_0:zL:=jX [jL 4 2 2,jL 5 2 1,o 6 (.call 124 [(.s 4),(.s 5)]),m 3 6] [3]
def c139:zL:=jS (jR [o 2 (.box 2 (.s 0)),o 3 (.cst (.t (.bool false)))] [1,2]) c139_0
def r139:List Qh:=[.tmp 3]
def n139:Nat:=7
def c140_0:zL:=jX [jL 5 5 2,jL 6 5 3,o 7 (.call 169 [(.s 5),(.s 6)]),jB 8 .eql 7 0,m 4 8] [4]
def c140:zL:=jS (jR [o 2 (.box 5 (.s 0)),o 3 (.box 5 (.s 1)),o 4 (.cst (.t (.bool false)))] [2,3]) c140_0
def r140:List Qh:=[.tmp 4]
def n140:Nat:=9
def c141_0:zL:=jX [jL 5 5 2,jL 6 5 3,o 7 (.call 170 [(.s 5),(.s 6)]),jB 8 .eql 7 0,m 4 8] [4]
def c141:zL:=jS (jR [o 2 (.box 5 (.s 0)),o 3 (.box 5 (.s 1)),o 4 (.cst (.t (.bool false)))] [2,3]) c141_0
def r141:List Qh:=[.tmp 4]
def n141:Nat:=9
def c144_0:zL:=jX [f 6 1 3,l 7 6,e 8 7,jB 9 .gtr 8 0,m 10 9,gf 11 10 1 3,gl 12 10 11,go 13 10 (.ia 1 (.s 12) (.c (jN 0))),gl 14 10 13,gB 15 10 .eql 14 2,p 16 10 15,m 2 16] [2]
def c144_1:zL:=jS (jR [jL 4 2 1,o 5 (.call 146 [(.s 4)]),o 3 (.alloc [.t (.str []),.zC]),jO (.st 2 (.s 3) (.s 5))] [3]) c144_0
def c144:zL:=jS (jR [o 1 (.box 2 (.s 0)),o 2 (.cst (.t (.bool false)))] [1]) c144_1
def r144:List Qh:=[.tmp 2]
def n144:Nat:=17
def c145_0:zL:=jS (jD [f 3 0 1,l 4 3,o 5 (.bsl true 1 [] []),f 6 1 1,l 7 6,o 8 (.sll 1 (.s 7) (some (.c (jN 1))) none),o 9 (.app 1 8 (.s 5) (.s 8)),o 10 (.build [.t (.str []),.zC] [(0,1,(.s 4)),(1,1,(.s 9))]),jO (.st 2 (.s 2) (.s 10))] [[],[0],[],[],[3],[4],[2,5],[1,6],[7,6,0,1,2,3,4,5,6,7]] [2]) .ret
def c145:zL:=jS (jR [o 1 (.box 2 (.s 0)),o 2 (.alloc [.t (.str []),.zC])] [1,2]) c145_0
def r145:List Qh:=[.cell 2 true 2]
def n145:Nat:=11
def c146_0:zL:=jS (jD [f 7 0 1,l 8 7,o 9 (.bsl true 1 [] []),f 10 1 1,l 11 10,o 12 (.app 1 8 (.s 9) (.s 11)),o 13 (.build [.t (.str []),.zC] [(0,1,(.s 8)),(1,1,(.s 12))]),jO (.st 2 (.s 2) (.s 13))] [[],[0],[],[],[3],[2,4],[1,5],[6,5,0,1,2,3,4,5,6]] [2]) .ret
def c146_1:zL:=jX [jL 5 2 1,o 6 (.call 145 [(.s 5)]),jO (.st 2 (.s 2) (.s 6))] [2]
def c146_3:zL:=jS (jS (jR [jL 3 2 1,o 4 (.call 99 [(.s 3)])] [1,2,4]) (jC 4 c146_1 .skip)) c146_0
def c146:zL:=jS (jR [o 1 (.box 2 (.s 0)),o 2 (.alloc [.t (.str []),.zC])] [1,2]) c146_3
def r146:List Qh:=[.cell 2 true 2]
def n146:Nat:=14
def c148_4:zL:=jS (jD [f 11 0 2,l 12 11,m 13 5,i 14 7 12 13,f 15 1 14,l 16 15,f 17 0 2,l 18 17,m 19 1,i 20 7 18 19,f 21 1 20,l 22 21,b 23 .eql 16 22] [[],[0],[],[1,2],[3],[4],[],[6],[],[7,8],[9],[10],[5,11]] [1,2,5,23]) (jC 23 (jX [o 4 (.cst (.t (.bool false)))] [4]) .skip)
def c148_7:zL:=jS (jS (jR [m 6 5,m 7 1,b 8 .lss 6 7] [1,2,5,8]) (jC 8 .skip (.exit 0))) (jS (.block 1 c148_4) (jR [m 9 5,jB 10 .add 9 1,m 5 10] [1,2,5]))
def c148:zL:=jS (jR [o 2 (.box 1 (.s 0)),o 4 (.cst (.t (.bool false)))] [1,2]) (jS (jS (jR [jI 5 0] [1,2,5]) (.block 0 (.loop c148_7))) (jX [o 4 (.cst (.t (.bool true)))] [4]))
def r148:List Qh:=[.tmp 4]
def n148:Nat:=24
def c149_0:zL:=jS (jR [m 3 0,o 4 (.bin .geq (.s 3) (.c (.t (.int .u8 65)))),m 5 4,gm 6 5 0,go 7 5 (.bin .leq (.s 6) (.c (.t (.int .u8 90)))),p 8 5 7,m 9 8,hm 10 9 0,ho 11 9 (.bin .geq (.s 10) (.c (.t (.int .u8 97)))),hm 12 9 11,gm 13 12 0,go 14 12 (.bin .leq (.s 13) (.c (.t (.int .u8 122)))),ho 15 9 (.pick (.s 12) (.s 14) (.c (.t (.bool false)))),q 16 9 15,m 17 16,hm 18 17 0,ho 19 17 (.bin .eql (.s 18) (.c (.t (.int .u8 95)))),q 20 17 19,m 2 20] [2]) .ret
def c149:zL:=jS (jR [o 2 (.cst (.t (.bool false)))] [0]) c149_0
def r149:List Qh:=[.tmp 2]
def n149:Nat:=21
def c150_0:zL:=jS (jR [m 3 0,o 4 (.bin .geq (.s 3) (.c (.t (.int .u8 48)))),m 5 4,gm 6 5 0,go 7 5 (.bin .leq (.s 6) (.c (.t (.int .u8 57)))),p 8 5 7,m 2 8] [2]) .ret
def c150:zL:=jS (jR [o 2 (.cst (.t (.bool false)))] [0]) c150_0
def r150:List Qh:=[.tmp 2]
def n150:Nat:=9
def c151_0:zL:=jS (jR [jL 3 5 1,o 4 (.call 171 [(.s 3)]),jB 5 .leq 4 4096,m 6 5,gL 7 6 5 1,go 8 6 (.call 172 [(.s 7)]),gB 9 6 .leq 8 24,p 10 6 9,m 11 10,gL 12 11 5 1,go 13 11 (.call 173 [(.s 12),(.c (.t (.bool true)))]),p 14 11 13,m 2 14] [2]) .ret
def c151:zL:=jS (jR [o 1 (.box 5 (.s 0)),o 2 (.cst (.t (.bool false)))] [1]) c151_0
def r151:List Qh:=[.tmp 2]
def n151:Nat:=15
def c152_0:zL:=jX [f 18 0 1,l 19 18,jB 20 .neq 19 7,m 2 20] [2]
def c152_4:zL:=jS (jR [f 11 3 1,l 12 11,m 13 3,i 14 5 12 13,jL 15 5 14,o 16 (.call 152 [(.s 15)]),u 17 16] [1,3,17]) (jC 17 (jX [o 2 (.cst (.t (.bool false)))] [2]) .skip)
def c152_7:zL:=jS (jS (jR [m 4 3,f 5 3 1,l 6 5,e 7 6,b 8 .lss 4 7] [1,3,8]) (jC 8 .skip (.exit 0))) (jS (.block 1 c152_4) (jR [m 9 3,jB 10 .add 9 1,m 3 10] [1,3]))
def c152:zL:=jS (jR [o 1 (.box 5 (.s 0)),o 2 (.cst (.t (.bool false)))] [1]) (jS (jS (jR [jI 3 0] [1,3]) (.block 0 (.loop c152_7))) c152_0)
def r152:List Qh:=[.tmp 2]
def n152:Nat:=21
def c153_4:zL:=jS (jR [m 35 3,jB 36 .gtr 35 0,m 37 36,gf 38 37 1 1,gl 39 37 38,gm 40 37 3,gi 41 37 1 39 40,gl 42 37 41,gB 43 37 .eql 42 1,p 44 37 43,m 45 44,gf 46 45 1 1,gl 47 45 46,gm 48 45 3,gB 49 45 .sub 48 1,gi 50 45 1 47 49,gl 51 45 50,gB 52 45 .eql 51 1,p 53 45 52] [1,3,53]) (jC 53 (jX [o 2 (.cst (.t (.bool false)))] [2]) .skip)
def c153_7:zL:=jS (jS (jR [f 21 1 1,l 22 21,m 23 3,i 24 1 22 23,l 25 24,jB 26 .neq 25 1,m 27 26,gf 28 27 1 1,gl 29 27 28,gm 30 27 3,gi 31 27 1 29 30,gl 32 27 31,gB 33 27 .neq 32 2,p 34 27 33] [1,3,34]) (jC 34 (jX [o 2 (.cst (.t (.bool false)))] [2]) .skip)) c153_4
def c153_10:zL:=jS (jS (jR [m 14 3,f 15 1 1,l 16 15,e 17 16,b 18 .lss 14 17] [1,3,18]) (jC 18 .skip (.exit 0))) (jS (.block 1 c153_7) (jR [m 19 3,jB 20 .add 19 1,m 3 20] [1,3]))
def c153_16:zL:=jS (jS (jR [f 4 0 1,l 5 4,o 6 (.call 106 [(.s 5)]),u 7 6,m 8 7,hf 9 8 1 1,hl 10 8 9,he 11 8 10,hB 12 8 .gtr 11 24,q 13 8 12] [1,13]) (jC 13 (jX [o 2 (.cst (.t (.bool false)))] [2]) .skip)) (jS (jS (jR [jI 3 0] [1,3]) (.block 0 (.loop c153_10))) (jX [o 2 (.cst (.t (.bool true)))] [2]))
def c153:zL:=jS (jR [o 1 (.box 2 (.s 0)),o 2 (.cst (.t (.bool false)))] [1]) c153_16
def r153:List Qh:=[.tmp 2]
def n153:Nat:=54
def c154_0:zL:=jS (jR [f 3 0 1,l 4 3,jB 5 .eql 4 0,m 6 5,gf 7 6 1 1,gl 8 6 7,gB 9 6 .eql 8 0,p 10 6 9,m 11 10,gf 12 11 2 1,gl 13 11 12,go 14 11 (.bin .eql (.s 13) (.c (.t (.str [])))),p 15 11 14,m 16 15,gf 17 16 3 1,gl 18 16 17,ge 19 16 18,gB 20 16 .eql 19 0,p 21 16 20,m 22 21,gf 23 22 4 1,gl 24 22 23,ge 25 22 24,gB 26 22 .eql 25 0,p 27 22 26,m 2 27] [2]) .ret
def c154:zL:=jS (jR [o 1 (.box 5 (.s 0)),o 2 (.cst (.t (.bool false)))] [1]) c154_0
def r154:List Qh:=[.tmp 2]
def n154:Nat:=28
def c155_0:zL:=jX [m 3 0,o 4 (.call 106 [(.s 3)]),m 5 4,gm 6 5 0,go 7 5 (.call 174 [(.s 6)]),go 8 5 (.un .not (.s 7)),p 9 5 8,m 2 9] [2]
def c155:zL:=jS (jR [o 2 (.cst (.t (.bool false)))] [0]) c155_0
def r155:List Qh:=[.tmp 2]
def n155:Nat:=10
def c156_1:zL:=jR [m 18 9,jB 19 .add 18 1,m 9 19] [2,3,4,5,9]
def c156_2:zL:=jR [m 56 3,f 57 0 10,l 58 57,o 59 (.bsl false 1 [[.str []]] [(0,(.s 58))]),o 60 (.app 1 16 (.s 56) (.s 59)),m 3 60] [2,3,4,5,9]
def c156_4:zL:=jS (jR [jL 33 2 10,o 34 (.call 175 [(.s 33)]),m 35 34,gf 36 35 0 10,gl 37 35 36,gm 38 35 2,gb 39 35 .eql 37 38,gm 40 35 39,hm 41 40 12,hm 42 40 41,gf 43 42 0 11,gl 44 42 43,gB 45 42 .eql 44 5,ho 46 40 (.pick (.s 42) (.s 45) (.c (.t (.bool false)))),go 47 35 (.pick (.s 40) (.c (.t (.bool true))) (.s 46)),p 48 35 47,m 49 48,gm 50 49 3,gf 51 49 0 10,gl 52 49 51,go 53 49 (.call 157 [(.s 50),(.s 52)]),go 54 49 (.un .not (.s 53)),p 55 49 54] [2,3,4,5,9,10,55]) (jC 55 c156_2 .skip)
def c156_5:zL:=jS (jR [jL 27 1 4,f 28 0 10,l 29 28,o 30 (.call 12 [(.s 27),(.s 29)]),m 26 30,x 31 26 0,x 32 26 1,o 11 (.alloc [jN 0,.t (.str []),.zC,.zC,.zC,.zC,.zC]),jO (.st 7 (.s 11) (.s 31)),m 12 32] [2,3,4,5,9,10,11,12]) c156_4
def c156_6:zL:=jS (jR [f 20 6 5,l 21 20,m 22 9,i 23 10 21 22,f 24 1 23,jL 25 2 24,o 10 (.alloc [.t (.str []),.zC]),jO (.st 2 (.s 10) (.s 25))] [2,3,4,5,9,10]) c156_5
def c156_9:zL:=jS (jS (jR [m 13 9,f 14 6 5,l 15 14,e 16 15,b 17 .lss 13 16] [2,3,4,5,9,17]) (jC 17 .skip (.exit 0))) (jS (.block 1 c156_6) c156_1)
def c156_12:zL:=jS (jS (jR [jI 9 0] [2,3,4,5,9]) (.block 0 (.loop c156_9))) (jX [m 61 3,m 8 61] [8])
def c156:zL:=jS (jR [o 4 (.box 1 (.s 0)),o 5 (.box 7 (.s 1)),o 8 (.cst (.zC))] [2,3,4,5]) c156_12
def r156:List Qh:=[.tmp 8]
def n156:Nat:=62
def c157_4:zL:=jS (jR [m 12 0,m 13 5,i 14 1 12 13,l 15 14,m 16 1,b 17 .eql 15 16] [0,1,5,17]) (jC 17 (jX [o 4 (.cst (.t (.bool true)))] [4]) .skip)
def c157_7:zL:=jS (jS (jR [m 6 5,m 7 0,e 8 7,b 9 .lss 6 8] [0,1,5,9]) (jC 9 .skip (.exit 0))) (jS (.block 1 c157_4) (jR [m 10 5,jB 11 .add 10 1,m 5 11] [0,1,5]))
def c157:zL:=jS (jR [o 4 (.cst (.t (.bool false)))] [0,1]) (jS (jS (jR [jI 5 0] [0,1,5]) (.block 0 (.loop c157_7))) (jX [o 4 (.cst (.t (.bool false)))] [4]))
def r157:List Qh:=[.tmp 4]
def n157:Nat:=18
def c158_0:zL:=jS (jR [m 13 1,o 14 (.call 111 [(.s 13)]),m 15 14,hm 16 15 6,hm 17 15 16,gf 18 17 0 5,gl 19 17 18,gB 20 17 .eql 19 4,ho 21 15 (.pick (.s 17) (.s 20) (.c (.t (.bool false)))),q 22 15 21,m 4 22] [4]) .ret
def c158_1:zL:=jS (jR [jL 8 1 2,m 9 1,o 10 (.call 12 [(.s 8),(.s 9)]),m 7 10,x 11 7 0,x 12 7 1,o 5 (.alloc [jN 0,.t (.str []),.zC,.zC,.zC,.zC,.zC]),jO (.st 7 (.s 5) (.s 11)),m 6 12] [1,5,6]) c158_0
def c158:zL:=jS (jR [o 2 (.box 1 (.s 0)),o 4 (.cst (.t (.bool false)))] [1,2]) c158_1
def r158:List Qh:=[.tmp 4]
def n158:Nat:=23
def c159_0:zL:=jS (jR [m 48 8,u 49 48,m 50 49,gm 51 50 10,go 52 50 (.un .not (.s 51)),p 53 50 52,m 54 53,gf 55 54 0 4,gl 56 54 55,gf 57 54 0 5,gl 58 54 57,gb 59 54 .eql 56 58,gm 60 54 59,hL 61 60 1 3,hf 62 60 0 4,hl 63 60 62,hf 64 60 0 5,hl 65 60 64,ho 66 60 (.call 176 [(.s 61),(.s 63),(.s 65)]),go 67 54 (.pick (.s 60) (.c (.t (.bool true))) (.s 66)),p 68 54 67,m 6 68] [6]) .ret
def c159_1:zL:=jX [jL 44 1 3,jL 45 2 7,jL 46 2 9,o 47 (.call 159 [(.s 44),(.s 45),(.s 46)]),m 6 47] [6]
def c159_3:zL:=jS (jS (jR [m 40 8,m 41 40,gm 42 41 10,p 43 41 42] [3,4,5,7,8,9,10,43]) (jC 43 c159_1 .skip)) c159_0
def c159_4:zL:=jS (jR [jL 36 2 5,o 37 (.call 97 [(.s 36)]),m 35 37,x 38 35 0,x 39 35 1,o 9 (.alloc [.t (.str []),.zC]),jO (.st 2 (.s 9) (.s 38)),m 10 39] [3,4,5,7,8,9,10]) c159_3
def c159_5:zL:=jS (jR [jL 31 2 4,o 32 (.call 97 [(.s 31)]),m 30 32,x 33 30 0,x 34 30 1,o 7 (.alloc [.t (.str []),.zC]),jO (.st 2 (.s 7) (.s 33)),m 8 34] [3,4,5,7,8]) c159_4
def c159_6:zL:=jS (jD [jL 25 1 3,jL 26 2 4,o 27 (.call 146 [(.s 26)]),jL 28 2 5,o 29 (.call 159 [(.s 25),(.s 27),(.s 28)]),m 6 29] [[],[],[1],[],[0,2,3,2],[4,4,0,1,2,3,4]] [6]) .ret
def c159_8:zL:=jS (jS (jR [jL 23 2 4,o 24 (.call 99 [(.s 23)])] [3,4,5,24]) (jC 24 c159_6 .skip)) c159_5
def c159_9:zL:=jS (jD [jL 13 2 4,o 14 (.call 99 [(.s 13)]),m 15 14,gL 16 15 1 3,gL 17 15 2 4,go 18 15 (.call 146 [(.s 17)]),gL 19 15 2 5,go 20 15 (.call 146 [(.s 19)]),go 21 15 (.call 159 [(.s 16),(.s 18),(.s 20)]),p 22 15 21,m 6 22] [[],[0],[1,1],[2],[2],[4,2,2],[2],[6,5,2],[3,5,7,7,2],[2,8],[9,8,0,1,2,3,4,5,6,7,8,9]] [6]) .ret
def c159_11:zL:=jS (jS (jR [jL 11 2 5,o 12 (.call 99 [(.s 11)])] [3,4,5,12]) (jC 12 c159_9 .skip)) c159_8
def c159:zL:=jS (jR [o 3 (.box 1 (.s 0)),o 4 (.box 2 (.s 1)),o 5 (.box 2 (.s 2)),o 6 (.cst (.t (.bool false)))] [3,4,5]) c159_11
def r159:List Qh:=[.tmp 6]
def n159:Nat:=69
def c160_4:zL:=jS (jR [m 11 1,m 12 0,m 13 5,i 14 2 12 13,jL 15 2 14,o 16 (.z13 (.s 11) [(.s 15)])] [0,1,5,7,8,16]) (jC 16 (jX [m 17 5,m 4 17] [4]) .skip)
def c160_11:zL:=jS (jS (jR [m 6 0,e 7 6,jI 8 0] [0,1,7,8]) (.block 0 (.loop (jS (jR [b 9 .lss 8 7] [0,1,7,8,9]) (jS (jC 9 .skip (.exit 0)) (jS (.block 1 (jS (jR [m 10 8,m 5 10] [0,1,5,7,8]) c160_4)) (jR [jB 18 .add 8 1,m 8 18] [0,1,7,8]))))))) (jX [jI 4 (-1)] [4])
def c160:zL:=jS (jR [jI 4 0] [0,1]) c160_11
def r160:List Qh:=[.tmp 4]
def n160:Nat:=19
def c161_4:zL:=jS (jR [m 26 2,jL 27 6 8,jL 28 6 9,o 29 (.z13 (.s 26) [(.s 27),(.s 28)]),u 30 29] [1,2,15,16,17,30]) (jC 30 (jX [o 6 (.cst (.t (.bool false)))] [6]) .skip)
def c161_5:zL:=jS (jR [m 22 1,m 23 7,i 24 6 22 23,jL 25 6 24,o 9 (.alloc [.t (.str []),jN 0,jN 0,.t (.str []),.zC,.zC]),jO (.st 6 (.s 9) (.s 25))] [1,2,8,9,15,16,17]) c161_4
def c161_6:zL:=jS (jR [m 19 17,i 20 6 15 17,jL 21 6 20,o 8 (.alloc [.t (.str []),jN 0,jN 0,.t (.str []),.zC,.zC]),m 7 19,jO (.st 6 (.s 8) (.s 21))] [1,2,7,8,15,16,17]) c161_5
def c161_9:zL:=jS (jR [b 18 .lss 17 16] [1,2,15,16,17,18]) (jS (jC 18 .skip (.exit 0)) (jS (.block 1 c161_6) (jR [jB 31 .add 17 1,m 17 31] [1,2,15,16,17])))
def c161_12:zL:=jS (jS (jR [m 15 0,e 16 15,jI 17 0] [1,2,15,16,17]) (.block 0 (.loop c161_9))) (jX [o 6 (.cst (.t (.bool true)))] [6])
def c161_15:zL:=jS (jS (jR [m 10 0,e 11 10,m 12 1,e 13 12,b 14 .neq 11 13] [0,1,2,14]) (jC 14 (jX [o 6 (.cst (.t (.bool false)))] [6]) .skip)) c161_12
def c161:zL:=jS (jR [o 6 (.cst (.t (.bool false)))] [0,1,2]) c161_15
def r161:List Qh:=[.tmp 6]
def n161:Nat:=32
def c162_0:zL:=jX [f 5 0 2,l 6 5,f 7 0 3,l 8 7,b 9 .eql 6 8,m 10 9,gf 11 10 1 2,gL 12 10 5 11,gf 13 10 1 3,gL 14 10 5 13,go 15 10 (.call 140 [(.s 12),(.s 14)]),p 16 10 15,m 4 16] [4]
def c162:zL:=jS (jR [o 2 (.box 6 (.s 0)),o 3 (.box 6 (.s 1)),o 4 (.cst (.t (.bool false)))] [2,3]) c162_0
def r162:List Qh:=[.tmp 4]
def n162:Nat:=17
def c163_4:zL:=jS (jR [m 11 1,m 12 0,m 13 5,i 14 1 12 13,l 15 14,o 16 (.z13 (.s 11) [(.s 15)])] [0,1,5,7,8,16]) (jC 16 (jX [m 17 5,m 4 17] [4]) .skip)
def c163_11:zL:=jS (jS (jR [m 6 0,e 7 6,jI 8 0] [0,1,7,8]) (.block 0 (.loop (jS (jR [b 9 .lss 8 7] [0,1,7,8,9]) (jS (jC 9 .skip (.exit 0)) (jS (.block 1 (jS (jR [m 10 8,m 5 10] [0,1,5,7,8]) c163_4)) (jR [jB 18 .add 8 1,m 8 18] [0,1,7,8]))))))) (jX [jI 4 (-1)] [4])
def c163:zL:=jS (jR [jI 4 0] [0,1]) c163_11
def r163:List Qh:=[.tmp 4]
def n163:Nat:=19
def c164_4:zL:=jS (jR [m 11 1,m 12 0,m 13 5,i 14 5 12 13,jL 15 5 14,o 16 (.z13 (.s 11) [(.s 15)])] [0,1,5,7,8,16]) (jC 16 (jX [m 17 5,m 4 17] [4]) .skip)
def c164_11:zL:=jS (jS (jR [m 6 0,e 7 6,jI 8 0] [0,1,7,8]) (.block 0 (.loop (jS (jR [b 9 .lss 8 7] [0,1,7,8,9]) (jS (jC 9 .skip (.exit 0)) (jS (.block 1 (jS (jR [m 10 8,m 5 10] [0,1,5,7,8]) c164_4)) (jR [jB 18 .add 8 1,m 8 18] [0,1,7,8]))))))) (jX [jI 4 (-1)] [4])
def c164:zL:=jS (jR [jI 4 0] [0,1]) c164_11
def r164:List Qh:=[.tmp 4]
def n164:Nat:=19
def c165_4:zL:=jS (jR [m 11 1,m 12 0,m 13 5,i 14 2 12 13,jL 15 2 14,o 16 (.z13 (.s 11) [(.s 15)])] [0,1,5,7,8,16]) (jC 16 (jX [m 17 5,m 4 17] [4]) .skip)
def c165_11:zL:=jS (jS (jR [m 6 0,e 7 6,jI 8 0] [0,1,7,8]) (.block 0 (.loop (jS (jR [b 9 .lss 8 7] [0,1,7,8,9]) (jS (jC 9 .skip (.exit 0)) (jS (.block 1 (jS (jR [m 10 8,m 5 10] [0,1,5,7,8]) c165_4)) (jR [jB 18 .add 8 1,m 8 18] [0,1,7,8]))))))) (jX [jI 4 (-1)] [4])
def c165:zL:=jS (jR [jI 4 0] [0,1]) c165_11
def r165:List Qh:=[.tmp 4]
def n165:Nat:=19
def c166_0:zL:=jX [m 39 0,m 40 5,o 41 (.sll 1 (.s 39) none (some (.s 40))),m 4 41] [4]
def c166_1:zL:=jS (jR [m 36 0,m 37 5,o 38 (.sll 1 (.s 36) (some (.s 37)) none),jO (.nw (.zcc 1 [jN 0] (.s 38)))] [0,5]) c166_0
def c166_2:zL:=jR [m 20 6,jB 21 .add 20 1,m 6 21] [0,1,5,6]
def c166_3:zL:=jR [m 34 5,jB 35 .add 34 1,m 5 35] [0,1,5,6]
def c166_4:zL:=jS (jR [m 30 0,m 31 5,m 32 7,i 33 1 30 31,jO (.st 1 (.s 33) (.s 32))] [0,1,5,6]) c166_3
def c166_6:zL:=jS (jR [m 26 1,m 27 7,o 28 (.z13 (.s 26) [(.s 27)]),u 29 28] [0,1,5,6,7,29]) (jC 29 c166_4 .skip)
def c166_7:zL:=jS (jR [m 22 0,m 23 6,i 24 1 22 23,l 25 24,m 7 25] [0,1,5,6,7]) c166_6
def c166_10:zL:=jS (jS (jR [m 16 6,m 17 0,e 18 17,b 19 .lss 16 18] [0,1,5,6,19]) (jC 19 .skip (.exit 0))) (jS (.block 1 c166_7) c166_2)
def c166_13:zL:=jS (jS (jR [m 14 5,jB 15 .add 14 1,m 6 15] [0,1,5,6]) (.block 0 (.loop c166_10))) c166_1
def c166_16:zL:=jS (jS (jR [m 11 5,jB 12 .eql 11 (-1)] [0,1,5,12]) (jC 12 (jX [m 13 0,m 4 13] [4]) .skip)) c166_13
def c166_17:zL:=jS (jR [m 8 0,m 9 1,o 10 (.call 177 [(.s 8),(.s 9)]),m 5 10] [0,1,5]) c166_16
def c166:zL:=jS (jR [o 4 (.cst (.zC))] [0,1]) c166_17
def r166:List Qh:=[.tmp 4]
def n166:Nat:=42
def c167:zL:=jS (jR [o 2 (.cst (.t (.bool false)))] [0]) (jX [m 3 0,jB 4 .eql 3 1,m 2 4] [2])
def r167:List Qh:=[.tmp 2]
def n167:Nat:=5
def c168_0:zL:=jX [f 4 0 2,l 5 4,l 6 1,b 7 .eql 5 6,m 3 7] [3]
def c168:zL:=jS (jR [o 2 (.box 2 (.s 0)),o 3 (.cst (.t (.bool false)))] [1,2]) c168_0
def r168:List Qh:=[.tmp 3]
def n168:Nat:=8
def c169_2:zL:=jR [f 75 3 2,l 76 75,e 77 76,f 78 3 3,l 79 78,e 80 79,o 81 (.call 178 [(.s 77),(.s 80)]),m 5 81] [2,3,5,7]
def c169_5:zL:=jS (jR [m 72 5,jB 73 .neq 72 0] [2,3,5,7,48,49,73]) (jC 73 (.exit 0) .skip)
def c169_6:zL:=jS (jD [f 61 3 2,l 62 61,m 63 6,i 64 5 62 63,jL 65 5 64,f 66 3 3,l 67 66,m 68 6,i 69 5 67 68,jL 70 5 69,o 71 (.call 169 [(.s 65),(.s 70)]),m 5 71] [[],[0],[],[1,2],[3],[],[5],[],[6,7],[8],[4,9],[10,10,0,1,2,3,4,5,6,7,8,9,10]] [2,3,5,7,48,49]) c169_5
def c169_8:zL:=jS (jR [m 59 5,jB 60 .neq 59 0] [2,3,5,6,7,48,49,60]) (jC 60 (.exit 0) .skip)
def c169_9:zL:=jS (jS (jD [jL 52 5 2,m 53 6,o 54 (.call 180 [(.s 52),(.s 53)]),jL 55 5 3,m 56 6,o 57 (.call 180 [(.s 55),(.s 56)]),o 58 (.call 179 [(.s 54),(.s 57)]),m 5 58] [[],[],[0,1],[],[],[3,4,2],[2,5,5],[6,6,0,1,2,3,4,5,6]] [2,3,5,6,7,48,49]) c169_8) c169_6
def c169_10:zL:=jS (jR [m 51 49,m 6 51] [2,3,6,7,48,49]) c169_9
def c169_13:zL:=jS (jR [b 50 .lss 49 48] [2,3,7,48,49,50]) (jS (jC 50 .skip (.exit 3)) (jS (.block 4 c169_10) (jR [jB 74 .add 49 1,m 49 74] [2,3,7,48,49])))
def c169_16:zL:=jS (jS (jR [f 42 3 2,l 43 42,e 44 43,f 45 3 3,l 46 45,e 47 46,o 48 (.zdZ (.s 44) (.s 47)),jI 49 0] [2,3,7,48,49]) (.block 3 (.loop c169_13))) c169_2
def c169_17:zL:=jS (jR [f 15 0 2,l 16 15,f 17 0 3,l 18 17,o 19 (.call 178 [(.s 16),(.s 18)]),m 5 19] [5]) (.exit 0)
def c169_18:zL:=jS (jR [f 26 1 2,l 27 26,f 28 1 3,l 29 28,o 30 (.call 178 [(.s 27),(.s 29)]),m 5 30] [5]) (.exit 0)
def c169_19:zL:=jS (jR [f 37 2 2,l 38 37,f 39 2 3,l 40 39,o 41 (.call 179 [(.s 38),(.s 40)]),m 5 41] [5]) (.exit 0)
def c169_21:zL:=jS (jR [f 32 2 2,l 33 32,f 34 2 3,l 35 34,b 36 .neq 33 35,m 31 36] [2,3,7,31]) (jC 31 c169_19 .skip)
def c169_23:zL:=jS (jR [f 21 1 2,l 22 21,f 23 1 3,l 24 23,b 25 .neq 22 24,m 20 25] [2,3,7,20]) (jC 20 c169_18 c169_21)
def c169_25:zL:=jS (jR [f 10 0 2,l 11 10,f 12 0 3,l 13 12,b 14 .neq 11 13,m 9 14] [2,3,7,9]) (jC 9 c169_17 c169_23)
def c169_32:zL:=jS (jS (jR [jI 7 0] [2,3,5,7]) (.block 0 (.loop (jS (jR [jB 8 .lss 7 1] [2,3,5,7,8]) (jS (jC 8 .skip (.exit 0)) (jS (.block 1 (jS (.block 2 c169_25) c169_16)) (jR [jB 82 .add 7 1,m 7 82] [2,3,5,7]))))))) (jX [m 83 5,m 4 83] [4])
def c169:zL:=jS (jR [o 2 (.box 5 (.s 0)),o 3 (.box 5 (.s 1)),jI 4 0] [2,3]) (.scope (jS (jR [jI 5 0] [2,3,5]) (jS .lbl c169_32)))
def r169:List Qh:=[.tmp 4]
def n169:Nat:=84
def c170_1:zL:=jR [m 28 6,jB 29 .add 28 1,m 6 29] [2,3,5,6]
def c170_2:zL:=jD [f 58 3 2,l 59 58,m 60 6,i 61 5 59 60,jL 62 5 61,f 63 3 3,l 64 63,m 65 6,i 66 5 64 65,jL 67 5 66,o 68 (.call 170 [(.s 62),(.s 67)]),m 5 68] [[],[0],[],[1,2],[3],[],[5],[],[6,7],[8],[4,9],[10,10,0,1,2,3,4,5,6,7,8,9,10]] [2,3,5,6]
def c170_4:zL:=jS (jR [m 56 5,jB 57 .eql 56 0] [2,3,5,6,57]) (jC 57 c170_2 .skip)
def c170_5:zL:=jS (jD [jL 49 5 2,m 50 6,o 51 (.call 183 [(.s 49),(.s 50)]),jL 52 5 3,m 53 6,o 54 (.call 183 [(.s 52),(.s 53)]),o 55 (.call 182 [(.s 51),(.s 54)]),m 5 55] [[],[],[0,1],[],[],[3,4,2],[2,5,5],[6,6,0,1,2,3,4,5,6]] [2,3,5,6]) c170_4
def c170_6:zL:=jX [f 42 3 2,l 43 42,e 44 43,f 45 3 3,l 46 45,e 47 46,o 48 (.call 181 [(.s 44),(.s 47)]),m 4 48] [4]
def c170_8:zL:=jS (jS (jR [m 30 6,f 31 3 2,l 32 31,e 33 32,b 34 .geq 30 33,m 35 34,hm 36 35 6,hf 37 35 3 3,hl 38 35 37,he 39 35 38,hb 40 35 .geq 36 39,q 41 35 40] [2,3,6,41]) (jC 41 c170_6 .skip)) c170_5
def c170_11:zL:=jS (jS (jR [m 26 5,jB 27 .eql 26 0] [2,3,5,6,27]) (jC 27 .skip (.exit 0))) (jS (.block 1 c170_8) c170_1)
def c170_14:zL:=jS (jS (jR [jI 6 0] [2,3,5,6]) (.block 0 (.loop c170_11))) (jX [m 69 5,m 4 69] [4])
def c170_15:zL:=jR [f 21 2 2,l 22 21,f 23 2 3,l 24 23,o 25 (.call 182 [(.s 22),(.s 24)]),m 5 25] [2,3,5]
def c170_17:zL:=jS (jS (jR [m 19 5,jB 20 .eql 19 0] [2,3,5,20]) (jC 20 c170_15 .skip)) c170_14
def c170_18:zL:=jR [f 14 1 2,l 15 14,f 16 1 3,l 17 16,o 18 (.call 181 [(.s 15),(.s 17)]),m 5 18] [2,3,5]
def c170_20:zL:=jS (jS (jR [m 12 5,jB 13 .eql 12 0] [2,3,5,13]) (jC 13 c170_18 .skip)) c170_17
def c170_21:zL:=jS (jR [f 7 0 2,l 8 7,f 9 0 3,l 10 9,o 11 (.call 181 [(.s 8),(.s 10)]),m 5 11] [2,3,5]) c170_20
def c170:zL:=jS (jR [o 2 (.box 5 (.s 0)),o 3 (.box 5 (.s 1)),jI 4 0] [2,3]) c170_21
def r170:List Qh:=[.tmp 4]
def n170:Nat:=70
def c171_2:zL:=jR [m 12 3,f 13 3 1,l 14 13,m 15 4,i 16 5 14 15,jL 17 5 16,o 18 (.call 171 [(.s 17)]),b 19 .add 12 18,m 3 19] [1,3,4]
def c171_5:zL:=jS (jS (jR [m 5 4,f 6 3 1,l 7 6,e 8 7,b 9 .lss 5 8] [1,3,4,9]) (jC 9 .skip (.exit 0))) (jS (.block 1 c171_2) (jR [m 10 4,jB 11 .add 10 1,m 4 11] [1,3,4]))
def c171:zL:=jS (jR [o 1 (.box 5 (.s 0)),jI 2 0] [1]) (jS (jR [jI 3 1] [1,3]) (jS (jS (jR [jI 4 0] [1,3,4]) (.block 0 (.loop c171_5))) (jX [m 20 3,m 2 20] [2])))
def r171:List Qh:=[.tmp 2]
def n171:Nat:=21
def c172_2:zL:=jR [m 12 3,f 13 3 1,l 14 13,m 15 4,i 16 5 14 15,jL 17 5 16,o 18 (.call 172 [(.s 17)]),o 19 (.zeC (.s 12) (.s 18)),m 3 19] [1,3,4]
def c172_5:zL:=jS (jS (jR [m 5 4,f 6 3 1,l 7 6,e 8 7,b 9 .lss 5 8] [1,3,4,9]) (jC 9 .skip (.exit 0))) (jS (.block 1 c172_2) (jR [m 10 4,jB 11 .add 10 1,m 4 11] [1,3,4]))
def c172:zL:=jS (jR [o 1 (.box 5 (.s 0)),jI 2 0] [1]) (jS (jR [jI 3 0] [1,3]) (jS (jS (jR [jI 4 0] [1,3,4]) (.block 0 (.loop c172_5))) (jX [m 20 3,jB 21 .add 20 1,m 2 21] [2])))
def r172:List Qh:=[.tmp 2]
def n172:Nat:=22
def c173_4:zL:=jS (jR [f 35 3 2,l 36 35,m 37 6,i 38 5 36 37,jL 39 5 38,m 40 1,o 41 (.call 173 [(.s 39),(.s 40)]),u 42 41] [1,2,6,42]) (jC 42 (jX [o 4 (.cst (.t (.bool false)))] [4]) .skip)
def c173_7:zL:=jS (jS (jR [m 28 6,f 29 3 2,l 30 29,e 31 30,b 32 .lss 28 31] [1,2,6,32]) (jC 32 .skip (.exit 2))) (jS (.block 3 c173_4) (jR [m 33 6,jB 34 .add 33 1,m 6 34] [1,2,6]))
def c173_14:zL:=jS (jR [m 18 1,m 19 18,gf 20 19 4 2,gl 21 19 20,gm 22 19 5,gi 23 19 1 21 22,gl 24 19 23,go 25 19 (.call 106 [(.s 24)]),go 26 19 (.un .not (.s 25)),p 27 19 26] [1,2,5,27]) (jC 27 (jX [o 4 (.cst (.t (.bool false)))] [4]) .skip)
def c173_17:zL:=jS (jS (jR [m 11 5,f 12 4 2,l 13 12,e 14 13,b 15 .lss 11 14] [1,2,5,15]) (jC 15 .skip (.exit 0))) (jS (.block 1 c173_14) (jR [m 16 5,jB 17 .add 16 1,m 5 17] [1,2,5]))
def c173_20:zL:=jS (jS (jR [jI 5 0] [1,2,5]) (.block 0 (.loop c173_17))) (jS (jS (jR [jI 6 0] [1,2,6]) (.block 2 (.loop c173_7))) (jX [o 4 (.cst (.t (.bool true)))] [4]))
def c173_23:zL:=jS (jS (jR [jL 7 5 2,m 8 1,o 9 (.call 184 [(.s 7),(.s 8)]),u 10 9] [1,2,10]) (jC 10 (jX [o 4 (.cst (.t (.bool false)))] [4]) .skip)) c173_20
def c173:zL:=jS (jR [o 2 (.box 5 (.s 0)),o 4 (.cst (.t (.bool false)))] [1,2]) c173_23
def r173:List Qh:=[.tmp 4]
def n173:Nat:=43
def c174_0:zL:=jS (jR [m 3 0,o 4 (.lens (.s 3)),jB 5 .geq 4 2,m 6 5,gm 7 6 0,go 8 6 (.ixs (.s 7) (.c (jN 0))),go 9 6 (.bin .eql (.s 8) (.c (.t (.int .u8 95)))),p 10 6 9,m 11 10,gm 12 11 0,go 13 11 (.ixs (.s 12) (.c (jN 1))),go 14 11 (.bin .eql (.s 13) (.c (.t (.int .u8 95)))),p 15 11 14,m 2 15] [2]) .ret
def c174:zL:=jS (jR [o 2 (.cst (.t (.bool false)))] [0]) c174_0
def r174:List Qh:=[.tmp 2]
def n174:Nat:=16
def c175_0:zL:=jX [f 3 1 1,l 4 3,e 5 4,jB 6 .eql 5 1,m 7 6,gf 8 7 1 1,gl 9 7 8,go 10 7 (.ia 1 (.s 9) (.c (jN 0))),gl 11 7 10,gB 12 7 .eql 11 1,p 13 7 12,m 2 13] [2]
def c175:zL:=jS (jR [o 1 (.box 2 (.s 0)),o 2 (.cst (.t (.bool false)))] [1]) c175_0
def r175:List Qh:=[.tmp 2]
def n175:Nat:=14
def c176_0:zL:=jX [jL 7 1 3,m 8 2,o 9 (.call 105 [(.s 7),(.s 8)]),m 10 1,o 11 (.call 118 [(.s 9),(.s 10)]),m 6 11] [6]
def c176:zL:=jS (jR [o 3 (.box 1 (.s 0)),o 6 (.cst (.t (.bool false)))] [1,2,3]) c176_0
def r176:List Qh:=[.tmp 6]
def n176:Nat:=12
def c177_4:zL:=jS (jR [m 11 1,m 12 0,m 13 5,i 14 1 12 13,l 15 14,o 16 (.z13 (.s 11) [(.s 15)])] [0,1,5,7,8,16]) (jC 16 (jX [m 17 5,m 4 17] [4]) .skip)
def c177_11:zL:=jS (jS (jR [m 6 0,e 7 6,jI 8 0] [0,1,7,8]) (.block 0 (.loop (jS (jR [b 9 .lss 8 7] [0,1,7,8,9]) (jS (jC 9 .skip (.exit 0)) (jS (.block 1 (jS (jR [m 10 8,m 5 10] [0,1,5,7,8]) c177_4)) (jR [jB 18 .add 8 1,m 8 18] [0,1,7,8]))))))) (jX [jI 4 (-1)] [4])
def c177:zL:=jS (jR [jI 4 0] [0,1]) c177_11
def r177:List Qh:=[.tmp 4]
def n177:Nat:=19
def c178_3:zL:=jS (jS (jR [m 17 0,m 18 1,b 19 .gtr 17 18] [19]) (jC 19 (jX [jI 4 1] [4]) .skip)) (jX [jI 4 0] [4])
def c178_6:zL:=jS (jS (jR [m 14 0,m 15 1,b 16 .lss 14 15] [0,1,16]) (jC 16 (jX [jI 4 (-1)] [4]) .skip)) c178_3
def c178_9:zL:=jS (jS (jR [m 13 6] [0,1,13]) (jC 13 (jX [jI 4 1] [4]) .skip)) c178_6
def c178_15:zL:=jS (jS (jR [m 11 5] [0,1,6,11]) (jC 11 (jS (jS (jR [m 12 6] [12]) (jC 12 (jX [jI 4 0] [4]) .skip)) (jX [jI 4 (-1)] [4])) .skip)) c178_9
def c178_16:zL:=jS (jR [m 9 1,o 10 (.call 185 [(.s 9)]),m 6 10] [0,1,5,6]) c178_15
def c178_17:zL:=jS (jR [m 7 0,o 8 (.call 185 [(.s 7)]),m 5 8] [0,1,5]) c178_16
def c178:zL:=jS (jR [jI 4 0] [0,1]) c178_17
def r178:List Qh:=[.tmp 4]
def n178:Nat:=20
def c179_0:zL:=jX [m 5 0,m 6 1,o 7 (.call 186 [(.s 5),(.s 6)]),m 4 7] [4]
def c179:zL:=jS (jR [jI 4 0] [0,1]) c179_0
def r179:List Qh:=[.tmp 4]
def n179:Nat:=8
def c180_1:zL:=jX [f 10 4 2,l 11 10,m 12 1,i 13 1 11 12,l 14 13,m 4 14] [4]
def c180_3:zL:=jS (jS (jR [m 5 1,f 6 4 2,l 7 6,e 8 7,b 9 .lss 5 8] [1,2,9]) (jC 9 c180_1 .skip)) (jX [o 4 (.cst (.t (.str [])))] [4])
def c180:zL:=jS (jR [o 2 (.box 5 (.s 0)),o 4 (.cst (.t (.str [])))] [1,2]) c180_3
def r180:List Qh:=[.tmp 4]
def n180:Nat:=15
def c181_3:zL:=jS (jS (jR [m 8 0,m 9 1,b 10 .gtr 8 9] [10]) (jC 10 (jX [jI 4 1] [4]) .skip)) (jX [jI 4 0] [4])
def c181_6:zL:=jS (jS (jR [m 5 0,m 6 1,b 7 .lss 5 6] [0,1,7]) (jC 7 (jX [jI 4 (-1)] [4]) .skip)) c181_3
def c181:zL:=jS (jR [jI 4 0] [0,1]) c181_6
def r181:List Qh:=[.tmp 4]
def n181:Nat:=11
def c182_3:zL:=jS (jS (jR [m 8 0,m 9 1,b 10 .gtr 8 9] [10]) (jC 10 (jX [jI 4 1] [4]) .skip)) (jX [jI 4 0] [4])
def c182_6:zL:=jS (jS (jR [m 5 0,m 6 1,b 7 .lss 5 6] [0,1,7]) (jC 7 (jX [jI 4 (-1)] [4]) .skip)) c182_3
def c182:zL:=jS (jR [jI 4 0] [0,1]) c182_6
def r182:List Qh:=[.tmp 4]
def n182:Nat:=11
def c183_1:zL:=jX [f 10 4 2,l 11 10,m 12 1,i 13 1 11 12,l 14 13,m 4 14] [4]
def c183_3:zL:=jS (jS (jR [m 5 1,f 6 4 2,l 7 6,e 8 7,b 9 .lss 5 8] [1,2,9]) (jC 9 c183_1 .skip)) (jX [o 4 (.cst (.t (.str [])))] [4])
def c183:zL:=jS (jR [o 2 (.box 5 (.s 0)),o 4 (.cst (.t (.str [])))] [1,2]) c183_3
def r183:List Qh:=[.tmp 4]
def n183:Nat:=15
def c184_1:zL:=jS (jR [f 9 1 2,l 10 9,jB 11 .eql 10 0,m 12 11,gf 13 12 2 2,gl 14 12 13,go 15 12 (.bin .eql (.s 14) (.c (.t (.str [])))),p 16 12 15,m 17 16,gf 18 17 3 2,gl 19 17 18,ge 20 17 19,gB 21 17 .eql 20 0,p 22 17 21,m 23 22,gf 24 23 4 2,gl 25 23 24,ge 26 23 25,gB 27 23 .eql 26 0,p 28 23 27,m 4 28] [4]) .ret
def c184_2:zL:=jS (jR [f 31 1 2,l 32 31,jB 33 .eql 32 0,m 34 33,hf 35 34 1 2,hl 36 34 35,hB 37 34 .eql 36 1,q 38 34 37,m 39 38,gf 40 39 2 2,gl 41 39 40,go 42 39 (.bin .eql (.s 41) (.c (.t (.str [])))),p 43 39 42,m 44 43,gf 45 44 3 2,gl 46 44 45,ge 47 44 46,gB 48 44 .eql 47 0,p 49 44 48,m 50 49,gf 51 50 4 2,gl 52 50 51,ge 53 50 52,gB 54 50 .eql 53 0,p 55 50 54,m 4 55] [4]) .ret
def c184_3:zL:=jS (jR [f 58 2 2,l 59 58,o 60 (.bin .eql (.s 59) (.c (.t (.str [])))),m 61 60,gf 62 61 3 2,gl 63 61 62,ge 64 61 63,gB 65 61 .eql 64 0,p 66 61 65,m 67 66,gf 68 67 4 2,gl 69 67 68,ge 70 67 69,gB 71 67 .eql 70 0,p 72 67 71,m 4 72] [4]) .ret
def c184_4:zL:=jX [f 75 1 2,l 76 75,jB 77 .eql 76 0,m 78 77,gf 79 78 3 2,gl 80 78 79,ge 81 78 80,gB 82 78 .eql 81 0,p 83 78 82,m 84 83,gf 85 84 4 2,gl 86 84 85,ge 87 84 86,gB 88 84 .eql 87 0,p 89 84 88,m 4 89] [4]
def c184_5:zL:=jS (jR [f 92 1 2,l 93 92,jB 94 .eql 93 0,m 95 94,gf 96 95 3 2,gl 97 95 96,ge 98 95 97,gB 99 95 .eql 98 0,p 100 95 99,m 101 100,gf 102 101 4 2,gl 103 101 102,ge 104 101 103,gB 105 101 .eql 104 0,p 106 101 105,m 107 106,gf 108 107 2 2,gl 109 107 108,go 110 107 (.call 106 [(.s 109)]),p 111 107 110,m 112 111,gf 113 112 2 2,gl 114 112 113,go 115 112 (.bin .neq (.s 114) (.c (.t (.str [116,114,117,101])))),p 116 112 115,m 117 116,gf 118 117 2 2,gl 119 117 118,go 120 117 (.bin .neq (.s 119) (.c (.t (.str [102,97,108,115,101])))),p 121 117 120,m 122 121,gf 123 122 2 2,gl 124 122 123,go 125 122 (.bin .neq (.s 124) (.c (.t (.str [110,117,108,108])))),p 126 122 125,m 4 126] [4]) .ret
def c184_6:zL:=jS (jR [f 129 1 2,l 130 129,jB 131 .eql 130 0,m 132 131,gf 133 132 2 2,gl 134 132 133,go 135 132 (.bin .eql (.s 134) (.c (.t (.str [])))),p 136 132 135,m 137 136,gf 138 137 4 2,gl 139 137 138,ge 140 137 139,gB 141 137 .eql 140 0,p 142 137 141,m 4 142] [4]) .ret
def c184_7:zL:=jS (jR [f 145 1 2,l 146 145,jB 147 .eql 146 0,m 148 147,gf 149 148 2 2,gl 150 148 149,go 151 148 (.bin .eql (.s 150) (.c (.t (.str [])))),p 152 148 151,m 153 152,gf 154 153 4 2,gl 155 153 154,ge 156 153 155,gf 157 153 3 2,gl 158 153 157,ge 159 153 158,gb 160 153 .eql 156 159,p 161 153 160,m 162 161,gf 163 162 4 2,gl 164 162 163,go 165 162 (.call 187 [(.s 164)]),go 166 162 (.un .not (.s 165)),p 167 162 166,m 4 167] [4]) .ret
def c184_8:zL:=jX [m 170 1,m 171 170,gf 172 171 1 2,gl 173 171 172,gB 174 171 .eql 173 0,p 175 171 174,m 176 175,gf 177 176 3 2,gl 178 176 177,ge 179 176 178,gB 180 176 .eql 179 0,p 181 176 180,m 182 181,gf 183 182 4 2,gl 184 182 183,ge 185 182 184,gB 186 182 .eql 185 0,p 187 182 186,m 188 187,gf 189 188 2 2,gl 190 188 189,go 191 188 (.call 106 [(.s 190)]),p 192 188 191,m 4 192] [4]
def c184_10:zL:=jS (jR [jB 169 .eql 6 7,m 168 169] [1,2,168]) (jC 168 c184_8 .skip)
def c184_12:zL:=jS (jR [jB 144 .eql 6 6,m 143 144] [1,2,6,143]) (jC 143 c184_7 c184_10)
def c184_14:zL:=jS (jR [jB 128 .eql 6 5,m 127 128] [1,2,6,127]) (jC 127 c184_6 c184_12)
def c184_16:zL:=jS (jR [jB 91 .eql 6 4,m 90 91] [1,2,6,90]) (jC 90 c184_5 c184_14)
def c184_18:zL:=jS (jR [jB 74 .eql 6 3,m 73 74] [1,2,6,73]) (jC 73 c184_4 c184_16)
def c184_20:zL:=jS (jR [jB 57 .eql 6 2,m 56 57] [1,2,6,56]) (jC 56 c184_3 c184_18)
def c184_22:zL:=jS (jR [jB 30 .eql 6 1,m 29 30] [1,2,6,29]) (jC 29 c184_2 c184_20)
def c184_24:zL:=jS (jR [jB 8 .eql 6 0,m 7 8] [1,2,6,7]) (jC 7 c184_1 c184_22)
def c184_26:zL:=jS (jS (jR [f 5 0 2,l 6 5] [1,2,6]) (.block 0 c184_24)) (jX [o 4 (.cst (.t (.bool false)))] [4])
def c184:zL:=jS (jR [o 2 (.box 5 (.s 0)),o 4 (.cst (.t (.bool false)))] [1,2]) c184_26
def r184:List Qh:=[.tmp 4]
def n184:Nat:=193
def c185:zL:=jS (jR [o 2 (.cst (.t (.bool false)))] [0]) (jX [m 3 0,m 4 0,b 5 .neq 3 4,m 2 5] [2])
def r185:List Qh:=[.tmp 2]
def n185:Nat:=6
def c186_0:zL:=jX [m 5 0,m 6 1,o 7 (.nw (.xcm (.s 5) (.s 6))),m 4 7] [4]
def c186:zL:=jS (jR [jI 4 0] [0,1]) c186_0
def r186:List Qh:=[.tmp 4]
def n186:Nat:=8
def c187_5:zL:=jS (jD [m 16 0,m 17 3,i 18 1 16 17,l 19 18,m 20 0,m 21 4,i 22 1 20 21,l 23 22,b 24 .eql 19 23] [[],[],[0,1],[2],[],[],[4,5],[6],[3,7]] [0,3,4,24]) (jC 24 (jX [o 2 (.cst (.t (.bool true)))] [2]) .skip)
def c187_8:zL:=jS (jS (jR [m 11 4,m 12 3,b 13 .lss 11 12] [0,3,4,13]) (jC 13 .skip (.exit 2))) (jS (.block 3 c187_5) (jR [m 14 4,jB 15 .add 14 1,m 4 15] [0,3,4]))
def c187_14:zL:=jS (jS (jR [m 5 3,m 6 0,e 7 6,b 8 .lss 5 7] [0,3,8]) (jC 8 .skip (.exit 0))) (jS (.block 1 (jS (jR [jI 4 0] [0,3,4]) (.block 2 (.loop c187_8)))) (jR [m 9 3,jB 10 .add 9 1,m 3 10] [0,3]))
def c187:zL:=jS (jR [o 2 (.cst (.t (.bool false)))] [0]) (jS (jS (jR [jI 3 0] [0,3]) (.block 0 (.loop c187_14))) (jX [o 2 (.cst (.t (.bool false)))] [2]))
def r187:List Qh:=[.tmp 2]
def n187:Nat:=25
end Go.GB
namespace Go.GB
section
variable {P:Program}
def L.zF (Λ:L) (m m':Nat) (Λ':L):L where
 lab:=fun b=>if Λ.high m b then Λ.lab b else Λ'.lab b
 fro:=fun k=>if k<m' then Λ'.fro k else Λ.fro k
 nxt:=Λ.nxt
 w:=Λ'.w
 frf:=fun k i=>if k<m' then Λ'.frf k i else Λ.frf k i
theorem z6.same {f:FuncId} {vs:List V} {m:Nat} {sto:List (Nat×zd)} {out:Out} (h:z6 P f vs ⟨sto,m⟩ out) (hrd:out.rd=true) (hb:V.bds m vs=true) (hs:Z1 m sto=true) (hob:∀k o,(k,o)∈out.ob->zj sto k≠none∨(m<=k/\k<m+out.n)):wc P f vs m sto out:=by
 refine ⟨h.1,hob,fun Λ args hr hle hfree hsz hargs=>?_⟩;refine (h.2 (Λ.zy m) args (hr.hf hs) Z hsz fun j v y h1 h2=>(hargs j v y h1 h2).hf (V.Zj hb j y h2)).mono fun e w' he=>?_;obtain ⟨v,Λ',rfl,rfl,k1,k2,k3,k4⟩:=he;simp only at k2 k3
 have hlt:∀{b:Nat},Λ.high m b=true->b<Λ.w.heap.size:=by
  intro b hh
  rcases w1a b Λ.w.heap.size with h|h
  ·exact h
  ·unfold L.high at hh;rw [hr.new b h] at hh;simp at hh
 have hH:∀{b:Nat},Λ.high m b=true->(Λ.zF m (m+out.n) Λ').lab b=Λ.lab b:=fun h=>by simp [L.zF,h]
 have hL:∀{b:Nat},Λ.high m b=false->(Λ.zF m (m+out.n) Λ').lab b=Λ'.lab b:=fun h=>by simp [L.zF,h]
 have hheap:∀{b:Nat},Λ.high m b=true->∃fr,Λ'.lab b= .fix (some fr)/\Λ'.w.heap[b]?=Λ.w.heap[b]?/\((∃k,Λ.lab b= .obj k/\m<=k/\fr=0)∨(∃k,Λ.lab b= .arr k fr/\m<=k)∨(∃k i,Λ.lab b= .fob k i/\m<=k/\fr=0)∨∃k i,Λ.lab b= .far k i fr/\m<=k):=by
  intro b hh;obtain ⟨fr,e1,e2⟩:=zal hh;obtain ⟨g1,g2⟩:=k1.fr.fix b (hlt hh) _ e1;exact ⟨fr,g1,g2,e2⟩
 have hlow:∀{b k:Nat},k<m->(Λ.lab b= .obj k∨∃n,Λ.lab b= .arr k n)->Λ.high m b=false:=by
  intro b k hk hb;unfold L.high
  rcases hb with hb|⟨n,hb⟩<;>rw [hb]<;>simp<;>omega
 have hkp:Kp Λ (Λ.zF m (m+out.n) Λ'):=by
  refine ⟨⟨k1.fr.os,k1.fr.tape,k1.fr.output,k1.fr.size,fun b hb fr hl=>?_,fun b hb k fr hl o ho=>?_,fun b hb k i fr hl o ho=>?_⟩,w09 _,fun b k _ hl=>?_,fun b k n _ hb hl hf=>?_,fun k hk=>?_,fun b k i _ hl=>?_,fun b k i n _ hb hl hf=>?_,fun k i hk=>?_,fun b k i hk hp hf hl=>?_⟩
  ·have hh:Λ.high m b=false:=by unfold L.high;rw [hl]
   obtain ⟨g1,g2⟩:=k1.fr.fix b hb fr (by rw [z6i hh];exact hl)
   exact ⟨by rw [hL hh];exact g1,g2⟩
  ·cases hh:Λ.high m b with
   |true=>
    obtain ⟨fr',g1,g2,g3⟩:=hheap hh
    exact ⟨by unfold Rd;rw [hH hh,hl];exact ho,cell?_heap g2⟩
   |false=>
    obtain ⟨g1,g2⟩:=k1.fr.arr b hb k fr (by rw [z6i hh];exact hl) o ho
    exact ⟨by unfold Rd;rw [hL hh];exact g1,g2⟩
  ·cases hh:Λ.high m b with
   |true=>
    obtain ⟨fr',g1,g2,g3⟩:=hheap hh
    exact ⟨by unfold Rd;rw [hH hh,hl];exact ho,cell?_heap g2⟩
   |false=>
    obtain ⟨g1,g2⟩:=k1.fr.far b hb k i fr (by rw [z6i hh];exact hl) o ho
    exact ⟨by unfold Rd;rw [hL hh];exact g1,g2⟩
  ·cases hh:Λ.high m b with
   |true=>rw [hH hh];exact hl
   |false=>
    have hk:k<m:=by unfold L.high at hh;rw [hl] at hh;simpa using hh
    rw [hL hh];exact k1.obj b k hk (qc hl hk)
  ·cases hh:Λ.high m b with
   |true=>
    obtain ⟨fr',g1,g2,g3⟩:=hheap hh
    exact ⟨by rw [hH hh];exact hl,g2⟩
   |false=>
    have hk:k<m:=by unfold L.high at hh;rw [hl] at hh;simpa using hh
    have e1:(Λ.zy m).fro k=Λ.fro k:=by simp [L.zy,hk]
    have e2:(Λ.zF m (m+out.n) Λ').fro k=Λ'.fro k:=by simp [L.zF];omega
    obtain ⟨g1,g2⟩:=k1.own b k n hk hb (zds hl hk) (by rw [←e2,hf,e1])
    exact ⟨by rw [hL hh];exact g1,g2⟩
  ·simp only [L.zF];by_cases h1:k<m
   ·have:=k1.fro k h1
    have e1:(Λ.zy m).fro k=Λ.fro k:=by simp [L.zy,h1]
    rw [w0e (by omega)];omega
   ·by_cases h2:k<m+out.n
    ·rw [w0e h2,(hfree k (by omega) h2).2.1.fro];omega
    ·rw [w0g h2];exact w09 _
  ·cases hh:Λ.high m b with
   |true=>
    obtain ⟨fr',g1,g2,g3⟩:=hheap hh
    exact ⟨by rw [hH hh];exact hl,fun N hN=>by unfold Zl at hN⊢;show (match Λ'.w.heap[b]? with|some (.cells arr _ _)=>some arr.size|_=>none)=_;rw [g2];exact hN⟩
   |false=>
    have hk:k<m:=by unfold L.high at hh;rw [hl] at hh;simpa using hh
    obtain ⟨g1,g2⟩:=k1.fob b k i hk (z29 hl hk)
    exact ⟨by rw [hL hh];exact g1,g2⟩
  ·cases hh:Λ.high m b with
   |true=>
    obtain ⟨fr',g1,g2,g3⟩:=hheap hh
    exact ⟨by rw [hH hh];exact hl,g2⟩
   |false=>
    have hk:k<m:=by unfold L.high at hh;rw [hl] at hh;simpa using hh
    have e1:(Λ.zy m).frf k i=Λ.frf k i:=by simp [L.zy,hk]
    have e2:(Λ.zF m (m+out.n) Λ').frf k i=Λ'.frf k i:=by simp [L.zF];omega
    obtain ⟨g1,g2⟩:=k1.far b k i n hk hb (zct hl hk) (by rw [←e2,hf,e1])
    exact ⟨by rw [hL hh];exact g1,g2⟩
  ·simp only [L.zF];by_cases h1:k<m
   ·have:=k1.frf k i h1
    have e1:(Λ.zy m).frf k i=Λ.frf k i:=by simp [L.zy,h1]
    rw [w0e (by omega)];omega
   ·by_cases h2:k<m+out.n
    ·rw [w0e h2,(hfree k (by omega) h2).2.1.frf];omega
    ·rw [w0g h2];exact w09 _
  ·cases hh:Λ.high m b with
   |true=>rw [hH hh] at hl;exact hl
   |false=>
    rw [hL hh] at hl;have hkb:=k3.Yu b k (.inl ⟨i,hl⟩)
    rcases w1a k m with hkm|hkm
    ·have e1:(Λ.zy m).frf k 0=Λ.frf k 0:=by simp [L.zy,hkm]
     have e2:(Λ.zF m (m+out.n) Λ').frf k 0=Λ'.frf k 0:=by simp [L.zF];omega
     exact (yE (k1.z4C b k i hkm (by rw [e1];exact hp) (by rw [←e2,hf,e1]) hl)).1
    ·have:=(hfree k hkm (by omega)).2.1.frf 0;omega
 have hobj:∀{b k:Nat},Λ'.lab b= .obj k->(Λ.zF m (m+out.n) Λ').lab b= .obj k:=by
  intro b k hb
  cases hh:Λ.high m b with
  |true=>obtain ⟨fr,g1,_⟩:=hheap hh;rw [g1] at hb;simp at hb
  |false=>rw [hL hh];exact hb
 have harr:∀{b k n:Nat},Λ'.lab b= .arr k n->(Λ.zF m (m+out.n) Λ').lab b= .arr k n:=by
  intro b k n hb
  cases hh:Λ.high m b with
  |true=>obtain ⟨fr,g1,_⟩:=hheap hh;rw [g1] at hb;simp at hb
  |false=>rw [hL hh];exact hb
 have hfob:∀{b k i:Nat},Λ'.lab b= .fob k i->(Λ.zF m (m+out.n) Λ').lab b= .fob k i:=by
  intro b k i hb
  cases hh:Λ.high m b with
  |true=>obtain ⟨fr,g1,_⟩:=hheap hh;rw [g1] at hb;simp at hb
  |false=>rw [hL hh];exact hb
 have hfar:∀{b k i n:Nat},Λ'.lab b= .far k i n->(Λ.zF m (m+out.n) Λ').lab b= .far k i n:=by
  intro b k i n hb
  cases hh:Λ.high m b with
  |true=>obtain ⟨fr,g1,_⟩:=hheap hh;rw [g1] at hb;simp at hb
  |false=>rw [hL hh];exact hb
 have hrep:∀{u:Value} {y:T},zI Λ'.lab Λ'.w u y->zI (Λ.zF m (m+out.n) Λ').lab (Λ.zF m (m+out.n) Λ').w u y:=by
  intro u y hy;refine hy.ZX fun b o _ _ hrd=>⟨?_,rfl⟩
  cases hh:Λ.high m b with
  |true=>
   obtain ⟨fr,g1,_,g3⟩:=hheap hh;unfold Rd at hrd⊢;rw [g1] at hrd;rw [hH hh]
   rcases g3 with ⟨k,e,_,rfl⟩|⟨k,e,_⟩|⟨k,i,e,_,rfl⟩|⟨k,i,e,_⟩
   ·omega
   ·rw [e];exact hrd
   ·omega
   ·rw [e];exact hrd
  |false=>unfold Rd;rw [hL hh];exact hrd
 have hfobI:∀{b k i:Nat},k<m+out.n->(Λ.zF m (m+out.n) Λ').lab b= .fob k i->Λ'.lab b= .fob k i:=by
  intro b k i hk hb
  cases hh:Λ.high m b with
  |true=>
   rw [hH hh] at hb
   have hge:m<=k:=by unfold L.high at hh;rw [hb] at hh;simpa using hh
   exact absurd hb ((hfree k hge hk).2.1.fob b i)
  |false=>rw [hL hh] at hb;exact hb
 have hcur:∀{b k:Nat},k<m+out.n->qu Λ'.lab k b->qu (Λ.zF m (m+out.n) Λ').lab k b:=by
  rintro b k hk ⟨i,e1,e2⟩;exact ⟨i,hfob e1,fun b' i' h'=>e2 b' i' (hfobI hk h')⟩
 have hfrf:∀{k i:Nat},k<Λ'.nxt->(Λ.zF m (m+out.n) Λ').frf k i=Λ'.frf k i:=by
  intro k i hk;rw [k2] at hk;simp [L.zF,hk]
 have hfro:∀{k:Nat},k<Λ'.nxt->(Λ.zF m (m+out.n) Λ').fro k=Λ'.fro k:=by
  intro k hk;rw [k2] at hk;simp [L.zF,hk]
 have hval:∀{u:Value} {y:V},zr Λ' u y->zr (Λ.zF m (m+out.n) Λ') u y:=by
  intro u y hy
  induction hy with
  |t h=>exact .t (hrep h)
  |zC=>exact .zC
  |@own v k sz xs h hsz hl hn ho=>
   refine .own (hrep h) hsz (by show k<Λ.nxt;omega) (by rw [hfro hl];exact hn) fun he=>?_
   rcases ho (by rw [←hfro hl];exact he) with ho|⟨b,cap,arr,e,hv,hb',hh,hc,hn'⟩
   ·exact .inl ho
   ·exact .inr ⟨b,cap,arr,e,hv,harr hb',hh,hc,hn'⟩
  |slc hl hc h=>exact .slc (by show _<Λ.nxt;omega) hc (hobj h)
  |agg hs _ ih=>exact .agg hs ih
  |tup hs _ ih=>exact .tup hs ih
  |ptr hl h=>exact .ptr (by show _<Λ.nxt;omega) (hobj h)
  |mp hl h=>exact .mp (by show _<Λ.nxt;omega) (hobj h)
  |fn hs h=>exact .fn hs fun j v c h1 h2=>let ⟨b,e1,e2,e3⟩:=h j v c h1 h2;⟨b,e1,hobj e2,by show _<Λ.nxt;omega⟩
  |gd _ h' ih=>exact .gd ih h'
  |top=>exact .top
  |ub h h'=>exact .ub h h'
  |fpt hl h=>exact .fpt (by show _<Λ.nxt;omega) (hfob h)
  |gpt hv hl hn h=>
   refine .gpt hv (by show _<Λ.nxt;omega) (by rw [hfrf hl];exact hn) fun he=>?_;obtain ⟨b,e1,e2⟩:=h (by rw [←hfrf hl];exact he);exact ⟨b,e1,hcur (by omega) e2⟩
  |gsl hv hl hn h=>
   refine .gsl hv (by show _<Λ.nxt;omega) (by rw [hfrf hl];exact hn) fun he=>?_
   rcases h (by rw [←hfrf hl];exact he) with h|⟨b,cap,N,hv,hc,e2,hN,he'⟩
   ·exact .inl h
   ·exact .inr ⟨b,cap,N,hv,hc,hcur (by omega) e2,hN,he'⟩
  |fow h hsz hl hn ho=>
   refine .fow (hrep h) hsz (by show _<Λ.nxt;omega) (by rw [hfrf hl];exact hn) fun he=>?_
   rcases ho (by rw [←hfrf hl];exact he) with ho|⟨b,cap,arr,e,hv,hb',hh,hc,hn'⟩
   ·exact .inl ho
   ·exact .inr ⟨b,cap,arr,e,hv,hfar hb',hh,hc,hn'⟩
 have hname:∀{b k:Nat},Λ.high m b=true->((Λ.zF m (m+out.n) Λ').lab b= .obj k∨∃n,(Λ.zF m (m+out.n) Λ').lab b= .arr k n)->m+out.n<=k/\(Λ.lab b= .obj k∨∃n,Λ.lab b= .arr k n):=by
  intro b k hh hb;rw [hH hh] at hb;refine ⟨?_,hb⟩
  have hge:m<=k:=by unfold L.high at hh;rcases hb with hb|⟨n,hb⟩<;>rw [hb] at hh<;>simpa using hh
  rcases w1a k (m+out.n) with h|h
  ·have:=(hfree k hge h).2.1
   rcases hb with hb|⟨n,hb⟩
   ·exact absurd hb (this.obj b)
   ·exact absurd hb (this.arr b n)
  ·exact h
 have hlowname:∀{b k:Nat},Λ.high m b=false->((Λ.zF m (m+out.n) Λ').lab b= .obj k∨∃n,(Λ.zF m (m+out.n) Λ').lab b= .arr k n)->k<m+out.n/\(Λ'.lab b= .obj k∨∃n,Λ'.lab b= .arr k n):=by
  intro b k hh hb;rw [hL hh] at hb;have:=k3.bnd b k hb
  exact ⟨by omega,hb⟩
 refine ⟨v,Λ.zF m (m+out.n) Λ',rfl,rfl,hkp,rfl,?_,hval k4,fun k hk hn hcase=>?_⟩
 ·refine ⟨fun k o ho=>?_,fun b b' k h1 h2=>?_,fun b hb=>?_,fun b k hb=>?_,fun k hk=>?_,fun b b' k i h1 h2=>?_,fun b k hb=>?_,fun k i hk=>?_⟩
  ·obtain ⟨g1,g2⟩:=k3.sto k o ho
   refine ⟨by show k<Λ.nxt;omega,?_⟩
   cases o with
   |cells cs=>
    obtain ⟨b,arr,e,e1,e2,e3,e4⟩:=g2;exact ⟨b,arr,e,hobj e1,e2,e3,fun j v c a1 a2=>hval (e4 j v c a1 a2)⟩
   |map kag es sx=>
    obtain ⟨b,ents,clock,e1,e2,e3⟩:=g2;exact ⟨b,ents,clock,hobj e1,e2,e3.ZX (fun _ _ h=>hrep h) (fun _ _ _ _ h=>hval h)⟩
   |arr n=>unfold qd at*;rw [hfro g1];exact g2
   |iter q s seen c=>
    obtain ⟨b,bm,e1,e2,e3,e4⟩:=g2
    exact ⟨b,bm,hobj e1,e2,hobj e3,by show q<Λ.nxt;omega⟩
   |gro ver cs=>
    obtain ⟨q0,q⟩:=g2
    refine ⟨by rw [hfrf g1];exact q0,?_⟩
    rcases q with ⟨e1,e2⟩|⟨b,arr,e,e1,e2,e3,e4⟩
    ·exact .inl ⟨e1,fun b i hb=>e2 b i (hfobI (by omega) hb)⟩
    ·exact .inr ⟨b,arr,e,hcur (by omega) e1,e2,e3,fun j v c a1 a2=>hval (e4 j v c a1 a2)⟩
   |yL os=>
    obtain ⟨q0,q⟩:=g2;refine ⟨fun b i hb=>q0 b i (hfobI (by omega) hb),fun i cs hi=>?_⟩;obtain ⟨b,arr,e,e1,e2,e3,e4⟩:=q i cs hi;exact ⟨b,arr,e,hfob e1,e2,e3,fun j v c a1 a2=>hval (e4 j v c a1 a2)⟩
   |y8 ns=>exact fun i=>(hfrf g1).trans (g2 i)
   |WN kag I=>
    obtain ⟨b,ents,clock,e1,e2,e3,e4,e5⟩:=g2;refine ⟨b,ents,clock,hobj e1,e2,e3,e4,fun i e hi=>?_⟩;obtain ⟨cs,v,q1,q2,q3⟩:=e5 i e hi;exact ⟨cs,v,q1.ZX fun _ _ h=>hrep h,hrep q2,q3⟩
  ·cases hh:Λ.high m b with
   |true=>
    obtain ⟨q1,q2⟩:=hname hh (.inl h1)
    cases hh':Λ.high m b' with
    |true=>
     rw [hH hh] at h1;rw [hH hh'] at h2;exact hr.inj b b' k h1 h2
    |false=>have:=(hlowname hh' (.inl h2)).1;omega
   |false=>
    have q:=(hlowname hh (.inl h1)).1
    cases hh':Λ.high m b' with
    |true=>have:=(hname hh' (.inl h2)).1;omega
    |false=>rw [hL hh] at h1;rw [hL hh'] at h2;exact k3.inj b b' k h1 h2
  ·have hge:Λ.w.heap.size<=b:=w0o k1.fr.size hb
   have hh:Λ.high m b=false:=by unfold L.high;rw [hr.new b hge]
   rw [hL hh];exact k3.new b hb
  ·show k<Λ.nxt
   cases hh:Λ.high m b with
   |true=>exact hr.bnd b k (hname hh hb).2
   |false=>have:=(hlowname hh hb).1;omega
  ·have hk':Λ.nxt<=k:=hk;simp only [L.zF];rw [w0g (by omega)];exact hr.frz k hk'
  ·cases hh:Λ.high m b with
   |true=>
    cases hh':Λ.high m b' with
    |true=>rw [hH hh] at h1;rw [hH hh'] at h2;exact hr.YX b b' k i h1 h2
    |false=>
     rw [hL hh'] at h2;have hkb:=k3.Yu b' k (.inl ⟨i,h2⟩);have h1':=hfobI (by omega) h1;exact k3.YX b b' k i h1' h2
   |false=>
    rw [hL hh] at h1;have hkb:=k3.Yu b k (.inl ⟨i,h1⟩);exact k3.YX b b' k i h1 (hfobI (by omega) h2)
  ·show k<Λ.nxt
   cases hh:Λ.high m b with
   |true=>rw [hH hh] at hb;exact hr.Yu b k hb
   |false=>rw [hL hh] at hb;have:=k3.Yu b k hb;omega
  ·have hk':Λ.nxt<=k:=hk;simp only [L.zF];rw [w0g (by omega)];exact hr.z2g k i hk'
 ·rcases hcase with hge|⟨hlt',hrd'⟩
  ·refine ⟨fun b hb=>?_,fun b n hb=>?_,?_,fun b i hb=>?_,fun b i n hb=>?_,fun i=>?_⟩
   ·cases hh:Λ.high m b with
    |true=>rw [hH hh] at hb;exact hk.obj b hb
    |false=>have:=(hlowname hh (.inl hb)).1;omega
   ·cases hh:Λ.high m b with
    |true=>rw [hH hh] at hb;exact hk.arr b n hb
    |false=>have:=(hlowname hh (.inr ⟨n,hb⟩)).1;omega
   ·simp only [L.zF];rw [w0g (by omega)];exact hk.fro
   ·cases hh:Λ.high m b with
    |true=>rw [hH hh] at hb;exact hk.fob b i hb
    |false=>rw [hL hh] at hb;have:=k3.Yu b k (.inl ⟨i,hb⟩);omega
   ·cases hh:Λ.high m b with
    |true=>rw [hH hh] at hb;exact hk.far b i n hb
    |false=>rw [hL hh] at hb;have:=k3.Yu b k (.inr ⟨i,n,hb⟩);omega
   ·simp only [L.zF];rw [w0g (by omega)];exact hk.frf i
  ·rw [hrd] at hrd';cases hrd'
theorem zaB {f:FuncId} {vs:List V} {x:V} {base:Nat} {sto:List (Nat×zd)} {K:Out->Prop} (h:z6 P f vs ⟨sto,base⟩ {v:=x,rd:=true}) (hb:V.bds base vs=true) (hs:Z1 base sto=true) (hk:K {v:=x,rd:=true}):qe P f vs base sto K:=
 ⟨_,by simp only [w17];exact h.same rfl hb hs (by simp),hk⟩
end
def mE {κ ν:Type} (ek:κ->List T) (ev:ν->T) (l:List (κ×ν)):List (List T×V):=l.map fun e=>(ek e.1,.t (ev e.2))
def cE {ν:Type} (ev:ν->T) (l:List ν):List V:=l.map fun x=> .t (ev x)
theorem V.zcm {ν:Type} (m:Nat) (ev:ν->T):∀(l:List ν),V.bds m (cE ev l)=true
 |[]=>rfl
 |x::r=>by have:=V.zcm m ev r;simp only [cE] at this;simp [cE,V.bds,V.bd,this]
theorem LeO.mE {κ ν:Type} {m m':Nat} {kag:Bool} {ek:κ->List T} {ev:ν->T} {l l':List (κ×ν)} {sx sx':Option (Nat×List Nat)} (h:l=l') (hs:sx'=none∨sx'=sx):LeO m m' (.map kag (mE ek ev l) sx) (.map kag (mE ek ev l') sx'):=by
 subst h;have:=V.zcm m (fun e:κ×ν=>ev e.2) l;simp only [Go.GB.cE] at this;exact .map Z (by simp only [Go.GB.mE,List.map_map,Function.comp_def];exact .same this) hs
def gE {α:Type} (f:α->List V) (l:List α):List V:=(l.map f).flatten
theorem z2i {α:Type} (f:α->List V) (l k:List α):gE f (l++k)=gE f l++gE f k:=by simp [gE]
theorem wF {α:Type} {f:α->List V} {sz:Nat} (h:∀x,(f x).length=sz):∀(l:List α),(gE f l).length=l.length*sz
 |[]=>by simp [gE]
 |x::r=>by
  have:=wF h r;simp only [gE] at this;simp only [gE,w0n,w1r,w03,this,h,w0d];rw [w13];omega
theorem zfi {α:Type} {f:α->List V} {sz:Nat} (h:∀x,(f x).length=sz):∀(l:List α) (i j:Nat) (e:α),l[i]?=some e->j<sz->(gE f l)[i*sz+j]?=(f e)[j]?
 |[],i,j,e,hi,_=>by simp at hi
 |x::r,0,j,e,hi,hj=>by
  simp at hi;subst hi;simp only [gE,w0n,w1r,Nat.zero_mul,w0y];rw [w0a (by rw [h];exact hj)]
 |x::r,i+1,j,e,hi,hj=>by
  have:=zfi h r i j e (by simpa using hi) hj;simp only [gE,w0n,w1r] at this⊢;rw [w0b (by rw [h,w13];omega),h];rw [←this];congr 1;rw [w13];omega
theorem V.zad (m:Nat):∀(a b:List V),V.bds m (a++b)=(V.bds m a&&V.bds m b)
 |[],b=>by simp [V.bds]
 |x::r,b=>by simp [V.bds,V.zad m r b,Bool.and_assoc]
theorem V.z8D {α:Type} {m:Nat} {f:α->List V} (h:∀x,V.bds m (f x)=true):∀(l:List α),V.bds m (gE f l)=true
 |[]=>rfl
 |x::r=>by
  have:=V.z8D h r;simp only [gE] at this;simp only [gE,w0n,w1r,V.zad,h,this,Bool.and_self]
theorem zA.gE {α:Type} {m m':Nat} {f:α->List V} {l l':List α} (h:l=l') (hb:∀x,V.bds m (f x)=true):zA m m' (gE f l) (gE f l'):=h▸ .same (V.z8D hb l)
theorem LeO.z0f {m m' r r':Nat} {cs ds:List V} (e:r=r') (h:zA m m' cs ds):LeO m m' (.gro r cs) (.gro r' ds):=e▸ .gro h
theorem LeX.z1r {m m' k ver ver' off off' len len' sz:Nat} (e1:ver=ver') (e2:off=off') (e3:len=len') (h:k<m):LeX m m' (.gsl k ver off len sz) (.gsl k ver' off' len' sz):=by
 subst e1;subst e2;subst e3;exact .same (by simpa [V.bd] using h)
end Go.GB
