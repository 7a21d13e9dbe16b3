/-
  YtpakhiccblfcmaaGreatP3: lemmas of this proof (part 3). No conditions.
-/
import Derived.Test.YtpakhiccblfcmaaGreatP2
set_option linter.all false
set_option maxRecDepth 100000
set_option maxHeartbeats 16000000
/-
  GC29Code: the code of chapter 29's functions as abstract code (printed by program).
-/
namespace Go.GB.K
abbrev m (d x : Nat) : AO := ⟨some d, none, .mv (.s x)⟩
abbrev f (d k x : Nat) : AO := ⟨some d, none, .fa k (.s x)⟩
abbrev l (d x : Nat) : AO := ⟨some d, none, .ld false 1 (.s x)⟩
abbrev jL (d n x : Nat) : AO := ⟨some d, none, .ld true n (.s x)⟩
abbrev n (d x : Nat) : AO := ⟨some d, none, .z3G (.s x)⟩
abbrev i (d z x y : Nat) : AO := ⟨some d, none, .ia z (.s x) (.s y)⟩
abbrev e (d x : Nat) : AO := ⟨some d, none, .len (.s x)⟩
abbrev x (d s k : Nat) : AO := ⟨some d, none, .ext (.s s) k⟩
abbrev o (d : Nat) (p : AOp) : AO := ⟨some d, none, p⟩
abbrev jO (p : AOp) : AO := ⟨none, none, p⟩
abbrev b (d : Nat) (p : BinOp) (x y : Nat) : AO := ⟨some d, none, .bin p (.s x) (.s y)⟩
abbrev jB (d : Nat) (p : BinOp) (x : Nat) (y : Int) : AO := ⟨some d, none, .bin p (.s x) (.c (.t (.int .i64 y)))⟩
abbrev p (d c a : Nat) : AO := ⟨some d, none, .pick (.s c) (.s a) (.c (.t (.bool false)))⟩
abbrev q (d c a : Nat) : AO := ⟨some d, none, .pick (.s c) (.c (.t (.bool true))) (.s a)⟩
abbrev u (d x : Nat) : AO := ⟨some d, none, .un .not (.s x)⟩
abbrev jI (d : Nat) (k : Int) : AO := ⟨some d, none, .cst (.t (.int .i64 k))⟩
abbrev gm (d g : Nat) (w : Bool) (x : Nat) : AO := ⟨some d, some (g, w), .mv (.s x)⟩
abbrev gf (d g : Nat) (w : Bool) (k x : Nat) : AO := ⟨some d, some (g, w), .fa k (.s x)⟩
abbrev gl (d g : Nat) (w : Bool) (x : Nat) : AO := ⟨some d, some (g, w), .ld false 1 (.s x)⟩
abbrev gL (d g : Nat) (w : Bool) (n x : Nat) : AO := ⟨some d, some (g, w), .ld true n (.s x)⟩
abbrev gi (d g : Nat) (w : Bool) (z x y : Nat) : AO := ⟨some d, some (g, w), .ia z (.s x) (.s y)⟩
abbrev ge (d g : Nat) (w : Bool) (x : Nat) : AO := ⟨some d, some (g, w), .len (.s x)⟩
abbrev go (d g : Nat) (w : Bool) (p : AOp) : AO := ⟨some d, some (g, w), p⟩
abbrev gb (d g : Nat) (w : Bool) (p : BinOp) (x y : Nat) : AO := ⟨some d, some (g, w), .bin p (.s x) (.s y)⟩
abbrev gB (d g : Nat) (w : Bool) (p : BinOp) (x : Nat) (y : Int) : AO := ⟨some d, some (g, w), .bin p (.s x) (.c (.t (.int .i64 y)))⟩
abbrev jR (p : List AO) (l : List Nat) : zW := .region false p [] l
abbrev jD (p : List AO) (a : List (List Nat)) (l : List Nat) : zW := .region true p a l
abbrev jS (a b : zW) : zW := .seq a b
abbrev jX (p : List AO) (l : List Nat) : zW := .seq (.region false p [] l) .ret
abbrev jC (t : Nat) (a b : zW) : zW := .cond (.s t) a b
abbrev jN (k : Int) : V := .t (.int .i64 k)
abbrev jT : Bool := true
abbrev jF : Bool := false
end Go.GB.K
namespace Go.GB
open K
def c3_4:zW:=jS (jD [m 30 5,m 31 7,i 32 6 30 31,f 33 0 32,l 34 33,m 35 6,m 36 7,i 37 6 35 36,f 38 0 37,l 39 38,b 40 .neq 34 39,m 41 40,gm 42 41 jF 5,gm 43 41 jF 7,gi 44 41 jF 6 42 43,gf 45 41 jF 1 44,gL 46 41 jF 2 45,gm 47 41 jF 6,gm 48 41 jF 7,gi 49 41 jF 6 47 48,gf 50 41 jF 1 49,gL 51 41 jF 2 50,go 52 41 jF (.nw (.z9a true [.str,.str] (.s 46) (.s 51))),q 53 41 52,m 54 53,gm 55 54 jF 5,gm 56 54 jF 7,gi 57 54 jF 6 55 56,gf 58 54 jF 3 57,gl 59 54 jF 58,gm 60 54 jF 6,gm 61 54 jF 7,gi 62 54 jF 6 60 61,gf 63 54 jF 3 62,gl 64 54 jF 63,gb 65 54 jF .neq 59 64,q 66 54 65,m 67 66,gm 68 67 jF 5,gm 69 67 jF 7,gi 70 67 jF 6 68 69,gf 71 67 jF 4 70,gl 72 67 jF 71,gm 73 67 jF 6,gm 74 67 jF 7,gi 75 67 jF 6 73 74,gf 76 67 jF 4 75,gl 77 67 jF 76,go 78 67 jF (.call 12 [(.s 72),(.s 77)]),go 79 67 jF (.un .not (.s 78)),q 80 67 79,m 81 80,gm 82 81 jF 5,gm 83 81 jF 7,gi 84 81 jF 6 82 83,gf 85 81 jF 5 84,gl 86 81 jF 85,gm 87 81 jF 6,gm 88 81 jF 7,gi 89 81 jF 6 87 88,gf 90 81 jF 5 89,gl 91 81 jF 90,go 92 81 jF (.call 13 [(.s 86),(.s 91)]),go 93 81 jF (.un .not (.s 92)),q 94 81 93] [[],[],[0,1],[2],[3],[],[],[5,6],[7],[8],[4,9],[10],[11],[11],[12,13,11],[14,11],[15,11],[11],[11],[17,18,11],[19,11],[20,11],[16,21,11],[11,22],[23,11],[24],[24],[25,26,24],[27,24],[28,24],[24],[24],[30,31,24],[32,24],[33,24],[29,34,24],[24,35],[36,24],[37],[37],[38,39,37],[40,37],[41,37],[37],[37],[43,44,37],[45,37],[46,37],[42,47,37,37],[48,37],[37,49],[50,48],[51],[51],[52,53,51],[54,51],[55,51],[51],[51],[57,58,51],[59,51],[60,51],[56,61,51,51],[62,51],[51,63]] [5,6,7,94]) (jC 94 (jX [o 4 (.cst (.t (.bool false)))] [4]) .skip)
def c3_7:zW:=jS (jS (jR [m 24 7,m 25 5,e 26 25,b 27 .lss 24 26] [5,6,7,27]) (jC 27 .skip (.exit 0))) (jS (.block 1 c3_4) (jR [m 28 7,jB 29 .add 28 1,m 7 29] [5,6,7]))
def c3_13:zW:=jS (jS (jR [m 19 5,e 20 19,m 21 6,e 22 21,b 23 .neq 20 22] [5,6,23]) (jC 23 (jX [o 4 (.cst (.t (.bool false)))] [4]) .skip)) (jS (jS (jR [jI 7 0] [5,6,7]) (.block 0 (.loop c3_7))) (jX [o 95 (.call 8 []),m 4 95] [4]))
def c3_14:zW:=jS (jD [jL 12 4 2,jL 13 2 3,o 14 (.call 10 [(.s 12),(.s 13)]),o 15 (.call 9 [(.s 14)]),jL 16 4 2,jL 17 2 3,o 18 (.call 11 [(.s 16),(.s 17)]),m 5 15,m 6 18] [[],[],[0,1],[2,2],[],[],[4,5,3],[3,6,0,1,2,3],[6,7,0,1,2,3,4,5,6,7]] [5,6]) c3_13
def c3_17:zW:=jS (jS (jR [jL 8 4 2,jL 9 2 3,o 10 (.call 7 [(.s 8),(.s 9)])] [2,3,10]) (jC 10 (jX [o 11 (.call 8 []),m 4 11] [4]) .skip)) c3_14
def c3:zW:=jS (jR [o 2 (.box 4 (.s 0)),o 3 (.box 2 (.s 1)),o 4 (.cst (.t (.bool false)))] [2,3]) c3_17
def r3:List q8:=[.tmp 4]
def n3:Nat:=96
def c4_0:zW:=jX [m 25 5,m 26 7,b 27 .eql 25 26,m 28 27,gm 29 28 jT 6,gm 30 28 jT 8,gb 31 28 jT .eql 29 30,p 32 28 31,m 33 32,go 34 33 jT (.call 8 []),p 35 33 34,m 4 35] [4]
def c4_1:zW:=jS (jR [jL 20 4 2,jL 21 2 3,o 22 (.call 15 [(.s 20),(.s 21)]),m 19 22,x 23 19 0,x 24 19 1,m 7 23,m 8 24] [5,6,7,8]) c4_0
def c4_2:zW:=jS (jR [jL 14 4 2,jL 15 2 3,o 16 (.call 14 [(.s 14),(.s 15)]),m 13 16,x 17 13 0,x 18 13 1,m 5 17,m 6 18] [2,3,5,6]) c4_1
def c4_5:zW:=jS (jS (jR [jL 9 4 2,jL 10 2 3,o 11 (.call 7 [(.s 9),(.s 10)])] [2,3,11]) (jC 11 (jX [o 12 (.call 8 []),m 4 12] [4]) .skip)) c4_2
def c4:zW:=jS (jR [o 2 (.box 4 (.s 0)),o 3 (.box 2 (.s 1)),o 4 (.cst (.t (.bool false)))] [2,3]) c4_5
def r4:List q8:=[.tmp 4]
def n4:Nat:=36
def c5_0:zW:=jX [m 116 6,f 117 1 3,l 118 117,o 119 (.call 17 [(.s 118)]),b 120 .eql 116 119,m 121 120,go 122 121 jT (.call 8 []),p 123 121 122,m 4 123] [4]
def c5_1:zW:=jR [m 35 7,jB 36 .add 35 1,m 7 36] [2,3,5,6,7]
def c5_4:zW:=jS (jD [m 70 7,jB 71 .gtr 70 0,m 72 71,gm 73 72 jT 5,gm 74 72 jT 7,gi 75 72 jT 6 73 74,gf 76 72 jT 0 75,gl 77 72 jT 76,gB 78 72 jT .lss 77 0,gm 79 72 jT 78,gm 80 79 jF 5,gm 81 79 jF 7,gi 82 79 jF 6 80 81,gf 83 79 jF 0 82,gl 84 79 jF 83,gm 85 79 jF 7,gb 86 79 jF .geq 84 85,go 87 72 jT (.pick (.s 79) (.c (.t (.bool true))) (.s 86)),gm 88 72 jT 87,gm 89 88 jF 5,gm 90 88 jF 7,gi 91 88 jF 6 89 90,gf 92 88 jF 5 91,gl 93 88 jF 92,ge 94 88 jF 93,gB 95 88 jF .eql 94 0,go 96 72 jT (.pick (.s 88) (.c (.t (.bool true))) (.s 95)),gm 97 72 jT 96,gf 98 97 jF 1 2,gL 99 97 jF 1 98,gm 100 97 jF 5,gm 101 97 jF 5,gm 102 97 jF 7,gi 103 97 jF 6 101 102,gf 104 97 jF 0 103,gl 105 97 jF 104,gi 106 97 jF 6 100 105,gL 107 97 jF 6 106,gm 108 97 jF 5,gm 109 97 jF 7,gi 110 97 jF 6 108 109,gL 111 97 jF 6 110,go 112 97 jF (.call 16 [(.s 99),(.s 107),(.s 111)]),go 113 97 jF (.un .not (.s 112)),go 114 72 jT (.pick (.s 97) (.c (.t (.bool true))) (.s 113)),p 115 72 114] [[],[0],[1],[2],[2],[3,4,2],[5,2],[6,2],[7,2],[8,2,2],[9],[9],[10,11,9],[12,9],[13,9],[9],[14,15,9],[9,16,2],[17,9,2],[18],[18],[19,20,18],[21,18],[22,18],[23,18],[24,18],[18,25,2],[26,18,2],[27],[28,27],[27],[27],[27],[31,32,27],[33,27],[34,27],[30,35,27],[36,27],[27],[27],[38,39,27],[40,27],[29,37,41,27,27],[42,27],[27,43,2],[2,44]] [2,3,5,6,7,115]) (jC 115 (jX [o 4 (.cst (.t (.bool false)))] [4]) .skip)
def c5_5:zW:=jR [m 53 8,jB 54 .add 53 1,m 8 54] [2,3,5,6,7,8]
def c5_8:zW:=jS (jD [m 55 5,m 56 7,i 57 6 55 56,f 58 5 57,l 59 58,m 60 8,i 61 9 59 60,f 62 1 61,l 63 62,m 64 5,m 65 7,i 66 6 64 65,f 67 3 66,l 68 67,b 69 .neq 63 68] [[],[],[0,1],[2],[3],[],[4,5],[6],[7],[],[],[9,10],[11],[12],[8,13]] [2,3,5,6,7,8,69]) (jC 69 (jX [o 4 (.cst (.t (.bool false)))] [4]) .skip)
def c5_11:zW:=jS (jS (jR [m 45 8,m 46 5,m 47 7,i 48 6 46 47,f 49 5 48,l 50 49,e 51 50,b 52 .lss 45 51] [2,3,5,6,7,8,52]) (jC 52 .skip (.exit 2))) (jS (.block 3 c5_8) c5_5)
def c5_14:zW:=jS (jS (jR [jI 8 0] [2,3,5,6,7,8]) (.block 2 (.loop c5_11))) c5_4
def c5_15:zW:=jS (jR [m 37 6,m 38 5,m 39 7,i 40 6 38 39,f 41 5 40,l 42 41,e 43 42,b 44 .add 37 43,m 6 44] [2,3,5,6,7]) c5_14
def c5_18:zW:=jS (jS (jR [m 31 7,m 32 5,e 33 32,b 34 .lss 31 33] [2,3,5,6,7,34]) (jC 34 .skip (.exit 0))) (jS (.block 1 c5_15) c5_1)
def c5_21:zW:=jS (jS (jR [jI 7 0] [2,3,5,6,7]) (.block 0 (.loop c5_18))) c5_0
def c5_25:zW:=jS (jS (jR [m 16 5,e 17 16,jB 18 .eql 17 0,m 19 18,gm 20 19 jF 5,ge 21 19 jF 20,gB 22 19 jF .gtr 21 300,q 23 19 22,m 24 23,gm 25 24 jF 5,go 26 24 jF (.ia 6 (.s 25) (.c (jN 0))),gf 27 24 jF 0 26,gl 28 24 jF 27,gB 29 24 jF .neq 28 (-1),q 30 24 29] [2,3,5,30]) (jC 30 (jX [o 4 (.cst (.t (.bool false)))] [4]) .skip)) (jS (jR [jI 6 0] [2,3,5,6]) c5_21)
def c5_26:zW:=jS (jR [jL 13 4 2,jL 14 2 3,o 15 (.call 10 [(.s 13),(.s 14)]),m 5 15] [2,3,5]) c5_25
def c5_29:zW:=jS (jS (jR [jL 9 4 2,jL 10 2 3,o 11 (.call 7 [(.s 9),(.s 10)])] [2,3,11]) (jC 11 (jX [o 12 (.call 8 []),m 4 12] [4]) .skip)) c5_26
def c5:zW:=jS (jR [o 2 (.box 4 (.s 0)),o 3 (.box 2 (.s 1)),o 4 (.cst (.t (.bool false)))] [2,3]) c5_29
def r5:List q8:=[.tmp 4]
def n5:Nat:=124
def c6_0:zW:=jX [m 78 6,jB 79 .eql 78 0,m 80 79,gm 81 80 jT 5,gm 82 80 jT 7,gb 83 80 jT .eql 81 82,p 84 80 83,m 85 84,go 86 85 jT (.call 8 []),p 87 85 86,m 4 87] [4]
def c6_1:zW:=jX [m 69 6,jB 70 .eql 69 60,m 71 70,gm 72 71 jT 5,gB 73 71 jT .eql 72 0,p 74 71 73,m 75 74,go 76 75 jT (.call 8 []),p 77 75 76,m 4 77] [4]
def c6_3:zW:=jS (jS (jR [m 67 8,u 68 67] [5,6,7,68]) (jC 68 c6_1 .skip)) c6_0
def c6_4:zW:=jR [m 32 9,jB 33 .add 32 1,m 9 33] [2,3,5,6,7,8,9]
def c6_7:zW:=jS (jR [m 63 10,m 64 7,b 65 .gtr 63 64] [2,3,5,6,7,8,9,10,65]) (jC 65 (jR [m 66 10,m 7 66] [2,3,5,6,7,8,9]) .skip)
def c6_8:zW:=jS (jR [m 58 8,m 59 58,gm 60 59 jT 11,gB 61 59 jT .eql 60 0,p 62 59 61,m 8 62] [2,3,5,6,7,8,9,10]) c6_7
def c6_11:zW:=jS (jS (jR [m 48 11,jB 49 .neq 48 0,m 50 49,gm 51 50 jT 11,gB 52 50 jT .neq 51 60,p 53 50 52,m 54 53,gm 55 54 jF 10,gB 56 54 jF .lss 55 0,q 57 54 56] [2,3,5,6,7,8,9,10,11,57]) (jC 57 (jX [o 4 (.cst (.t (.bool false)))] [4]) .skip)) c6_8
def c6_12:zW:=jS (jD [jL 35 4 2,f 36 0 3,l 37 36,f 38 1 3,l 39 38,m 40 9,m 41 9,jB 42 .add 41 1,o 43 (.sll 9 (.s 39) (some (.s 40)) (some (.s 42))),o 44 (.build [jN 0,.zI] [(0,1,(.s 37)),(1,1,(.s 43))]),o 45 (.call 14 [(.s 35),(.s 44)]),m 34 45,x 46 34 0,x 47 34 1,m 10 46,m 11 47] [[],[],[1],[],[3],[],[],[6],[4,5,7],[2,8],[0,9],[10],[11],[11],[12,10,0,1,2,3,4,5,6,7,8,9,10,11,12],[13,14,0,1,2,3,4,5,6,7,8,9,10,11,12,13,14]] [2,3,5,6,7,8,9,10,11]) c6_11
def c6_15:zW:=jS (jS (jR [m 27 9,f 28 1 3,l 29 28,e 30 29,b 31 .lss 27 30] [2,3,5,6,7,8,9,31]) (jC 31 .skip (.exit 0))) (jS (.block 1 c6_12) c6_4)
def c6_18:zW:=jS (jS (jR [jI 9 0] [2,3,5,6,7,8,9]) (.block 0 (.loop c6_15))) c6_3
def c6_19:zW:=jS (jR [jI 7 0,o 8 (.cst (.t (.bool true)))] [2,3,5,6,7,8]) c6_18
def c6_20:zW:=jS (jR [jL 22 4 2,jL 23 2 3,o 24 (.call 14 [(.s 22),(.s 23)]),m 21 24,x 25 21 0,x 26 21 1,m 5 25,m 6 26] [2,3,5,6]) c6_19
def c6_23:zW:=jS (jS (jR [jL 12 4 2,jL 13 2 3,o 14 (.call 7 [(.s 12),(.s 13)]),m 15 14,gf 16 15 jF 0 3,gl 17 15 jF 16,gB 18 15 jF .eql 17 3,q 19 15 18] [2,3,19]) (jC 19 (jX [o 20 (.call 8 []),m 4 20] [4]) .skip)) c6_20
def c6:zW:=jS (jR [o 2 (.box 4 (.s 0)),o 3 (.box 2 (.s 1)),o 4 (.cst (.t (.bool false)))] [2,3]) c6_23
def r6:List q8:=[.tmp 4]
def n6:Nat:=88
def c7_0:zW:=jX [jL 5 4 2,o 6 (.call 18 [(.s 5)]),u 7 6,m 8 7,gf 9 8 jF 1 2,gL 10 8 jF 1 9,go 11 8 jF (.call 19 [(.s 10),(.c (jN 400))]),gB 12 8 jF .gtr 11 400,q 13 8 12,m 14 13,gf 15 14 jF 1 3,gl 16 14 jF 15,go 17 14 jF (.call 17 [(.s 16)]),gB 18 14 jF .gtr 17 200,q 19 14 18,m 20 19,gf 21 20 jF 1 2,gL 22 20 jF 1 21,gL 23 20 jF 2 3,go 24 20 jF (.call 20 [(.s 22),(.s 23)]),go 25 20 jF (.un .not (.s 24)),q 26 20 25,m 4 26] [4]
def c7:zW:=jS (jR [o 2 (.box 4 (.s 0)),o 3 (.box 2 (.s 1)),o 4 (.cst (.t (.bool false)))] [2,3]) c7_0
def r7:List q8:=[.tmp 4]
def n7:Nat:=27
def c8_0:zW:=jS (jR [m 49 3,o 50 (.ia 6 (.s 49) (.c (jN 0))),f 51 0 50,l 52 51,jB 53 .eql 52 (-1),m 54 53,gm 55 54 jT 3,go 56 54 jT (.ia 6 (.s 55) (.c (jN 1))),gf 57 54 jT 0 56,gl 58 54 jT 57,gB 59 54 jT .eql 58 0,p 60 54 59,m 61 60,gm 62 61 jT 3,go 63 61 jT (.ia 6 (.s 62) (.c (jN 1))),gf 64 61 jT 3 63,gl 65 61 jT 64,go 66 61 jT (.bin .eql (.s 65) (.c (.t (.str [85,115,101,114])))),p 67 61 66,m 68 67,gm 69 68 jT 4,gB 70 68 jT .eql 69 1,p 71 68 70,m 72 71,gm 73 72 jT 5,gB 74 72 jT .eql 73 0,p 75 72 74,m 76 75,gm 77 76 jT 6,ge 78 76 jT 77,gB 79 76 jT .eql 78 1,p 80 76 79,m 81 80,gm 82 81 jT 6,go 83 81 jT (.ia 2 (.s 82) (.c (jN 0))),gL 84 81 jT 2 83,go 85 81 jT (.build [.t (.str []),.t (.str [])] [(0,1,(.c (.t (.str [81,117,101,114,121])))),(1,1,(.c (.t (.str [109,101]))))]),go 86 81 jT (.nw (.z9a false [.str,.str] (.s 84) (.s 85))),p 87 81 86,m 0 87] [0]) .ret
def c8_1:zW:=jS (jR [m 47 3,o 48 (.call 22 [(.s 47),(.c (jN 1))]),m 6 48] [3,4,5,6]) c8_0
def c8_4:zW:=jS (jS (jR [m 20 3,e 21 20,jB 22 .neq 21 2,m 23 22,gm 24 23 jF 3,go 25 23 jF (.ia 6 (.s 24) (.c (jN 0))),gf 26 23 jF 4 25,gl 27 23 jF 26,ge 28 23 jF 27,gB 29 23 jF .neq 28 1,q 30 23 29,m 31 30,gm 32 31 jF 3,go 33 31 jF (.ia 6 (.s 32) (.c (jN 1))),gf 34 31 jF 4 33,gl 35 31 jF 34,ge 36 31 jF 35,gB 37 31 jF .neq 36 1,q 38 31 37,m 39 38,gm 40 39 jF 3,go 41 39 jF (.ia 6 (.s 40) (.c (jN 1))),gf 42 39 jF 5 41,gl 43 39 jF 42,ge 44 39 jF 43,gB 45 39 jF .neq 44 1,q 46 39 45] [3,4,5,46]) (jC 46 (jX [o 0 (.cst (.t (.bool false)))] [0]) .skip)) c8_1
def c8_5:zW:=jS (jR [jL 15 4 1,jL 16 2 2,o 17 (.call 14 [(.s 15),(.s 16)]),m 14 17,x 18 14 0,x 19 14 1,m 4 18,m 5 19] [3,4,5]) c8_4
def c8_6:zW:=jS (jR [jL 11 4 1,jL 12 2 2,o 13 (.call 10 [(.s 11),(.s 12)]),m 3 13] [1,2,3]) c8_5
def c8_7:zW:=jS (jR [o 8 (.call 21 []),m 7 8,x 9 7 0,x 10 7 1,o 1 (.alloc [.zI,.zI,.zI,.zI]),o 2 (.alloc [jN 0,.zI]),jO (.st 4 (.s 1) (.s 9)),jO (.st 2 (.s 2) (.s 10))] [1,2]) c8_6
def c8:zW:=jS (jR [o 0 (.cst (.t (.bool false)))] []) c8_7
def r8:List q8:=[.tmp 0]
def n8:Nat:=88
def c10_0:zW:=jX [m 37 5,n 38 37,f 39 4 38,l 40 39,m 4 40] [4]
def c10_1:zW:=jS (jR [m 29 5,m 30 6,jL 31 4 2,m 32 6,o 33 (.call 26 [(.s 31),(.s 32)]),m 34 7,o 35 (.build [jN 0,.t (.str []),.t (.str []),.t (.str []),.zI,.zI] [(0,1,(.c (jN (-1)))),(3,1,(.s 30)),(4,1,(.s 33)),(5,1,(.s 34))]),o 36 (.call 25 [(.s 29),(.s 35)])] [5]) c10_0
def c10_2:zW:=jR [jB 28 .add 19 1,m 19 28] [2,5,6,7,17,18,19]
def c10_3:zW:=jR [m 23 7,jL 24 9 9,o 25 (.call 24 [(.s 24)]),o 26 (.bsl false 9 [[.str [],.str [],.str [],.lst [],.str [],.lst [],.str [],.int .i64 0,.lst []]] [(0,(.s 25))]),o 27 (.app 9 160 (.s 23) (.s 26)),m 7 27] [2,5,6,7,17,18,19]
def c10_4:zW:=jS (jR [i 21 9 17 19,jL 22 9 21,o 9 (.alloc [.t (.str []),.t (.str []),.t (.str []),.zI,.t (.str []),.zI,.t (.str []),jN 0,.zI]),jO (.st 9 (.s 9) (.s 22))] [2,5,6,7,9,17,18,19]) c10_3
def c10_7:zW:=jS (jR [b 20 .lss 19 18] [2,5,6,7,17,18,19,20]) (jS (jC 20 .skip (.exit 0)) (jS (.block 1 c10_4) c10_2))
def c10_10:zW:=jS (jS (jR [f 16 1 3,l 17 16,e 18 17,jI 19 0] [2,5,6,7,17,18,19]) (.block 0 (.loop c10_7))) c10_1
def c10_11:zW:=jS (jR [o 7 (.cst (.zI))] [2,3,5,6,7]) c10_10
def c10_12:zW:=jS (jR [f 13 0 3,l 14 13,o 15 (.call 23 [(.s 14)]),m 6 15] [2,3,5,6]) c10_11
def c10_13:zW:=jS (jR [jL 10 4 2,o 11 (.build [.zI,.zI,.zI,.zI,.zI] [(0,4,(.s 10))]),o 12 (.box 5 (.s 11)),m 5 12] [2,3,5]) c10_12
def c10:zW:=jS (jR [o 2 (.box 4 (.s 0)),o 3 (.box 2 (.s 1)),o 4 (.cst (.zI))] [2,3]) c10_13
def r10:List q8:=[.tmp 4]
def n10:Nat:=41
def c14_2:zW:=jR [jB 44 .add 24 1,m 24 44] [2,6,8,15,16,17,22,23,24]
def c14_3:zW:=jR [m 41 6,m 42 11,o 43 (.zdT (.s 41) (.s 42)),m 6 43] [2,6,8,15,16,17,22,23,24]
def c14_6:zW:=jS (jS (jR [m 39 12,u 40 39] [2,6,8,11,15,16,17,22,23,24,40]) (jC 40 (jX [jI 4 0,jI 5 60] [4,5]) .skip)) c14_3
def c14_7:zW:=jS (jR [jL 29 4 2,f 30 3 8,l 31 30,f 32 4 8,l 33 32,f 34 2 10,l 35 34,o 36 (.call 32 [(.s 29),(.s 31),(.s 33),(.s 35)]),m 28 36,x 37 28 0,x 38 28 1,m 11 37,m 12 38] [2,6,8,11,12,15,16,17,22,23,24]) c14_6
def c14_8:zW:=jS (jR [i 26 9 22 24,jL 27 9 26,o 10 (.alloc [.t (.str []),.t (.str []),.t (.str []),.zI,.t (.str []),.zI,.t (.str []),jN 0,.zI]),jO (.st 9 (.s 10) (.s 27))] [2,6,8,10,15,16,17,22,23,24]) c14_7
def c14_11:zW:=jS (jR [b 25 .lss 24 23] [2,6,8,15,16,17,22,23,24,25]) (jS (jC 25 .skip (.exit 2)) (jS (.block 3 c14_8) c14_2))
def c14_14:zW:=jS (jR [f 21 5 8,l 22 21,e 23 22,jI 24 0] [2,6,8,15,16,17,22,23,24]) (.block 2 (.loop c14_11))
def c14_15:zW:=jS (jR [i 19 6 15 17,jL 20 6 19,o 8 (.alloc [jN 0,.t (.str []),.t (.str []),.t (.str []),.zI,.zI]),jO (.st 6 (.s 8) (.s 20))] [2,6,8,15,16,17]) c14_14
def c14_18:zW:=jS (jR [b 18 .lss 17 16] [2,6,15,16,17,18]) (jS (jC 18 .skip (.exit 0)) (jS (.block 1 c14_15) (jR [jB 45 .add 17 1,m 17 45] [2,6,15,16,17])))
def c14_21:zW:=jS (jS (jR [jL 13 4 2,jL 14 2 3,o 15 (.call 10 [(.s 13),(.s 14)]),e 16 15,jI 17 0] [2,6,15,16,17]) (.block 0 (.loop c14_18))) (jX [m 46 6,m 4 46,jI 5 0] [4,5])
def c14:zW:=jS (jR [o 2 (.box 4 (.s 0)),o 3 (.box 2 (.s 1)),jI 4 0,jI 5 0] [2,3]) (jS (jR [jI 6 0] [2,3,6]) c14_21)
def r14:List q8:=[.tmp 4,.tmp 5]
def n14:Nat:=47
def c16_1:zW:=jR [m 21 7,jB 22 .add 21 1,m 7 22] [3,4,5,7]
def c16_2:zW:=jR [m 57 9,jB 58 .add 57 1,m 9 58] [3,4,5,7,8,9]
def c16_5:zW:=jS (jD [m 59 8,m 60 9,i 61 1 59 60,l 62 61,f 63 3 5,l 64 63,b 65 .eql 62 64] [[],[],[0,1],[2],[],[4],[3,5]] [3,4,5,7,8,9,65]) (jC 65 (jX [o 6 (.cst (.t (.bool true)))] [6]) .skip)
def c16_8:zW:=jS (jS (jR [m 53 9,m 54 8,e 55 54,b 56 .lss 53 55] [3,4,5,7,8,9,56]) (jC 56 .skip (.exit 2))) (jS (.block 3 c16_5) c16_2)
def c16_12:zW:=jS (jD [jL 44 1 3,f 45 5 4,l 46 45,m 47 7,i 48 9 46 47,f 49 4 48,f 50 0 49,l 51 50,o 52 (.call 34 [(.s 44),(.s 51)]),m 8 52] [[],[],[1],[],[2,3],[4],[5],[6],[0,7],[8,8,0,1,2,3,4,5,6,7,8]] [3,4,5,7,8]) (jS (jR [jI 9 0] [3,4,5,7,8,9]) (.block 2 (.loop c16_8)))
def c16_14:zW:=jS (jD [f 23 5 4,l 24 23,m 25 7,i 26 9 24 25,f 27 0 26,l 28 27,f 29 1 5,f 30 1 29,l 31 30,b 32 .eql 28 31,m 33 32,gf 34 33 jT 5 4,gl 35 33 jT 34,gm 36 33 jT 7,gi 37 33 jT 9 35 36,gf 38 33 jT 1 37,gl 39 33 jT 38,gf 40 33 jT 3 4,gl 41 33 jT 40,gb 42 33 jT .eql 39 41,p 43 33 42] [[],[0],[],[1,2],[3],[4],[],[6],[7],[5,8],[9],[10],[11,10],[10],[12,13,10],[14,10],[15,10],[10],[17,10],[16,18,10],[10,19]] [3,4,5,7,43]) (jC 43 c16_12 .skip)
def c16_17:zW:=jS (jS (jR [m 16 7,f 17 5 4,l 18 17,e 19 18,b 20 .lss 16 19] [3,4,5,7,20]) (jC 20 .skip (.exit 0))) (jS (.block 1 c16_14) c16_1)
def c16_20:zW:=jS (jS (jR [jI 7 0] [3,4,5,7]) (.block 0 (.loop c16_17))) (jX [o 6 (.cst (.t (.bool false)))] [6])
def c16_23:zW:=jS (jS (jR [f 10 1 5,f 11 0 10,l 12 11,f 13 3 4,l 14 13,b 15 .neq 12 14] [3,4,5,15]) (jC 15 (jX [o 6 (.cst (.t (.bool false)))] [6]) .skip)) c16_20
def c16:zW:=jS (jR [o 3 (.box 1 (.s 0)),o 4 (.box 6 (.s 1)),o 5 (.box 6 (.s 2)),o 6 (.cst (.t (.bool false)))] [3,4,5]) c16_23
def r16:List q8:=[.tmp 6]
def n16:Nat:=66
def c17_2:zW:=jR [m 13 3,m 14 0,m 15 4,i 16 9 14 15,f 17 8 16,l 18 17,o 19 (.call 17 [(.s 18)]),b 20 .add 13 19,m 3 20] [0,3,4]
def c17_5:zW:=jS (jS (jR [m 7 4,m 8 0,e 9 8,b 10 .lss 7 9] [0,3,4,10]) (jC 10 .skip (.exit 0))) (jS (.block 1 c17_2) (jR [m 11 4,jB 12 .add 11 1,m 4 12] [0,3,4]))
def c17:zW:=jS (jR [jI 2 0] [0]) (jS (jR [m 5 0,e 6 5,m 3 6] [0,3]) (jS (jS (jR [jI 4 0] [0,3,4]) (.block 0 (.loop c17_5))) (jX [m 21 3,m 2 21] [2])))
def r17:List q8:=[.tmp 2]
def n17:Nat:=22
def c18_4:zW:=jS (jR [f 77 3 1,l 78 77,m 79 5,i 80 6 78 79,f 81 2 80,l 82 81,jB 83 .lss 82 0,m 84 83,gf 85 84 jF 3 1,gl 86 84 jF 85,gm 87 84 jF 5,gi 88 84 jF 6 86 87,gf 89 84 jF 2 88,gl 90 84 jF 89,gm 91 84 jF 3,gb 92 84 jF .geq 90 91,q 93 84 92,m 94 93,gf 95 94 jF 3 1,gl 96 94 jF 95,gm 97 94 jF 5,gi 98 94 jF 6 96 97,gf 99 94 jF 4 98,gl 100 94 jF 99,ge 101 94 jF 100,gB 102 94 jF .gtr 101 10,q 103 94 102,m 104 103,gf 105 104 jF 3 1,gl 106 104 jF 105,gm 107 104 jF 5,gi 108 104 jF 6 106 107,gf 109 104 jF 5 108,gl 110 104 jF 109,ge 111 104 jF 110,gB 112 104 jF .gtr 111 10,q 113 104 112] [1,3,5,113]) (jC 113 (jX [o 2 (.cst (.t (.bool false)))] [2]) .skip)
def c18_7:zW:=jS (jS (jR [m 70 5,f 71 3 1,l 72 71,e 73 72,b 74 .lss 70 73] [1,3,5,74]) (jC 74 .skip (.exit 2))) (jS (.block 3 c18_4) (jR [m 75 5,jB 76 .add 75 1,m 5 76] [1,3,5]))
def c18_14:zW:=jS (jR [f 43 2 1,l 44 43,m 45 4,i 46 3 44 45,f 47 1 46,l 48 47,jB 49 .lss 48 0,m 50 49,gf 51 50 jF 2 1,gl 52 50 jF 51,gm 53 50 jF 4,gi 54 50 jF 3 52 53,gf 55 50 jF 1 54,gl 56 50 jF 55,gm 57 50 jF 3,gb 58 50 jF .geq 56 57,q 59 50 58,m 60 59,gf 61 60 jF 2 1,gl 62 60 jF 61,gm 63 60 jF 4,gi 64 60 jF 3 62 63,gf 65 60 jF 2 64,gl 66 60 jF 65,ge 67 60 jF 66,gB 68 60 jF .gtr 67 10,q 69 60 68] [1,3,4,69]) (jC 69 (jX [o 2 (.cst (.t (.bool false)))] [2]) .skip)
def c18_17:zW:=jS (jS (jR [m 36 4,f 37 2 1,l 38 37,e 39 38,b 40 .lss 36 39] [1,3,4,40]) (jC 40 .skip (.exit 0))) (jS (.block 1 c18_14) (jR [m 41 4,jB 42 .add 41 1,m 4 42] [1,3,4]))
def c18_23:zW:=jS (jS (jR [f 9 1 1,jL 10 1 9,o 11 (.call 35 [(.s 10)]),u 12 11,m 13 12,gf 14 13 jF 1 1,gL 15 13 jF 1 14,go 16 13 jF (.call 36 [(.s 15)]),ge 17 13 jF 16,gB 18 13 jF .gtr 17 0,q 19 13 18,m 20 19,gm 21 20 jF 3,gB 22 20 jF .gtr 21 8,q 23 20 22,m 24 23,gf 25 24 jF 2 1,gl 26 24 jF 25,ge 27 24 jF 26,gB 28 24 jF .gtr 27 100,q 29 24 28,m 30 29,gf 31 30 jF 3 1,gl 32 30 jF 31,ge 33 30 jF 32,gB 34 30 jF .gtr 33 300,q 35 30 34] [1,3,35]) (jC 35 (jX [o 2 (.cst (.t (.bool false)))] [2]) .skip)) (jS (jS (jR [jI 4 0] [1,3,4]) (.block 0 (.loop c18_17))) (jS (jS (jR [jI 5 0] [1,3,5]) (.block 2 (.loop c18_7))) (jX [o 2 (.cst (.t (.bool true)))] [2])))
def c18_24:zW:=jS (jR [f 6 0 1,l 7 6,e 8 7,m 3 8] [1,3]) c18_23
def c18:zW:=jS (jR [o 1 (.box 4 (.s 0)),o 2 (.cst (.t (.bool false)))] [1]) c18_24
def r18:List q8:=[.tmp 2]
def n18:Nat:=114
def c19_1:zW:=jR [m 22 6,jB 23 .add 22 1,m 6 23] [1,2,5,6]
def c19_2:zW:=jR [m 60 8,jB 61 .add 60 1,m 8 61] [1,2,5,6,7,8]
def c19_3:zW:=jD [m 62 5,f 63 4 7,l 64 63,m 65 8,i 66 5 64 65,f 67 1 66,l 68 67,e 69 68,b 70 .add 62 69,f 71 4 7,l 72 71,m 73 8,i 74 5 72 73,f 75 4 74,l 76 75,e 77 76,b 78 .add 70 77,m 5 78] [[],[],[1],[],[2,3],[4],[5],[6],[0,7],[],[9],[],[10,11],[12],[13],[14],[8,15],[16,0,1,2,3,4,5,6,7,8,9,10,11,12,13,14,15,16]] [1,2,5,6,7,8]
def c19_6:zW:=jS (jS (jR [m 50 8,f 51 4 7,l 52 51,e 53 52,b 54 .lss 50 53,m 55 54,gm 56 55 jT 5,gm 57 55 jT 1,gb 58 55 jT .leq 56 57,p 59 55 58] [1,2,5,6,7,8,59]) (jC 59 .skip (.exit 2))) (jS (.block 3 c19_3) c19_2)
def c19_10:zW:=jS (jR [m 29 5,f 30 2 7,l 31 30,e 32 31,b 33 .add 29 32,f 34 3 7,l 35 34,e 36 35,b 37 .add 33 36,f 38 4 7,l 39 38,e 40 39,b 41 .add 37 40,f 42 5 7,l 43 42,e 44 43,b 45 .add 41 44,f 46 6 7,l 47 46,e 48 47,b 49 .add 45 48,m 5 49] [1,2,5,6,7]) (jS (jR [jI 8 0] [1,2,5,6,7,8]) (.block 2 (.loop c19_6)))
def c19_11:zW:=jS (jR [f 24 0 2,l 25 24,m 26 6,i 27 7 25 26,jL 28 7 27,o 7 (.alloc [jN 0,.t (.str []),.zI,.zI,.zI,.zI,.zI]),jO (.st 7 (.s 7) (.s 28))] [1,2,5,6,7]) c19_10
def c19_14:zW:=jS (jS (jR [m 12 6,f 13 0 2,l 14 13,e 15 14,b 16 .lss 12 15,m 17 16,gm 18 17 jT 5,gm 19 17 jT 1,gb 20 17 jT .leq 18 19,p 21 17 20] [1,2,5,6,21]) (jC 21 .skip (.exit 0))) (jS (.block 1 c19_11) c19_1)
def c19_17:zW:=jS (jS (jR [jI 6 0] [1,2,5,6]) (.block 0 (.loop c19_14))) (jX [m 79 5,m 4 79] [4])
def c19_18:zW:=jS (jR [f 9 0 2,l 10 9,e 11 10,m 5 11] [1,2,5]) c19_17
def c19:zW:=jS (jR [o 2 (.box 1 (.s 0)),jI 4 0] [1,2]) c19_18
def r19:List q8:=[.tmp 4]
def n19:Nat:=80
def c20_0:zW:=jX [m 15 6,m 16 15,gf 17 16 jT 0 5,gl 18 16 jT 17,gB 19 16 jT .eql 18 1,p 20 16 19,m 21 20,gf 22 21 jT 1 3,gl 23 21 jT 22,go 24 21 jT (.call 17 [(.s 23)]),gB 25 21 jT .leq 24 2048,p 26 21 25,m 27 26,gL 28 27 jT 1 2,gf 29 27 jT 1 5,gl 30 27 jT 29,gf 31 27 jT 1 3,gl 32 27 jT 31,go 33 27 jT (.call 38 [(.s 28),(.s 30),(.s 32),(.c (jN 1))]),p 34 27 33,m 4 34] [4]
def c20_1:zW:=jS (jD [jL 8 1 2,f 9 0 3,l 10 9,o 11 (.call 27 [(.s 10)]),o 12 (.call 37 [(.s 8),(.s 11)]),m 7 12,x 13 7 0,x 14 7 1,o 5 (.alloc [jN 0,.t (.str []),.zI,.zI,.zI,.zI,.zI]),jO (.st 7 (.s 5) (.s 13)),m 6 14] [[],[],[1],[2],[0,3,3],[4],[5],[5],[],[8,6,4,0,1,2,3,4,5,6,8],[7,9,0,1,2,3,4,5,6,7,8,9]] [2,3,5,6]) c20_0
def c20:zW:=jS (jR [o 2 (.box 1 (.s 0)),o 3 (.box 2 (.s 1)),o 4 (.cst (.t (.bool false)))] [2,3]) c20_1
def r20:List q8:=[.tmp 4]
def n20:Nat:=35
def c21_0:zW:=jS (jD [jL 34 4 5,jL 35 9 7,o 36 (.bsl true 9 [[.str [],.str [],.str [],.lst [],.str [],.lst [],.str [],.int .i64 0,.lst []]] [(0,(.s 35))]),o 37 (.build [jN 0,.zI] [(0,1,(.c (jN 1))),(1,1,(.s 36))]),jO (.st 4 (.s 0) (.s 34)),jO (.st 2 (.s 1) (.s 37))] [[],[],[1],[2],[0,0],[3,4,0,1,2,3,4]] [0,1]) .ret
def c21_1:zW:=jS (jR [f 29 2 3,jL 30 2 29,jL 31 9 6,o 32 (.bsl true 9 [[.str [],.str [],.str [],.lst [],.str [],.lst [],.str [],.int .i64 0,.lst []]] [(0,(.s 31))]),o 33 (.build [.t (.str []),.t (.str []),.t (.str []),.zI,.t (.str []),.zI,.t (.str []),jN 0,.zI] [(0,1,(.c (.t (.str [109,101])))),(1,1,(.c (.t (.str [81,117,101,114,121])))),(2,1,(.c (.t (.str [109,101])))),(4,2,(.s 30)),(7,1,(.c (jN (-1)))),(8,1,(.s 32))]),o 7 (.alloc [.t (.str []),.t (.str []),.t (.str []),.zI,.t (.str []),.zI,.t (.str []),jN 0,.zI]),jO (.st 9 (.s 7) (.s 33))] [0,1,5,7]) c21_0
def c21_2:zW:=jS (jR [f 26 2 2,jL 27 2 26,o 28 (.build [.t (.str []),.t (.str []),.t (.str []),.zI,.t (.str []),.zI,.t (.str []),jN 0,.zI] [(0,1,(.c (.t (.str [110,97,109,101])))),(1,1,(.c (.t (.str [85,115,101,114])))),(2,1,(.c (.t (.str [110,97,109,101])))),(4,2,(.s 27)),(7,1,(.c (jN (-1))))]),o 6 (.alloc [.t (.str []),.t (.str []),.t (.str []),.zI,.t (.str []),.zI,.t (.str []),jN 0,.zI]),jO (.st 9 (.s 6) (.s 28))] [0,1,3,5,6]) c21_1
def c21_3:zW:=jS (jR [o 20 (.bsl true 1 [[.str []]] [(0,(.c (.t (.str [97]))))]),jL 21 1 4,o 22 (.build [.t (.str []),.t (.str []),jN 0,.t (.bool false),.zI,.zI] [(0,1,(.c (.t (.str [81,117,101,114,121])))),(1,1,(.c (.t (.str [109,101]))))]),o 23 (.build [.t (.str []),.t (.str []),jN 0,.t (.bool false),.zI,.zI] [(0,1,(.c (.t (.str [85,115,101,114])))),(1,1,(.c (.t (.str [110,97,109,101]))))]),o 24 (.bsl true 6 [[.str [],.str [],.int .i64 0,.bool false,.lst [],.lst []],[.str [],.str [],.int .i64 0,.bool false,.lst [],.lst []]] [(0,(.s 22)),(1,(.s 23))]),o 25 (.build [.zI,.zI,.zI,.zI] [(0,1,(.s 20)),(1,1,(.s 21)),(3,1,(.s 24))]),o 5 (.alloc [.zI,.zI,.zI,.zI]),jO (.st 4 (.s 5) (.s 25))] [0,1,2,3,5]) c21_2
def c21_4:zW:=jS (jR [jL 12 5 3,o 13 (.bsl true 5 [[.str [],.lst [],.str [],.lst [],.lst []]] [(0,(.s 12))]),o 14 (.build [jN 0,.t (.str []),.zI,.zI,.zI,.zI,.zI] [(0,1,(.c (jN 1))),(1,1,(.c (.t (.str [81,117,101,114,121])))),(4,1,(.s 13))]),jL 15 5 2,o 16 (.bsl true 5 [[.str [],.lst [],.str [],.lst [],.lst []]] [(0,(.s 15))]),o 17 (.build [jN 0,.t (.str []),.zI,.zI,.zI,.zI,.zI] [(0,1,(.c (jN 1))),(1,1,(.c (.t (.str [85,115,101,114])))),(4,1,(.s 16))]),o 18 (.bsl true 7 [[.int .i64 0,.str [],.lst [],.lst [],.lst [],.lst [],.lst []],[.int .i64 0,.str [],.lst [],.lst [],.lst [],.lst [],.lst []]] [(0,(.s 14)),(1,(.s 17))]),o 19 (.build [.zI] [(0,1,(.s 18))]),o 4 (.alloc [.zI]),jO (.st 1 (.s 4) (.s 19))] [0,1,2,3,4]) c21_3
def c21_5:zW:=jS (jR [o 10 (.build [.t (.str []),.zI] [(0,1,(.c (.t (.str [85,115,101,114]))))]),o 11 (.build [.t (.str []),.zI,.t (.str []),.zI,.zI] [(0,1,(.c (.t (.str [109,101])))),(2,2,(.s 10))]),o 3 (.alloc [.t (.str []),.zI,.t (.str []),.zI,.zI]),jO (.st 5 (.s 3) (.s 11))] [0,1,2,3]) c21_4
def c21_6:zW:=jS (jR [o 8 (.build [.t (.str []),.zI] [(0,1,(.c (.t (.str [83,116,114,105,110,103]))))]),o 9 (.build [.t (.str []),.zI,.t (.str []),.zI,.zI] [(0,1,(.c (.t (.str [110,97,109,101])))),(2,2,(.s 8))]),o 2 (.alloc [.t (.str []),.zI,.t (.str []),.zI,.zI]),jO (.st 5 (.s 2) (.s 9))] [0,1,2]) c21_5
def c21:zW:=jS (jR [o 0 (.alloc [.zI,.zI,.zI,.zI]),o 1 (.alloc [jN 0,.zI])] [0,1]) c21_6
def r21:List q8:=[.cell 0 true 4,.cell 1 true 2]
def n21:Nat:=38
def c22_1:zW:=jS (jR [m 42 5,o 43 (.call 39 [(.s 42)])] [5]) (jX [m 44 5,m 4 44] [4])
def c22_3:zW:=jS (jR [m 33 5,m 34 0,m 35 1,i 36 6 34 35,f 37 1 36,jL 38 2 37,o 39 (.bsl false 2 [[.str [],.str []]] [(0,(.s 38))]),o 40 (.app 2 32 (.s 33) (.s 39)),m 5 40] [0,5,6]) (jR [m 41 6,m 1 41] [0,1,5])
def c22_6:zW:=jS (jS (jR [m 26 6,jB 27 .lss 26 (-1),m 28 27,gm 29 28 jF 6,gm 30 28 jF 1,gb 31 28 jF .geq 29 30,q 32 28 31] [0,1,5,6,32]) (jC 32 (jX [o 4 (.cst (.zI))] [4]) .skip)) c22_3
def c22_7:zW:=jS (jR [m 21 0,m 22 1,i 23 6 21 22,f 24 0 23,l 25 24,m 6 25] [0,1,5,6]) c22_6
def c22_10:zW:=jS (jS (jR [m 15 0,m 16 1,i 17 6 15 16,f 18 0 17,l 19 18,jB 20 .neq 19 (-1)] [0,1,5,20]) (jC 20 .skip (.exit 0))) (.block 1 c22_7)
def c22_16:zW:=jS (jS (jR [m 7 1,jB 8 .lss 7 0,m 9 8,gm 10 9 jF 1,gm 11 9 jF 0,ge 12 9 jF 11,gb 13 9 jF .geq 10 12,q 14 9 13] [0,1,14]) (jC 14 (jX [o 4 (.cst (.zI))] [4]) .skip)) (jS (jR [o 5 (.cst (.zI))] [0,1,5]) (jS (.block 0 (.loop c22_10)) c22_1))
def c22:zW:=jS (jR [o 4 (.cst (.zI))] [0,1]) c22_16
def r22:List q8:=[.tmp 4]
def n22:Nat:=45
def c23_1:zW:=jX [o 2 (.cst (.t (.str [81,117,101,114,121])))] [2]
def c23_2:zW:=jX [o 2 (.cst (.t (.str [77,117,116,97,116,105,111,110])))] [2]
def c23_3:zW:=jX [o 2 (.cst (.t (.str [83,117,98,115,99,114,105,112,116,105,111,110])))] [2]
def c23:zW:=jS (jR [o 2 (.cst (.t (.str [])))] [0]) (jS (jS (jR [m 3 0] [3]) (.block 0 (jS (jR [jB 5 .eql 3 1,m 4 5] [3,4]) (jC 4 c23_1 (jS (jR [jB 7 .eql 3 2,m 6 7] [3,6]) (jC 6 c23_2 (jS (jR [jB 9 .eql 3 3,m 8 9] [8]) (jC 8 c23_3 .skip)))))))) (jX [o 2 (.cst (.t (.str [])))] [2]))
def r23:List q8:=[.tmp 2]
def n23:Nat:=10
def c24_0:zW:=jX [jL 33 9 1,jO (.st 9 (.s 2) (.s 33))] [2]
def c24_2:zW:=jD [f 25 8 1,l 26 25,jL 27 9 5,o 28 (.call 24 [(.s 27)]),o 29 (.bsl false 9 [[.str [],.str [],.str [],.lst [],.str [],.lst [],.str [],.int .i64 0,.lst []]] [(0,(.s 28))]),o 30 (.app 9 160 (.s 26) (.s 29)),f 31 8 1,jO (.st 1 (.s 31) (.s 30))] [[],[0],[],[2],[3],[1,4,3],[0,1,2,3,4,5],[6,5,5,0,1,2,3,4,5]] [1,2,19,20,21]
def c24_3:zW:=jS (jR [i 23 9 19 21,jL 24 9 23,o 5 (.alloc [.t (.str []),.t (.str []),.t (.str []),.zI,.t (.str []),.zI,.t (.str []),jN 0,.zI]),jO (.st 9 (.s 5) (.s 24))] [1,2,5,19,20,21]) c24_2
def c24_6:zW:=jS (jR [b 22 .lss 21 20] [1,2,19,20,21,22]) (jS (jC 22 .skip (.exit 0)) (jS (.block 1 c24_3) (jR [jB 32 .add 21 1,m 21 32] [1,2,19,20,21])))
def c24_9:zW:=jS (jS (jR [m 19 3,e 20 19,jI 21 0] [1,2,19,20,21]) (.block 0 (.loop c24_6))) c24_0
def c24_10:zW:=jS (jR [f 18 8 1,jO (.st 1 (.s 18) (.c (.zI)))] [1,2,3]) c24_9
def c24_11:zW:=jS (jR [f 16 8 1,l 17 16,m 3 17] [1,2,3]) c24_10
def c24_12:zW:=jS (jR [f 10 4 1,f 11 1 10,l 12 11,o 13 (.call 41 [(.s 12)]),f 14 4 1,f 15 1 14,jO (.st 1 (.s 15) (.s 13))] [1,2]) c24_11
def c24_13:zW:=jS (jR [f 6 3 1,l 7 6,o 8 (.call 40 [(.s 7)]),f 9 3 1,jO (.st 1 (.s 9) (.s 8))] [1,2]) c24_12
def c24:zW:=jS (jR [o 1 (.box 9 (.s 0)),o 2 (.alloc [.t (.str []),.t (.str []),.t (.str []),.zI,.t (.str []),.zI,.t (.str []),jN 0,.zI])] [1,2]) c24_13
def r24:List q8:=[.cell 2 true 9]
def n24:Nat:=34
def c25_0:zW:=jR [jB 80 .add 29 1,m 29 80] [2,3,4,27,28,29]
def c25_1:zW:=jR [jB 79 .add 43 1,m 43 79] [2,3,4,6,27,28,29,41,42,43]
def c25_2:zW:=jR [l 67 2,m 68 4,f 69 3 3,l 70 69,f 71 0 6,l 72 71,o 73 (.build [.t (.str []),.t (.str [])] [(0,1,(.s 70)),(1,1,(.s 72))]),l 74 8,m 75 10,m 76 9,o 77 (.build [jN 0,.t (.str []),.t (.str []),.t (.str []),.zI,.zI] [(0,1,(.s 68)),(1,2,(.s 73)),(3,1,(.s 74)),(4,1,(.s 75)),(5,1,(.s 76))]),o 78 (.call 25 [(.s 67),(.s 77)])] [2,3,4,6,27,28,29,41,42,43]
def c25_3:zW:=jS (jD [l 54 2,n 55 54,f 56 0 55,jL 57 4 56,f 58 3 3,l 59 58,f 60 4 3,l 61 60,f 62 2 6,l 63 62,o 64 (.call 44 [(.s 57),(.s 59),(.s 61),(.s 63)]),o 65 (.zcV 45 [(.s 2),(.s 8)]),o 66 (.call 43 [(.s 64),(.s 65)]),m 10 66] [[],[0],[1],[2],[],[4],[],[6],[],[8],[3,5,7,9],[],[10,11,10],[12,12,0,1,2,3,4,5,6,7,8,9,10,11,12]] [2,3,4,6,8,9,10,27,28,29,41,42,43]) c25_2
def c25_5:zW:=jS (jS (jR [m 51 9,e 52 51,jB 53 .eql 52 0] [2,3,4,6,8,9,27,28,29,41,42,43,53]) (jC 53 (.exit 3) .skip)) c25_3
def c25_6:zW:=jS (jR [f 47 8 6,l 48 47,l 49 8,o 50 (.call 42 [(.s 48),(.s 49)]),m 9 50] [2,3,4,6,8,9,27,28,29,41,42,43]) c25_5
def c25_7:zW:=jS (jR [i 45 1 41 43,l 46 45,o 8 (.alloc [.t (.str [])]),jO (.st 1 (.s 8) (.s 46))] [2,3,4,6,8,27,28,29,41,42,43]) c25_6
def c25_10:zW:=jS (jR [b 44 .lss 43 42] [2,3,4,6,27,28,29,41,42,43,44]) (jS (jC 44 .skip (.exit 2)) (jS (.block 3 c25_7) c25_1))
def c25_13:zW:=jS (jD [l 33 2,n 34 33,f 35 0 34,f 36 1 35,jL 37 1 36,f 38 4 6,f 39 0 38,l 40 39,o 41 (.call 34 [(.s 37),(.s 40)]),e 42 41,jI 43 0] [[],[0],[1],[2],[3],[],[5],[6],[4,7],[8],[]] [2,3,4,6,27,28,29,41,42,43]) (.block 2 (.loop c25_10))
def c25_14:zW:=jS (jR [i 31 9 27 29,jL 32 9 31,o 6 (.alloc [.t (.str []),.t (.str []),.t (.str []),.zI,.t (.str []),.zI,.t (.str []),jN 0,.zI]),jO (.st 9 (.s 6) (.s 32))] [2,3,4,6,27,28,29]) c25_13
def c25_17:zW:=jS (jR [b 30 .lss 29 28] [2,3,4,27,28,29,30]) (jS (jC 30 .skip (.exit 0)) (jS (.block 1 c25_14) c25_0))
def c25_20:zW:=jS (jR [f 26 5 3,l 27 26,e 28 27,jI 29 0] [2,3,4,27,28,29]) (.block 0 (.loop c25_17))
def c25_21:zW:=jS (jD [l 16 2,l 17 2,n 18 17,f 19 4 18,l 20 19,jL 21 6 3,o 22 (.bsl false 6 [[.int .i64 0,.str [],.str [],.str [],.lst [],.lst []]] [(0,(.s 21))]),o 23 (.app 6 104 (.s 20) (.s 22)),n 24 16,f 25 4 24,jO (.st 1 (.s 25) (.s 23))] [[],[],[1],[2],[3],[],[5],[4,6],[0,0,1,2,3,4,5,6,7],[8,0,1,2,3,4,5,6,7],[9,7,7,0,1,2,3,4,5,6,7]] [2,3,4]) c25_20
def c25_22:zW:=jS (jR [l 11 2,n 12 11,f 13 4 12,l 14 13,e 15 14,m 4 15] [2,3,4]) c25_21
def c25:zW:=jS (jR [o 2 (.box 1 (.s 0)),o 3 (.box 6 (.s 1))] [2,3]) c25_22
def r25:List q8:=[]
def n25:Nat:=81
def c26_2:zW:=jR [m 17 5,l 18 6,o 19 (.build [jN 0,jN 0,.zI] [(0,1,(.s 18)),(1,1,(.c (jN 1)))]),o 20 (.bsl false 3 [[.int .i64 0,.int .i64 0,.lst []]] [(0,(.s 19))]),o 21 (.app 3 40 (.s 17) (.s 20)),m 5 21] [2,3,5,9,10]
def c26_4:zW:=jS (jR [f 13 3 2,l 14 13,o 15 (.zcV 48 [(.s 3),(.s 6)]),o 16 (.call 47 [(.s 14),(.s 15)])] [2,3,5,6,9,10,16]) (jC 16 c26_2 .skip)
def c26_5:zW:=jS (jR [m 12 10,o 6 (.alloc [jN 0]),jO (.st 1 (.s 6) (.s 12))] [2,3,5,6,9,10]) c26_4
def c26_8:zW:=jS (jR [b 11 .lss 10 9] [2,3,5,9,10,11]) (jS (jC 11 .skip (.exit 0)) (jS (.block 1 c26_5) (jR [jB 22 .add 10 1,m 10 22] [2,3,5,9,10])))
def c26_11:zW:=jS (jS (jR [f 7 0 2,l 8 7,e 9 8,jI 10 0] [2,3,5,9,10]) (.block 0 (.loop c26_8))) (jX [m 23 5,m 4 23] [4])
def c26:zW:=jS (jR [o 2 (.box 4 (.s 0)),o 3 (.box 1 (.s 1)),o 4 (.cst (.zI))] [2,3]) (jS (jR [o 5 (.cst (.zI))] [2,3,5]) c26_11)
def r26:List q8:=[.tmp 4]
def n26:Nat:=24
def c27_1:zW:=jX [o 2 (.cst (.t (.str [81,117,101,114,121])))] [2]
def c27_2:zW:=jX [o 2 (.cst (.t (.str [77,117,116,97,116,105,111,110])))] [2]
def c27_3:zW:=jX [o 2 (.cst (.t (.str [83,117,98,115,99,114,105,112,116,105,111,110])))] [2]
def c27:zW:=jS (jR [o 2 (.cst (.t (.str [])))] [0]) (jS (jS (jR [m 3 0] [3]) (.block 0 (jS (jR [jB 5 .eql 3 1,m 4 5] [3,4]) (jC 4 c27_1 (jS (jR [jB 7 .eql 3 2,m 6 7] [3,6]) (jC 6 c27_2 (jS (jR [jB 9 .eql 3 3,m 8 9] [8]) (jC 8 c27_3 .skip)))))))) (jX [o 2 (.cst (.t (.str [])))] [2]))
def r27:List q8:=[.tmp 2]
def n27:Nat:=10
def c30_0:zW:=jX [f 5 0 2,l 6 5,f 7 0 3,l 8 7,b 9 .eql 6 8,m 10 9,gf 11 10 jT 1 2,gl 12 10 jT 11,gf 13 10 jT 1 3,gl 14 10 jT 13,go 15 10 jT (.call 54 [(.s 12),(.s 14)]),p 16 10 15,m 4 16] [4]
def c30:zW:=jS (jR [o 2 (.box 2 (.s 0)),o 3 (.box 2 (.s 1)),o 4 (.cst (.t (.bool false)))] [2,3]) c30_0
def r30:List q8:=[.tmp 4]
def n30:Nat:=17
def c31_0:zW:=jX [jL 5 5 2,jL 6 5 3,o 7 (.call 55 [(.s 5),(.s 6)]),jB 8 .eql 7 0,m 4 8] [4]
def c31:zW:=jS (jR [o 2 (.box 5 (.s 0)),o 3 (.box 5 (.s 1)),o 4 (.cst (.t (.bool false)))] [2,3]) c31_0
def r31:List q8:=[.tmp 4]
def n31:Nat:=9
def c32_0:zW:=jX [m 17 10,m 18 10,jB 19 .gtr 18 0,m 8 17,m 9 19] [8,9]
def c32_1:zW:=jS (jR [jL 11 4 4,m 12 1,m 13 2,o 14 (.call 56 [(.s 11),(.s 12),(.s 13)]),m 15 3,o 16 (.call 57 [(.s 14),(.s 15)]),m 10 16] [10]) c32_0
def c32:zW:=jS (jR [o 4 (.box 4 (.s 0)),jI 8 0,o 9 (.cst (.t (.bool false)))] [1,2,3,4]) c32_1
def r32:List q8:=[.tmp 8,.tmp 9]
def n32:Nat:=20
def c34_1:zW:=jR [jB 111 .add 95 1,m 95 111] [7,15,93,94,95]
def c34_2:zW:=jR [m 108 7,f 109 1 17,l 110 109,jO (.nw (.zam [.str] false (.s 108) (.s 110)))] [7,15,93,94,95]
def c34_3:zW:=jS (jR [m 103 15,f 104 1 17,l 105 104,o 106 (.bsl false 1 [[.str []]] [(0,(.s 105))]),o 107 (.app 1 16 (.s 103) (.s 106)),m 15 107] [7,15,17,93,94,95]) c34_2
def c34_5:zW:=jS (jR [m 99 7,f 100 1 17,l 101 100,o 102 (.nw (.lookup [.str] false (.t (.bool false)) false (.s 99) (.s 101)))] [7,15,17,93,94,95,102]) (jC 102 c34_3 .skip)
def c34_6:zW:=jS (jR [i 97 7 93 95,jL 98 7 97,o 17 (.alloc [jN 0,.t (.str []),.zI,.zI,.zI,.zI,.zI]),jO (.st 7 (.s 17) (.s 98))] [7,15,17,93,94,95]) c34_5
def c34_9:zW:=jS (jR [b 96 .lss 95 94] [7,15,93,94,95,96]) (jS (jC 96 .skip (.exit 7)) (jS (.block 8 c34_6) c34_1))
def c34_12:zW:=jS (jS (jR [f 92 0 2,l 93 92,e 94 93,jI 95 0] [7,15,93,94,95]) (.block 7 (.loop c34_9))) (jX [m 112 15,m 4 112] [4])
def c34_13:zW:=jS (jR [o 15 (.cst (.zI))] [2,7,15]) c34_12
def c34_14:zW:=jR [m 90 7,m 91 12,jO (.nw (.zam [.str] false (.s 90) (.s 91)))] [1,2,5,7,61]
def c34_16:zW:=jS (jR [m 72 14,u 73 72,m 74 73,gf 75 74 jF 0 13,gl 76 74 jF 75,gB 77 74 jF .neq 76 1,q 78 74 77,m 79 78,gf 80 79 jF 0 5,gl 81 79 jF 80,gB 82 79 jF .eql 81 2,gm 83 79 jF 82,gL 84 83 jT 7 13,gm 85 83 jT 1,go 86 83 jT (.call 61 [(.s 84),(.s 85)]),go 87 83 jT (.un .not (.s 86)),go 88 79 jF (.pick (.s 83) (.s 87) (.c (.t (.bool false)))),q 89 79 88] [1,2,5,7,12,61,89]) (jC 89 c34_14 .skip)
def c34_17:zW:=jS (jR [jL 67 1 2,m 68 12,o 69 (.call 60 [(.s 67),(.s 68)]),m 66 69,x 70 66 0,x 71 66 1,o 13 (.alloc [jN 0,.t (.str []),.zI,.zI,.zI,.zI,.zI]),jO (.st 7 (.s 13) (.s 70)),m 14 71] [1,2,5,7,12,13,14,61]) c34_16
def c34_18:zW:=jS (jR [o 64 (.nw (.z5V (.s 61))),x 65 64 0,m 12 65] [1,2,5,7,12,61]) c34_17
def c34_21:zW:=jS (jR [o 62 (.nw (.nxt (.s 61))),x 63 62 0] [1,2,5,7,61,63]) (jS (jC 63 .skip (.exit 5)) (.block 6 c34_18))
def c34_23:zW:=.block 5 (.loop c34_21)
def c34_24:zW:=jS (jS (jR [m 60 7,o 61 (.qu (.s 60))] [1,2,5,7,61]) c34_23) c34_13
def c34_25:zW:=jR [m 29 7,m 30 1,jO (.nw (.zb3 [.str] false (.s 29) (.s 30) (.c (.t (.bool true)))))] [1,2,5,7]
def c34_26:zW:=jR [jB 46 .add 36 1,m 36 46] [1,2,5,7,34,35,36]
def c34_27:zW:=jR [m 43 7,f 44 1 9,l 45 44,jO (.nw (.zb3 [.str] false (.s 43) (.s 45) (.c (.t (.bool true)))))] [1,2,5,7,34,35,36]
def c34_29:zW:=jS (jR [jL 40 7 9,m 41 1,o 42 (.call 61 [(.s 40),(.s 41)])] [1,2,5,7,9,34,35,36,42]) (jC 42 c34_27 .skip)
def c34_30:zW:=jS (jR [i 38 7 34 36,jL 39 7 38,o 9 (.alloc [jN 0,.t (.str []),.zI,.zI,.zI,.zI,.zI]),jO (.st 7 (.s 9) (.s 39))] [1,2,5,7,9,34,35,36]) c34_29
def c34_33:zW:=jS (jR [b 37 .lss 36 35] [1,2,5,7,34,35,36,37]) (jS (jC 37 .skip (.exit 1)) (jS (.block 2 c34_30) c34_26))
def c34_36:zW:=jS (jR [f 33 0 2,l 34 33,e 35 34,jI 36 0] [1,2,5,7,34,35,36]) (.block 1 (.loop c34_33))
def c34_37:zW:=jR [jB 59 .add 52 1,m 52 59] [1,2,5,7,50,51,52]
def c34_38:zW:=jR [m 56 7,f 57 0 11,l 58 57,jO (.nw (.zb3 [.str] false (.s 56) (.s 58) (.c (.t (.bool true)))))] [1,2,5,7,50,51,52]
def c34_39:zW:=jS (jR [i 54 2 50 52,jL 55 2 54,o 11 (.alloc [.t (.str []),.zI]),jO (.st 2 (.s 11) (.s 55))] [1,2,5,7,11,50,51,52]) c34_38
def c34_42:zW:=jS (jR [b 53 .lss 52 51] [1,2,5,7,50,51,52,53]) (jS (jC 53 .skip (.exit 3)) (jS (.block 4 c34_39) c34_37))
def c34_45:zW:=jS (jR [f 49 5 5,l 50 49,e 51 50,jI 52 0] [1,2,5,7,50,51,52]) (.block 3 (.loop c34_42))
def c34_47:zW:=jS (jR [jB 48 .eql 26 3,m 47 48] [1,2,5,7,47]) (jC 47 c34_45 .skip)
def c34_49:zW:=jS (jR [jB 32 .eql 26 2,m 31 32] [1,2,5,7,26,31]) (jC 31 c34_36 c34_47)
def c34_51:zW:=jS (jR [jB 28 .eql 26 1,m 27 28] [1,2,5,7,26,27]) (jC 27 c34_25 c34_49)
def c34_53:zW:=jS (jS (jR [f 25 0 5,l 26 25] [1,2,5,7,26]) (.block 0 c34_51)) c34_24
def c34_54:zW:=jS (jR [o 24 (.z2p false false),m 7 24] [1,2,5,7]) c34_53
def c34_55:zW:=jS (jR [jL 19 1 2,m 20 1,o 21 (.call 60 [(.s 19),(.s 20)]),m 18 21,x 22 18 0,x 23 18 1,o 5 (.alloc [jN 0,.t (.str []),.zI,.zI,.zI,.zI,.zI]),jO (.st 7 (.s 5) (.s 22)),m 6 23] [1,2,5]) c34_54
def c34:zW:=jS (jR [o 2 (.box 1 (.s 0)),o 4 (.cst (.zI))] [1,2]) c34_55
def r34:List q8:=[.tmp 4]
def n34:Nat:=113
def c35_4:zW:=jS (jR [f 21 0 1,l 22 21,m 23 3,i 24 7 22 23,jL 25 7 24,o 26 (.call 62 [(.s 25)]),u 27 26] [1,3,27]) (jC 27 (jX [o 2 (.cst (.t (.bool false)))] [2]) .skip)
def c35_7:zW:=jS (jS (jR [m 14 3,f 15 0 1,l 16 15,e 17 16,b 18 .lss 14 17] [1,3,18]) (jC 18 .skip (.exit 0))) (jS (.block 1 c35_4) (jR [m 19 3,jB 20 .add 19 1,m 3 20] [1,3]))
def c35_13:zW:=jS (jS (jR [f 4 0 1,l 5 4,e 6 5,jB 7 .lss 6 1,m 8 7,gf 9 8 jF 0 1,gl 10 8 jF 9,ge 11 8 jF 10,gB 12 8 jF .gtr 11 64,q 13 8 12] [1,13]) (jC 13 (jX [o 2 (.cst (.t (.bool false)))] [2]) .skip)) (jS (jS (jR [jI 3 0] [1,3]) (.block 0 (.loop c35_7))) (jX [o 2 (.cst (.t (.bool true)))] [2]))
def c35:zW:=jS (jR [o 1 (.box 1 (.s 0)),o 2 (.cst (.t (.bool false)))] [1]) c35_13
def r35:List q8:=[.tmp 2]
def n35:Nat:=28
def c36_0:zW:=jX [m 14 3,jL 15 1 1,o 16 (.call 65 [(.s 15)]),o 17 (.app 2 24 (.s 14) (.s 16)),m 2 17] [2]
def c36_1:zW:=jS (jR [m 10 3,jL 11 1 1,o 12 (.call 64 [(.s 11)]),o 13 (.app 2 24 (.s 10) (.s 12)),m 3 13] [1,3]) c36_0
def c36_4:zW:=jS (jS (jR [m 6 3,e 7 6,jB 8 .gtr 7 0] [1,3,8]) (jC 8 (jX [m 9 3,m 2 9] [2]) .skip)) c36_1
def c36_5:zW:=jS (jR [jL 4 1 1,o 5 (.call 63 [(.s 4),(.c (.t (.bool true)))]),m 3 5] [1,3]) c36_4
def c36:zW:=jS (jR [o 1 (.box 1 (.s 0)),o 2 (.cst (.zI))] [1]) c36_5
def r36:List q8:=[.tmp 2]
def n36:Nat:=18
def c37_0:zW:=jX [o 27 (.build [jN 0,.t (.str []),.zI,.zI,.zI,.zI,.zI] []),jO (.st 7 (.s 4) (.s 27)),o 5 (.cst (.t (.bool false)))] [4,5]
def c37_1:zW:=jR [m 12 6,jB 13 .add 12 1,m 6 13] [1,2,4,6]
def c37_2:zW:=jX [f 22 0 2,l 23 22,m 24 6,i 25 7 23 24,jL 26 7 25,jO (.st 7 (.s 4) (.s 26)),o 5 (.cst (.t (.bool true)))] [4,5]
def c37_4:zW:=jS (jR [f 14 0 2,l 15 14,m 16 6,i 17 7 15 16,f 18 1 17,l 19 18,m 20 1,b 21 .eql 19 20] [1,2,4,6,21]) (jC 21 c37_2 .skip)
def c37_7:zW:=jS (jS (jR [m 7 6,f 8 0 2,l 9 8,e 10 9,b 11 .lss 7 10] [1,2,4,6,11]) (jC 11 .skip (.exit 0))) (jS (.block 1 c37_4) c37_1)
def c37:zW:=jS (jR [o 2 (.box 1 (.s 0)),o 4 (.alloc [jN 0,.t (.str []),.zI,.zI,.zI,.zI,.zI]),o 5 (.cst (.t (.bool false)))] [1,2,4]) (jS (jS (jR [jI 6 0] [1,2,4,6]) (.block 0 (.loop c37_7))) c37_0)
def r37:List q8:=[.cell 4 true 7,.tmp 5]
def n37:Nat:=28
def c38_1:zW:=jR [m 21 11,jB 22 .add 21 1,m 11 22] [2,3,4,9,10,11]
def c38_2:zW:=jR [m 68 13,jB 69 .add 68 1,m 13 69] [2,3,4,9,10,11,13]
def c38_5:zW:=jS (jD [m 70 2,m 71 13,i 72 9 70 71,f 73 1 72,l 74 73,m 75 2,m 76 11,i 77 9 75 76,f 78 1 77,l 79 78,b 80 .eql 74 79,m 81 80,gm 82 81 jT 2,gm 83 81 jT 13,gi 84 81 jT 9 82 83,gf 85 81 jT 0 84,gl 86 81 jT 85,gm 87 81 jT 2,gm 88 81 jT 11,gi 89 81 jT 9 87 88,gf 90 81 jT 0 89,gl 91 81 jT 90,gb 92 81 jT .eql 86 91,p 93 81 92] [[],[],[0,1],[2],[3],[],[],[5,6],[7],[8],[4,9],[10],[11],[11],[12,13,11],[14,11],[15,11],[11],[11],[17,18,11],[19,11],[20,11],[16,21,11],[11,22]] [2,3,4,9,10,11,13,93]) (jC 93 (jX [o 8 (.cst (.t (.bool false)))] [8]) .skip)
def c38_8:zW:=jS (jS (jR [m 65 13,m 66 11,b 67 .lss 65 66] [2,3,4,9,10,11,13,67]) (jC 67 .skip (.exit 2))) (jS (.block 3 c38_5) c38_2)
def c38_12:zW:=jS (jR [m 64 12,m 10 64] [2,3,4,9,10,11]) (jS (jR [jI 13 0] [2,3,4,9,10,11,13]) (.block 2 (.loop c38_8)))
def c38_15:zW:=jS (jS (jD [m 30 3,jB 31 .gtr 30 24,m 32 31,gm 33 32 jF 12,gm 34 32 jF 10,gb 35 32 jF .lss 33 34,q 36 32 35,m 37 36,gL 38 37 jF 1 4,gm 39 37 jF 2,gm 40 37 jF 11,gi 41 37 jF 9 39 40,gL 42 37 jF 9 41,go 43 37 jF (.call 67 [(.s 38),(.s 42)]),go 44 37 jF (.un .not (.s 43)),q 45 37 44,m 46 45,gL 47 46 jF 1 4,gm 48 46 jF 2,gm 49 46 jF 11,gi 50 46 jF 9 48 49,gf 51 46 jF 4 50,gf 52 46 jF 0 51,gl 53 46 jF 52,gm 54 46 jF 2,gm 55 46 jF 11,gi 56 46 jF 9 54 55,gf 57 46 jF 8 56,gl 58 46 jF 57,gm 59 46 jF 3,gB 60 46 jF .add 59 1,go 61 46 jF (.call 38 [(.s 47),(.s 53),(.s 58),(.s 60)]),go 62 46 jF (.un .not (.s 61)),q 63 46 62] [[],[0],[1],[2],[2],[3,4,2],[2,5],[6,2],[7],[7],[7],[9,10,7],[11,7],[8,12,7,7],[13,7],[7,14],[15,13],[16],[16],[16],[18,19,16],[20,16],[21,16],[22,16],[16],[16],[24,25,16],[26,16],[27,16],[16],[29,16],[17,23,28,30,16,16],[31,16],[16,32]] [2,3,4,9,11,12,63]) (jC 63 (jX [o 8 (.cst (.t (.bool false)))] [8]) .skip)) c38_12
def c38_16:zW:=jS (jR [m 23 9,m 24 2,m 25 11,i 26 9 24 25,f 27 1 26,l 28 27,o 29 (.call 66 [(.s 23),(.s 28)]),m 12 29] [2,3,4,9,10,11,12]) c38_15
def c38_19:zW:=jS (jS (jR [m 17 11,m 18 2,e 19 18,b 20 .lss 17 19] [2,3,4,9,10,11,20]) (jC 20 .skip (.exit 0))) (jS (.block 1 c38_16) c38_1)
def c38_22:zW:=jS (jS (jR [jI 11 0] [2,3,4,9,10,11]) (.block 0 (.loop c38_19))) (jX [o 8 (.cst (.t (.bool true)))] [8])
def c38_24:zW:=jS (jR [jL 14 1 4,m 15 1,o 16 (.call 50 [(.s 14),(.s 15)]),m 9 16] [2,3,4,9]) (jS (jR [jI 10 0] [2,3,4,9,10]) c38_22)
def c38:zW:=jS (jR [o 4 (.box 1 (.s 0)),o 8 (.cst (.t (.bool false)))] [1,2,3,4]) c38_24
def r38:List q8:=[.tmp 8]
def n38:Nat:=94
def c39_0:zW:=jR [m 10 2,jB 11 .add 10 1,m 12 3,jB 13 .sub 12 1,m 2 11,m 3 13] [0,2,3]
def c39_1:zW:=jD [m 14 0,m 15 2,m 16 0,m 17 3,m 18 0,m 19 3,i 20 2 18 19,jL 21 2 20,m 22 0,m 23 2,i 24 2 22 23,jL 25 2 24,i 26 2 14 15,jO (.st 2 (.s 26) (.s 21)),i 27 2 16 17,jO (.st 2 (.s 27) (.s 25))] [[],[],[],[],[],[],[4,5],[6],[],[],[8,9],[10],[0,1,0,1,4,5,6,7,11],[12,7,0,1,4,5,6,7,11],[2,3,0,1,2,3,4,5,6,7,8,9,10,11,12,13],[14,11,13,0,1,2,3,4,5,6,7,8,9,10,11,12,13]] [0,2,3]
def c39_4:zW:=jS (jS (jR [m 7 2,m 8 3,b 9 .lss 7 8] [0,2,3,9]) (jC 9 .skip (.exit 0))) (jS (.block 1 c39_1) c39_0)
def c39:zW:=jS (jR [m 4 0,e 5 4,jB 6 .sub 5 1,jI 2 0,m 3 6] [0,2,3]) (.block 0 (.loop c39_4))
def r39:List q8:=[]
def n39:Nat:=28
def c40_0:zW:=jX [o 5 (.bsl true 6 [] []),m 6 0,o 7 (.app 6 96 (.s 5) (.s 6)),m 2 7] [2]
def c40_3:zW:=jS (jS (jR [m 3 0,o 4 (.nw (.eqn false (.s 3)))] [0,4]) (jC 4 (jX [o 2 (.cst (.zI))] [2]) .skip)) c40_0
def c40:zW:=jS (jR [o 2 (.cst (.zI))] [0]) c40_3
def r40:List q8:=[.tmp 2]
def n40:Nat:=8
def c41_0:zW:=jX [o 5 (.bsl true 1 [] []),m 6 0,o 7 (.app 1 8 (.s 5) (.s 6)),m 2 7] [2]
def c41_3:zW:=jS (jS (jR [m 3 0,o 4 (.nw (.eqn false (.s 3)))] [0,4]) (jC 4 (jX [o 2 (.cst (.zI))] [2]) .skip)) c41_0
def c41:zW:=jS (jR [o 2 (.cst (.zI))] [0]) c41_3
def r41:List q8:=[.tmp 2]
def n41:Nat:=8
def c42_2:zW:=jR [m 18 5,jL 19 9 7,o 20 (.call 24 [(.s 19)]),o 21 (.bsl false 9 [[.str [],.str [],.str [],.lst [],.str [],.lst [],.str [],.int .i64 0,.lst []]] [(0,(.s 20))]),o 22 (.app 9 160 (.s 18) (.s 21)),m 5 22] [1,5,8,9,10]
def c42_4:zW:=jS (jR [f 14 1 7,l 15 14,m 16 1,b 17 .eql 15 16] [1,5,7,8,9,10,17]) (jC 17 c42_2 .skip)
def c42_5:zW:=jS (jR [i 12 9 8 10,jL 13 9 12,o 7 (.alloc [.t (.str []),.t (.str []),.t (.str []),.zI,.t (.str []),.zI,.t (.str []),jN 0,.zI]),jO (.st 9 (.s 7) (.s 13))] [1,5,7,8,9,10]) c42_4
def c42_8:zW:=jS (jR [b 11 .lss 10 9] [1,5,8,9,10,11]) (jS (jC 11 .skip (.exit 0)) (jS (.block 1 c42_5) (jR [jB 23 .add 10 1,m 10 23] [1,5,8,9,10])))
def c42_11:zW:=jS (jS (jR [m 8 0,e 9 8,jI 10 0] [1,5,8,9,10]) (.block 0 (.loop c42_8))) (jX [m 24 5,m 4 24] [4])
def c42:zW:=jS (jR [o 4 (.cst (.zI))] [0,1]) (jS (jR [o 5 (.cst (.zI))] [0,1,5]) c42_11)
def r42:List q8:=[.tmp 4]
def n42:Nat:=25
def c43_0:zW:=jX [m 39 0,m 40 5,o 41 (.sll 3 (.s 39) none (some (.s 40))),m 4 41] [4]
def c43_1:zW:=jS (jR [m 36 0,m 37 5,o 38 (.sll 3 (.s 36) (some (.s 37)) none),jO (.nw (.zaS 3 [jN 0,jN 0,.zI] (.s 38)))] [0,5]) c43_0
def c43_2:zW:=jR [m 20 6,jB 21 .add 20 1,m 6 21] [0,1,5,6]
def c43_3:zW:=jR [m 34 5,jB 35 .add 34 1,m 5 35] [0,1,5,6]
def c43_4:zW:=jS (jR [m 30 0,m 31 5,jL 32 3 7,i 33 3 30 31,jO (.st 3 (.s 33) (.s 32))] [0,1,5,6]) c43_3
def c43_6:zW:=jS (jR [m 26 1,jL 27 3 7,o 28 (.z18 (.s 26) [(.s 27)]),u 29 28] [0,1,5,6,7,29]) (jC 29 c43_4 .skip)
def c43_7:zW:=jS (jR [m 22 0,m 23 6,i 24 3 22 23,jL 25 3 24,o 7 (.alloc [jN 0,jN 0,.zI]),jO (.st 3 (.s 7) (.s 25))] [0,1,5,6,7]) c43_6
def c43_10:zW:=jS (jS (jR [m 16 6,m 17 0,e 18 17,b 19 .lss 16 18] [0,1,5,6,19]) (jC 19 .skip (.exit 0))) (jS (.block 1 c43_7) c43_2)
def c43_13:zW:=jS (jS (jR [m 14 5,jB 15 .add 14 1,m 6 15] [0,1,5,6]) (.block 0 (.loop c43_10))) c43_1
def c43_16:zW:=jS (jS (jR [m 11 5,jB 12 .eql 11 (-1)] [0,1,5,12]) (jC 12 (jX [m 13 0,m 4 13] [4]) .skip)) c43_13
def c43_17:zW:=jS (jR [m 8 0,m 9 1,o 10 (.call 68 [(.s 8),(.s 9)]),m 5 10] [0,1,5]) c43_16
def c43:zW:=jS (jR [o 4 (.cst (.zI))] [0,1]) c43_17
def r43:List q8:=[.tmp 4]
def n43:Nat:=42
def c44_2:zW:=jR [jB 62 .add 30 1,m 30 62] [3,9,10,11,21,22,28,29,30]
def c44_3:zW:=jR [m 53 10,m 54 11,m 55 14,f 56 5 13,l 57 56,o 58 (.call 70 [(.s 57)]),o 59 (.build [jN 0,jN 0,.zI] [(0,1,(.s 54)),(1,1,(.s 55)),(2,1,(.s 58))]),o 60 (.bsl false 3 [[.int .i64 0,.int .i64 0,.lst []]] [(0,(.s 59))]),o 61 (.app 3 40 (.s 53) (.s 60)),m 10 61] [3,9,10,11,21,22,28,29,30]
def c44_5:zW:=jS (jR [m 51 14,jB 52 .gtr 51 0] [3,9,10,11,13,14,21,22,28,29,30,52]) (jC 52 c44_3 .skip)
def c44_6:zW:=jS (jR [m 48 9,jL 49 6 13,o 50 (.call 69 [(.s 48),(.s 49)]),m 14 50] [3,9,10,11,13,14,21,22,28,29,30]) c44_5
def c44_8:zW:=jS (jS (jR [f 34 1 13,l 35 34,m 36 3,b 37 .neq 35 36,m 38 37,gf 39 38 jF 2 13,gl 40 38 jF 39,gm 41 38 jF 11,gb 42 38 jF .neq 40 41,q 43 38 42,m 44 43,gf 45 44 jF 3 13,gl 46 44 jF 45,q 47 44 46] [3,9,10,11,13,21,22,28,29,30,47]) (jC 47 (.exit 3) .skip)) c44_6
def c44_9:zW:=jS (jR [i 32 6 28 30,jL 33 6 32,o 13 (.alloc [.t (.str []),.t (.str []),jN 0,.t (.bool false),.zI,.zI]),jO (.st 6 (.s 13) (.s 33))] [3,9,10,11,13,21,22,28,29,30]) c44_8
def c44_12:zW:=jS (jR [b 31 .lss 30 29] [3,9,10,11,21,22,28,29,30,31]) (jS (jC 31 .skip (.exit 2)) (jS (.block 3 c44_9) c44_2))
def c44_15:zW:=jS (jR [m 25 9,n 26 25,f 27 5 26,l 28 27,e 29 28,jI 30 0] [3,9,10,11,21,22,28,29,30]) (.block 2 (.loop c44_12))
def c44_16:zW:=jS (jR [m 24 22,m 11 24] [3,9,10,11,21,22]) c44_15
def c44_19:zW:=jS (jR [b 23 .lss 22 21] [3,9,10,21,22,23]) (jS (jC 23 .skip (.exit 0)) (jS (.block 1 c44_16) (jR [jB 63 .add 22 1,m 22 63] [3,9,10,21,22])))
def c44_22:zW:=jS (jS (jR [f 19 0 4,l 20 19,e 21 20,jI 22 0] [3,9,10,21,22]) (.block 0 (.loop c44_19))) (jX [m 64 10,m 8 64] [8])
def c44_23:zW:=jS (jR [o 10 (.cst (.zI))] [3,4,9,10]) c44_22
def c44_24:zW:=jS (jR [jL 15 4 4,m 16 1,m 17 2,o 18 (.call 56 [(.s 15),(.s 16),(.s 17)]),m 9 18] [3,4,9]) c44_23
def c44:zW:=jS (jR [o 4 (.box 4 (.s 0)),o 8 (.cst (.zI))] [1,2,3,4]) c44_24
def r44:List q8:=[.tmp 8]
def n44:Nat:=65
def c45_0:zW:=jX [l 5 1,f 6 0 3,l 7 6,l 8 2,o 9 (.call 46 [(.s 5),(.s 7),(.s 8)]),u 10 9,m 4 10] [4]
def c45:zW:=jS (jR [o 3 (.box 3 (.s 0)),o 4 (.cst (.t (.bool false)))] [1,2,3]) c45_0
def r45:List q8:=[.tmp 4]
def n45:Nat:=11
def c46_0:zW:=jX [m 7 0,n 8 7,f 9 0 8,f 10 3 9,l 11 10,o 12 (.zcV 71 [(.s 4),(.s 5)]),o 13 (.call 47 [(.s 11),(.s 12)]),m 6 13] [6]
def c46:zW:=jS (jR [o 4 (.box 1 (.s 1)),o 5 (.box 1 (.s 2)),o 6 (.cst (.t (.bool false)))] [0,4,5]) c46_0
def r46:List q8:=[.tmp 6]
def n46:Nat:=14
def c47_0:zW:=jX [m 5 0,m 6 1,o 7 (.call 72 [(.s 5),(.s 6)]),jB 8 .geq 7 0,m 4 8] [4]
def c47:zW:=jS (jR [o 4 (.cst (.t (.bool false)))] [0,1]) c47_0
def r47:List q8:=[.tmp 4]
def n47:Nat:=9
def c48_0:zW:=jX [f 5 0 3,l 6 5,l 7 1,b 8 .eql 6 7,m 9 8,gf 10 9 jT 2 3,gl 11 9 jT 10,gl 12 9 jT 2,gb 13 9 jT .eql 11 12,p 14 9 13,m 4 14] [4]
def c48:zW:=jS (jR [o 3 (.box 6 (.s 0)),o 4 (.cst (.t (.bool false)))] [1,2,3]) c48_0
def r48:List q8:=[.tmp 4]
def n48:Nat:=15
def c50_1:zW:=jR [m 25 8,jB 26 .add 25 1,m 8 26] [1,2,5,6,7,8]
def c50_2:zW:=jR [m 75 5,f 76 1 9,l 77 76,o 78 (.bsl false 1 [[.str []]] [(0,(.s 77))]),o 79 (.app 1 16 (.s 75) (.s 78)),m 5 79] [1,2,5,6,7,8]
def c50_5:zW:=jS (jR [m 62 10,m 63 62,gf 64 63 jF 0 6,gl 65 63 jF 64,gB 66 63 jF .eql 65 3,gm 67 63 jF 66,gL 68 67 jT 7 6,gf 69 67 jT 1 9,gl 70 67 jT 69,go 71 67 jT (.call 75 [(.s 68),(.s 70)]),go 72 63 jF (.pick (.s 67) (.s 71) (.c (.t (.bool false)))),q 73 63 72,m 10 73] [1,2,5,6,7,8,9,10]) (jS (jR [m 74 10] [1,2,5,6,7,8,9,74]) (jC 74 c50_2 .skip))
def c50_6:zW:=jS (jR [m 50 10,m 51 50,gf 52 51 jF 0 6,gl 53 51 jF 52,gB 54 51 jF .eql 53 2,gm 55 51 jF 54,gf 56 55 jT 2 9,gl 57 55 jT 56,gm 58 55 jT 1,go 59 55 jT (.call 74 [(.s 57),(.s 58)]),go 60 51 jF (.pick (.s 55) (.s 59) (.c (.t (.bool false)))),q 61 51 60,m 10 61] [1,2,5,6,7,8,9,10]) c50_5
def c50_7:zW:=jS (jR [f 41 0 6,l 42 41,jB 43 .eql 42 1,m 44 43,gf 45 44 jT 1 9,gl 46 44 jT 45,gm 47 44 jT 1,gb 48 44 jT .eql 46 47,p 49 44 48,m 10 49] [1,2,5,6,7,8,9,10]) c50_6
def c50_9:zW:=jS (jS (jR [f 32 0 9,l 33 32,jB 34 .neq 33 1,m 35 34,gL 36 35 jF 1 2,gm 37 35 jF 8,go 38 35 jF (.call 73 [(.s 36),(.s 37)]),go 39 35 jF (.un .not (.s 38)),q 40 35 39] [1,2,5,6,7,8,9,40]) (jC 40 (.exit 1) .skip)) c50_7
def c50_10:zW:=jS (jR [f 27 0 2,l 28 27,m 29 8,i 30 7 28 29,jL 31 7 30,o 9 (.alloc [jN 0,.t (.str []),.zI,.zI,.zI,.zI,.zI]),jO (.st 7 (.s 9) (.s 31))] [1,2,5,6,7,8,9]) c50_9
def c50_13:zW:=jS (jS (jR [m 17 8,f 18 0 2,l 19 18,e 20 19,b 21 .lss 17 20,m 22 21,gm 23 22 jT 7,p 24 22 23] [1,2,5,6,7,8,24]) (jC 24 .skip (.exit 0))) (jS (.block 1 c50_10) c50_1)
def c50_16:zW:=jS (jS (jR [jI 8 0] [1,2,5,6,7,8]) (.block 0 (.loop c50_13))) (jX [m 80 5,m 4 80] [4])
def c50_17:zW:=jS (jR [jL 12 1 2,m 13 1,o 14 (.call 37 [(.s 12),(.s 13)]),m 11 14,x 15 11 0,x 16 11 1,o 6 (.alloc [jN 0,.t (.str []),.zI,.zI,.zI,.zI,.zI]),jO (.st 7 (.s 6) (.s 15)),m 7 16] [1,2,5,6,7]) c50_16
def c50:zW:=jS (jR [o 2 (.box 1 (.s 0)),o 4 (.cst (.zI))] [1,2]) (jS (jR [o 5 (.cst (.zI))] [1,2,5]) c50_17)
def r50:List q8:=[.tmp 4]
def n50:Nat:=81
def c54_4:zW:=jS (jD [m 17 0,m 18 5,i 19 1 17 18,l 20 19,m 21 1,m 22 5,i 23 1 21 22,l 24 23,b 25 .neq 20 24] [[],[],[0,1],[2],[],[],[4,5],[6],[3,7]] [0,1,5,25]) (jC 25 (jX [o 4 (.cst (.t (.bool false)))] [4]) .skip)
def c54_7:zW:=jS (jS (jR [m 11 5,m 12 0,e 13 12,b 14 .lss 11 13] [0,1,5,14]) (jC 14 .skip (.exit 0))) (jS (.block 1 c54_4) (jR [m 15 5,jB 16 .add 15 1,m 5 16] [0,1,5]))
def c54_13:zW:=jS (jS (jR [m 6 0,e 7 6,m 8 1,e 9 8,b 10 .neq 7 9] [0,1,10]) (jC 10 (jX [o 4 (.cst (.t (.bool false)))] [4]) .skip)) (jS (jS (jR [jI 5 0] [0,1,5]) (.block 0 (.loop c54_7))) (jX [o 4 (.cst (.t (.bool true)))] [4]))
def c54:zW:=jS (jR [o 4 (.cst (.t (.bool false)))] [0,1]) c54_13
def r54:List q8:=[.tmp 4]
def n54:Nat:=26
def c55_1:zW:=jR [m 28 6,jB 29 .add 28 1,m 6 29] [2,3,5,6]
def c55_2:zW:=jD [f 58 3 2,l 59 58,m 60 6,i 61 5 59 60,jL 62 5 61,f 63 3 3,l 64 63,m 65 6,i 66 5 64 65,jL 67 5 66,o 68 (.call 55 [(.s 62),(.s 67)]),m 5 68] [[],[0],[],[1,2],[3],[],[5],[],[6,7],[8],[4,9],[10,10,0,1,2,3,4,5,6,7,8,9,10]] [2,3,5,6]
def c55_4:zW:=jS (jR [m 56 5,jB 57 .eql 56 0] [2,3,5,6,57]) (jC 57 c55_2 .skip)
def c55_5:zW:=jS (jD [jL 49 5 2,m 50 6,o 51 (.call 78 [(.s 49),(.s 50)]),jL 52 5 3,m 53 6,o 54 (.call 78 [(.s 52),(.s 53)]),o 55 (.call 77 [(.s 51),(.s 54)]),m 5 55] [[],[],[0,1],[],[],[3,4,2],[2,5,5],[6,6,0,1,2,3,4,5,6]] [2,3,5,6]) c55_4
def c55_6:zW:=jX [f 42 3 2,l 43 42,e 44 43,f 45 3 3,l 46 45,e 47 46,o 48 (.call 76 [(.s 44),(.s 47)]),m 4 48] [4]
def c55_8:zW:=jS (jS (jR [m 30 6,f 31 3 2,l 32 31,e 33 32,b 34 .geq 30 33,m 35 34,gm 36 35 jF 6,gf 37 35 jF 3 3,gl 38 35 jF 37,ge 39 35 jF 38,gb 40 35 jF .geq 36 39,q 41 35 40] [2,3,6,41]) (jC 41 c55_6 .skip)) c55_5
def c55_11:zW:=jS (jS (jR [m 26 5,jB 27 .eql 26 0] [2,3,5,6,27]) (jC 27 .skip (.exit 0))) (jS (.block 1 c55_8) c55_1)
def c55_14:zW:=jS (jS (jR [jI 6 0] [2,3,5,6]) (.block 0 (.loop c55_11))) (jX [m 69 5,m 4 69] [4])
def c55_15:zW:=jR [f 21 2 2,l 22 21,f 23 2 3,l 24 23,o 25 (.call 77 [(.s 22),(.s 24)]),m 5 25] [2,3,5]
def c55_17:zW:=jS (jS (jR [m 19 5,jB 20 .eql 19 0] [2,3,5,20]) (jC 20 c55_15 .skip)) c55_14
def c55_18:zW:=jR [f 14 1 2,l 15 14,f 16 1 3,l 17 16,o 18 (.call 76 [(.s 15),(.s 17)]),m 5 18] [2,3,5]
def c55_20:zW:=jS (jS (jR [m 12 5,jB 13 .eql 12 0] [2,3,5,13]) (jC 13 c55_18 .skip)) c55_17
def c55_21:zW:=jS (jR [f 7 0 2,l 8 7,f 9 0 3,l 10 9,o 11 (.call 76 [(.s 8),(.s 10)]),m 5 11] [2,3,5]) c55_20
def c55:zW:=jS (jR [o 2 (.box 5 (.s 0)),o 3 (.box 5 (.s 1)),jI 4 0] [2,3]) c55_21
def r55:List q8:=[.tmp 4]
def n55:Nat:=70
def c56_3:zW:=jS (jS (jR [m 162 7,o 163 (.call 81 [(.s 162)])] [7,163]) (jC 163 .skip (.exit 6))) (.block 7 .skip)
def c56_6:zW:=jR [jB 161 .add 130 1,m 130 161] [1,3,7,128,129,130]
def c56_7:zW:=jD [m 151 7,m 152 7,n 153 152,f 154 6 153,l 155 154,jL 156 3 15,o 157 (.bsl false 3 [[.str [],.int .i64 0,.lst []]] [(0,(.s 156))]),o 158 (.app 3 48 (.s 155) (.s 157)),n 159 151,f 160 6 159,jO (.st 1 (.s 160) (.s 158))] [[],[],[1],[2],[3],[],[5],[4,6],[0,0,1,2,3,4,5,6,7],[8,0,1,2,3,4,5,6,7],[9,7,7,0,1,2,3,4,5,6,7]] [1,3,7,128,129,130]
def c56_9:zW:=jS (jR [f 134 0 15,l 135 134,m 136 1,b 137 .eql 135 136,m 138 137,gf 139 138 jT 1 15,gl 140 138 jT 139,gB 141 138 jT .geq 140 0,p 142 138 141,m 143 142,gf 144 143 jT 1 15,gl 145 143 jT 144,gf 146 143 jT 0 3,gl 147 143 jT 146,ge 148 143 jT 147,gb 149 143 jT .lss 145 148,p 150 143 149] [1,3,7,15,128,129,130,150]) (jC 150 c56_7 .skip)
def c56_10:zW:=jS (jR [i 132 3 128 130,jL 133 3 132,o 15 (.alloc [.t (.str []),jN 0,.zI]),jO (.st 3 (.s 15) (.s 133))] [1,3,7,15,128,129,130]) c56_9
def c56_13:zW:=jS (jR [b 131 .lss 130 129] [1,3,7,128,129,130,131]) (jS (jC 131 .skip (.exit 4)) (jS (.block 5 c56_10) c56_6))
def c56_16:zW:=jS (jS (jR [f 127 2 3,l 128 127,e 129 128,jI 130 0] [1,3,7,128,129,130]) (.block 4 (.loop c56_13))) (jS (.block 6 (.loop c56_3)) (jX [m 164 7,m 6 164] [6]))
def c56_17:zW:=jR [jB 126 .add 82 1,m 82 126] [1,3,7,10,80,81,82]
def c56_18:zW:=jD [m 116 7,m 117 7,n 118 117,f 119 5 118,l 120 119,jL 121 6 12,o 122 (.bsl false 6 [[.str [],.str [],.int .i64 0,.bool false,.lst [],.lst []]] [(0,(.s 121))]),o 123 (.app 6 96 (.s 120) (.s 122)),n 124 116,f 125 5 124,jO (.st 1 (.s 125) (.s 123))] [[],[],[1],[2],[3],[],[5],[4,6],[0,0,1,2,3,4,5,6,7],[8,0,1,2,3,4,5,6,7],[9,7,7,0,1,2,3,4,5,6,7]] [1,3,7,10,80,81,82]
def c56_19:zW:=jS (jR [m 114 10,jL 115 3 13,jO (.nw (.zb3 [.str,.int .i64,.int .i64] true (.s 114) (.s 115) (.c (.t (.bool true)))))] [1,3,7,10,12,80,81,82]) c56_18
def c56_21:zW:=jS (jR [f 91 0 12,l 92 91,m 93 1,b 94 .eql 92 93,m 95 94,gf 96 95 jT 2 12,gl 97 95 jT 96,gB 98 95 jT .geq 97 0,p 99 95 98,m 100 99,gf 101 100 jT 2 12,gl 102 100 jT 101,gf 103 100 jT 0 3,gl 104 100 jT 103,ge 105 100 jT 104,gb 106 100 jT .lss 102 105,p 107 100 106,m 108 107,gm 109 108 jT 10,gL 110 108 jT 3 13,go 111 108 jT (.nw (.lookup [.str,.int .i64,.int .i64] true (.t (.bool false)) false (.s 109) (.s 110))),go 112 108 jT (.un .not (.s 111)),p 113 108 112] [1,3,7,10,12,13,80,81,82,113]) (jC 113 c56_19 .skip)
def c56_22:zW:=jS (jR [f 86 1 12,l 87 86,f 88 2 12,l 89 88,o 90 (.build [.t (.str []),jN 0,jN 0] [(0,1,(.s 87)),(1,1,(.s 89))]),o 13 (.alloc [.t (.str []),jN 0,jN 0]),jO (.st 3 (.s 13) (.s 90))] [1,3,7,10,12,13,80,81,82]) c56_21
def c56_23:zW:=jS (jR [i 84 6 80 82,jL 85 6 84,o 12 (.alloc [.t (.str []),.t (.str []),jN 0,.t (.bool false),.zI,.zI]),jO (.st 6 (.s 12) (.s 85))] [1,3,7,10,12,80,81,82]) c56_22
def c56_26:zW:=jS (jR [b 83 .lss 82 81] [1,3,7,10,80,81,82,83]) (jS (jC 83 .skip (.exit 2)) (jS (.block 3 c56_23) c56_17))
def c56_29:zW:=jS (jS (jR [f 79 3 3,l 80 79,e 81 80,jI 82 0] [1,3,7,10,80,81,82]) (.block 2 (.loop c56_26))) c56_16
def c56_30:zW:=jS (jR [o 78 (.z2p true false),m 10 78] [1,3,7,10]) c56_29
def c56_31:zW:=jR [jB 77 .add 28 1,m 28 77] [1,3,7,26,27,28]
def c56_32:zW:=jD [m 63 7,f 64 0 9,l 65 64,o 66 (.call 80 [(.s 63),(.s 65)]),m 67 7,f 68 0 9,l 69 68,o 70 (.call 80 [(.s 67),(.s 69)]),n 71 70,l 72 71,f 73 1 9,l 74 73,o 75 (.call 79 [(.s 72),(.s 74)]),n 76 66,jO (.st 1 (.s 76) (.s 75))] [[],[],[1],[0,2],[],[],[5],[4,6,3],[7],[8],[],[10],[9,11,7],[3,0,1,2,3,4,5,6,7,8,9,10,11,12],[13,12,12,0,1,2,3,4,5,6,7,8,9,10,11,12]] [1,3,7,26,27,28]
def c56_33:zW:=jS (jD [m 53 7,m 54 7,n 55 54,f 56 4 55,l 57 56,jL 58 3 9,o 59 (.bsl false 3 [[.int .i64 0,.int .i64 0,.lst []]] [(0,(.s 58))]),o 60 (.app 3 40 (.s 57) (.s 59)),n 61 53,f 62 4 61,jO (.st 1 (.s 62) (.s 60))] [[],[],[1],[2],[3],[],[5],[4,6],[0,0,1,2,3,4,5,6,7],[8,0,1,2,3,4,5,6,7],[9,7,7,0,1,2,3,4,5,6,7]] [1,3,7,9,26,27,28]) c56_32
def c56_35:zW:=jS (jR [f 32 0 9,l 33 32,jB 34 .geq 33 0,m 35 34,gf 36 35 jT 0 9,gl 37 35 jT 36,gf 38 35 jT 0 3,gl 39 35 jT 38,ge 40 35 jT 39,gb 41 35 jT .lss 37 40,p 42 35 41,m 43 42,gf 44 43 jT 1 9,gl 45 43 jT 44,gB 46 43 jT .geq 45 1,p 47 43 46,m 48 47,gf 49 48 jT 1 9,gl 50 48 jT 49,gB 51 48 jT .leq 50 1099511627776,p 52 48 51] [1,3,7,9,26,27,28,52]) (jC 52 c56_33 .skip)
def c56_36:zW:=jS (jR [i 30 3 26 28,jL 31 3 30,o 9 (.alloc [jN 0,jN 0,.zI]),jO (.st 3 (.s 9) (.s 31))] [1,3,7,9,26,27,28]) c56_35
def c56_39:zW:=jS (jR [b 29 .lss 28 27] [1,3,7,26,27,28,29]) (jS (jC 29 .skip (.exit 0)) (jS (.block 1 c56_36) c56_31))
def c56_42:zW:=jS (jS (jR [m 26 2,e 27 26,jI 28 0] [1,3,7,26,27,28]) (.block 0 (.loop c56_39))) c56_30
def c56_43:zW:=jS (jD [jL 16 4 3,o 17 (.z2p false false),f 18 0 3,l 19 18,e 20 19,jB 21 .quo 20 8,jB 22 .add 21 1,o 23 (.z3k 8 64 [jN 0,jN 0,jN 0,jN 0,jN 0,jN 0,jN 0,jN 0] (.s 22)),o 24 (.build [.zI,.zI,.zI,.zI,.zI,.zI,.zI,.zI,.t (.Qi)] [(0,4,(.s 16)),(8,1,(.s 17)),(7,1,(.s 23))]),o 25 (.box 9 (.s 24)),m 7 25] [[],[],[],[2],[3],[4],[5],[6,6],[0,1,7],[8],[9,0,1,2,3,4,5,6,7,8,9]] [1,2,3,7]) c56_42
def c56:zW:=jS (jR [o 3 (.box 4 (.s 0)),o 6 (.cst (.t (.z0D)))] [1,2,3]) c56_43
def r56:List q8:=[.tmp 6]
def n56:Nat:=165
def c57_2:zW:=jR [m 24 5,m 25 0,m 26 6,o 27 (.call 80 [(.s 25),(.s 26)]),n 28 27,l 29 28,o 30 (.call 79 [(.s 24),(.s 29)]),m 5 30] [0,5,20,21]
def c57_3:zW:=jS (jR [m 23 21,m 6 23] [0,5,6,20,21]) c57_2
def c57_6:zW:=jS (jR [b 22 .lss 21 20] [0,5,20,21,22]) (jS (jC 22 .skip (.exit 0)) (jS (.block 1 c57_3) (jR [jB 31 .add 21 1,m 21 31] [0,5,20,21])))
def c57_9:zW:=jS (jR [m 15 0,n 16 15,f 17 0 16,f 18 0 17,l 19 18,e 20 19,jI 21 0] [0,5,20,21]) (.block 0 (.loop c57_6))
def c57_11:zW:=jS (jS (jR [m 13 1,o 14 (.bin .eql (.s 13) (.c (.t (.str [95,95,116,121,112,101,110,97,109,101]))))] [0,5,14]) (jC 14 c57_9 .skip)) (jX [m 32 5,m 4 32] [4])
def c57_12:zW:=jS (jR [m 7 0,n 8 7,f 9 8 8,l 10 9,m 11 1,o 12 (.nw (.lookup [.str] false (jN 0) false (.s 10) (.s 11))),m 5 12] [0,1,5]) c57_11
def c57:zW:=jS (jR [jI 4 0] [0,1]) c57_12
def r57:List q8:=[.tmp 4]
def n57:Nat:=33
def c60_0:zW:=jX [o 21 (.build [jN 0,.t (.str []),.zI,.zI,.zI,.zI,.zI] []),jO (.st 7 (.s 4) (.s 21)),o 5 (.cst (.t (.bool false)))] [4,5]
def c60_2:zW:=jX [jL 19 7 7,jO (.st 7 (.s 4) (.s 19)),o 5 (.cst (.t (.bool true)))] [4,5]
def c60_4:zW:=jS (jR [f 15 1 7,l 16 15,m 17 1,b 18 .eql 16 17] [1,4,7,9,10,11,18]) (jC 18 c60_2 .skip)
def c60_5:zW:=jS (jR [i 13 7 9 11,jL 14 7 13,o 7 (.alloc [jN 0,.t (.str []),.zI,.zI,.zI,.zI,.zI]),jO (.st 7 (.s 7) (.s 14))] [1,4,7,9,10,11]) c60_4
def c60_8:zW:=jS (jR [b 12 .lss 11 10] [1,4,9,10,11,12]) (jS (jC 12 .skip (.exit 0)) (jS (.block 1 c60_5) (jR [jB 20 .add 11 1,m 11 20] [1,4,9,10,11])))
def c60_11:zW:=jS (jS (jR [f 8 0 2,l 9 8,e 10 9,jI 11 0] [1,4,9,10,11]) (.block 0 (.loop c60_8))) c60_0
def c60:zW:=jS (jR [o 2 (.box 1 (.s 0)),o 4 (.alloc [jN 0,.t (.str []),.zI,.zI,.zI,.zI,.zI]),o 5 (.cst (.t (.bool false)))] [1,2,4]) c60_11
def r60:List q8:=[.cell 4 true 7,.tmp 5]
def n60:Nat:=22
def c61_0:zW:=jX [f 5 2 2,l 6 5,m 7 1,o 8 (.call 85 [(.s 6),(.s 7)]),m 4 8] [4]
def c61:zW:=jS (jR [o 2 (.box 7 (.s 0)),o 4 (.cst (.t (.bool false)))] [1,2]) c61_0
def r61:List q8:=[.tmp 4]
def n61:Nat:=9
def c62_1:zW:=jX [f 58 4 1,l 59 58,o 60 (.call 88 [(.s 59)]),m 61 60,gm 62 61 jT 6,p 63 61 62,m 64 63,gm 65 64 jT 7,p 66 64 65,m 2 66] [2]
def c62_2:zW:=jX [m 69 4,m 70 69,gf 71 70 jT 4 1,gl 72 70 jT 71,go 73 70 jT (.call 88 [(.s 72)]),p 74 70 73,m 75 74,gm 76 75 jT 6,p 77 75 76,m 78 77,gm 79 78 jT 7,p 80 78 79,m 2 80] [2]
def c62_3:zW:=jS (jR [m 83 4,m 84 83,gm 85 84 jT 5,p 86 84 85,m 87 86,gf 88 87 jT 5 1,gl 89 87 jT 88,go 90 87 jT (.call 89 [(.s 89),(.c (.t (.bool true)))]),p 91 87 90,m 92 91,gm 93 92 jT 7,p 94 92 93,m 2 94] [2]) .ret
def c62_4:zW:=jS (jR [m 97 4,m 98 97,gm 99 98 jT 5,p 100 98 99,m 101 100,gf 102 101 jT 5 1,gl 103 101 jT 102,go 104 101 jT (.call 89 [(.s 103),(.c (.t (.bool false)))]),p 105 101 104,m 106 105,gm 107 106 jT 7,p 108 106 107,m 2 108] [2]) .ret
def c62_5:zW:=jX [m 111 4,m 112 111,gm 113 112 jT 5,p 114 112 113,m 115 114,gm 116 115 jT 6,p 117 115 116,m 118 117,gf 119 118 jT 6 1,gl 120 118 jT 119,ge 121 118 jT 120,gB 122 118 jT .gtr 121 0,p 123 118 122,m 124 123,gf 125 124 jT 6 1,gl 126 124 jT 125,go 127 124 jT (.call 90 [(.s 126)]),p 128 124 127,m 2 128] [2]
def c62_7:zW:=jS (jR [jB 110 .eql 55 5,m 109 110] [1,4,5,6,109]) (jC 109 c62_5 .skip)
def c62_9:zW:=jS (jR [jB 96 .eql 55 4,m 95 96] [1,4,5,6,7,55,95]) (jC 95 c62_4 c62_7)
def c62_11:zW:=jS (jR [jB 82 .eql 55 3,m 81 82] [1,4,5,6,7,55,81]) (jC 81 c62_3 c62_9)
def c62_13:zW:=jS (jR [jB 68 .eql 55 2,m 67 68] [1,4,5,6,7,55,67]) (jC 67 c62_2 c62_11)
def c62_15:zW:=jS (jR [jB 57 .eql 55 1,m 56 57] [1,4,5,6,7,55,56]) (jC 56 c62_1 c62_13)
def c62_17:zW:=jS (jS (jR [f 54 0 1,l 55 54] [1,4,5,6,7,55]) (.block 2 c62_15)) (jX [o 2 (.cst (.t (.bool false)))] [2])
def c62_18:zW:=jS (jD [f 38 2 1,l 39 38,e 40 39,jB 41 .eql 40 0,f 42 4 1,l 43 42,e 44 43,jB 45 .eql 44 0,f 46 5 1,l 47 46,e 48 47,jB 49 .eql 48 0,f 50 6 1,l 51 50,e 52 51,jB 53 .eql 52 0,m 4 41,m 5 45,m 6 49,m 7 53] [[],[0],[1],[2],[],[4],[5],[6],[],[8],[9],[10],[],[12],[13],[14],[3,0,1,2,3],[7,16,0,1,2,3,4,5,6,7,16],[11,17,0,1,2,3,4,5,6,7,8,9,10,11,16,17],[15,18,0,1,2,3,4,5,6,7,8,9,10,11,12,13,14,15,16,17,18]] [1,4,5,6,7]) c62_17
def c62_22:zW:=jS (jR [f 31 2 1,l 32 31,m 33 3,i 34 1 32 33,l 35 34,o 36 (.call 86 [(.s 35)]),u 37 36] [1,3,37]) (jC 37 (jX [o 2 (.cst (.t (.bool false)))] [2]) .skip)
def c62_25:zW:=jS (jS (jR [m 24 3,f 25 2 1,l 26 25,e 27 26,b 28 .lss 24 27] [1,3,28]) (jC 28 .skip (.exit 0))) (jS (.block 1 c62_22) (jR [m 29 3,jB 30 .add 29 1,m 3 30] [1,3]))
def c62_31:zW:=jS (jS (jR [f 8 1 1,l 9 8,o 10 (.call 86 [(.s 9)]),u 11 10,m 12 11,gf 13 12 jF 3 1,gl 14 12 jF 13,go 15 12 jF (.call 87 [(.s 14)]),go 16 12 jF (.un .not (.s 15)),q 17 12 16,m 18 17,gf 19 18 jF 2 1,gl 20 18 jF 19,ge 21 18 jF 20,gB 22 18 jF .gtr 21 64,q 23 18 22] [1,23]) (jC 23 (jX [o 2 (.cst (.t (.bool false)))] [2]) .skip)) (jS (jS (jR [jI 3 0] [1,3]) (.block 0 (.loop c62_25))) c62_18)
def c62:zW:=jS (jR [o 1 (.box 7 (.s 0)),o 2 (.cst (.t (.bool false)))] [1]) c62_31
def r62:List q8:=[.tmp 2]
def n62:Nat:=129
def c63_1:zW:=jR [m 64 5,o 65 (.build [jN 0,.t (.str [])] [(0,1,(.c (jN 30))),(1,1,(.c (.t (.str [81,117,101,114,121]))))]),o 66 (.bsl false 2 [[.int .i64 0,.str []]] [(0,(.s 65))]),o 67 (.app 2 24 (.s 64) (.s 66)),m 5 67] [5]
def c63_3:zW:=jS (jS (jR [m 59 1,m 60 59,gm 61 60 jT 9,go 62 60 jT (.un .not (.s 61)),p 63 60 62] [5,63]) (jC 63 c63_1 .skip)) (jX [m 68 5,m 4 68] [4])
def c63_4:zW:=jS (jR [jL 55 1 2,o 56 (.call 37 [(.s 55),(.c (.t (.str [81,117,101,114,121])))]),m 54 56,x 57 54 0,x 58 54 1,o 8 (.alloc [jN 0,.t (.str []),.zI,.zI,.zI,.zI,.zI]),jO (.st 7 (.s 8) (.s 57)),m 9 58] [1,5,9]) c63_3
def c63_5:zW:=jR [m 15 6,jB 16 .add 15 1,m 6 16] [1,2,5,6]
def c63_6:zW:=jR [m 32 5,jL 33 1 2,jL 34 7 7,o 35 (.call 92 [(.s 33),(.s 34)]),o 36 (.app 2 24 (.s 32) (.s 35)),m 5 36] [1,2,5,6]
def c63_7:zW:=jR [m 39 5,jL 40 7 7,o 41 (.call 93 [(.s 40)]),o 42 (.app 2 24 (.s 39) (.s 41)),m 5 42] [1,2,5,6]
def c63_8:zW:=jR [m 45 5,jL 46 1 2,f 47 6 7,l 48 47,f 49 1 7,l 50 49,o 51 (.bin .add (.s 50) (.c (.t (.str [46])))),o 52 (.call 94 [(.s 46),(.s 48),(.s 51),(.c (.t (.str [])))]),o 53 (.app 2 24 (.s 45) (.s 52)),m 5 53] [1,2,5,6]
def c63_10:zW:=jS (jR [jB 44 .eql 28 5,m 43 44] [1,2,5,6,7,43]) (jC 43 c63_8 .skip)
def c63_12:zW:=jS (jR [jB 38 .eql 28 4,m 37 38] [1,2,5,6,7,28,37]) (jC 37 c63_7 c63_10)
def c63_14:zW:=jR [jB 31 .eql 28 2,m 29 31] [1,2,5,6,7,28,29]
def c63_16:zW:=jS (jS (jR [jB 30 .eql 28 1,m 29 30] [1,2,5,6,7,28,29]) (jC 29 .skip c63_14)) (jC 29 c63_6 c63_12)
def c63_18:zW:=jS (jR [f 27 0 7,l 28 27] [1,2,5,6,7,28]) (.block 2 c63_16)
def c63_19:zW:=jS (jR [m 22 5,jL 23 1 2,m 24 6,o 25 (.call 91 [(.s 23),(.s 24)]),o 26 (.app 2 24 (.s 22) (.s 25)),m 5 26] [1,2,5,6,7]) c63_18
def c63_20:zW:=jS (jR [f 17 0 2,l 18 17,m 19 6,i 20 7 18 19,jL 21 7 20,o 7 (.alloc [jN 0,.t (.str []),.zI,.zI,.zI,.zI,.zI]),jO (.st 7 (.s 7) (.s 21))] [1,2,5,6,7]) c63_19
def c63_23:zW:=jS (jS (jR [m 10 6,f 11 0 2,l 12 11,e 13 12,b 14 .lss 10 13] [1,2,5,6,14]) (jC 14 .skip (.exit 0))) (jS (.block 1 c63_20) c63_5)
def c63_26:zW:=jS (jS (jR [jI 6 0] [1,2,5,6]) (.block 0 (.loop c63_23))) c63_4
def c63:zW:=jS (jR [o 2 (.box 1 (.s 0)),o 4 (.cst (.zI))] [1,2]) (jS (jR [o 5 (.cst (.zI))] [1,2,5]) c63_26)
def r63:List q8:=[.tmp 4]
def n63:Nat:=69
def c64_2:zW:=jD [m 20 3,jL 21 1 1,f 22 0 1,l 23 22,m 24 4,i 25 7 23 24,jL 26 7 25,o 27 (.call 95 [(.s 21),(.s 26)]),o 28 (.app 2 24 (.s 20) (.s 27)),m 3 28] [[],[],[],[2],[],[3,4],[5],[1,6],[0,7,7],[8,8,0,1,2,3,4,5,6,7,8]] [1,3,4]
def c64_3:zW:=jD [m 31 3,jL 32 1 1,f 33 0 1,l 34 33,m 35 4,i 36 7 34 35,jL 37 7 36,o 38 (.call 96 [(.s 32),(.s 37)]),o 39 (.app 2 24 (.s 31) (.s 38)),m 3 39] [[],[],[],[2],[],[3,4],[5],[1,6],[0,7,7],[8,8,0,1,2,3,4,5,6,7,8]] [1,3,4]
def c64_5:zW:=jS (jR [jB 30 .eql 17 3,m 29 30] [1,3,4,29]) (jC 29 c64_3 .skip)
def c64_7:zW:=jS (jR [jB 19 .eql 17 1,m 18 19] [1,3,4,17,18]) (jC 18 c64_2 c64_5)
def c64_9:zW:=jS (jR [f 12 0 1,l 13 12,m 14 4,i 15 7 13 14,f 16 0 15,l 17 16] [1,3,4,17]) (.block 2 c64_7)
def c64_12:zW:=jS (jS (jR [m 5 4,f 6 0 1,l 7 6,e 8 7,b 9 .lss 5 8] [1,3,4,9]) (jC 9 .skip (.exit 0))) (jS (.block 1 c64_9) (jR [m 10 4,jB 11 .add 10 1,m 4 11] [1,3,4]))
def c64:zW:=jS (jR [o 1 (.box 1 (.s 0)),o 2 (.cst (.zI))] [1]) (jS (jR [o 3 (.cst (.zI))] [1,3]) (jS (jS (jR [jI 4 0] [1,3,4]) (.block 0 (.loop c64_12))) (jX [m 40 3,m 2 40] [2])))
def r64:List q8:=[.tmp 2]
def n64:Nat:=41
def c65_2:zW:=jR [m 46 3,jL 47 1 1,f 48 6 5,l 49 48,f 50 1 5,l 51 50,o 52 (.call 97 [(.s 47),(.s 49),(.s 51),(.c (.t (.str [46]))),(.c (.t (.str [])))]),o 53 (.app 2 24 (.s 46) (.s 52)),m 3 53] [1,3,4]
def c65_3:zW:=jR [m 24 6,jB 25 .add 24 1,m 6 25] [1,3,4,5,6]
def c65_4:zW:=jD [m 26 3,jL 27 1 1,f 28 4 5,l 29 28,m 30 6,i 31 5 29 30,f 32 1 31,l 33 32,f 34 1 5,l 35 34,o 36 (.bin .add (.s 35) (.c (.t (.str [46])))),f 37 4 5,l 38 37,m 39 6,i 40 5 38 39,f 41 0 40,l 42 41,b 43 .add 36 42,o 44 (.call 97 [(.s 27),(.s 33),(.s 43),(.c (.t (.str [40]))),(.c (.t (.str [41])))]),o 45 (.app 2 24 (.s 26) (.s 44)),m 3 45] [[],[],[],[2],[],[3,4],[5],[6],[],[8],[9],[],[11],[],[12,13],[14],[15],[10,16],[1,7,17],[0,18,18],[19,19,0,1,2,3,4,5,6,7,8,9,10,11,12,13,14,15,16,17,18,19]] [1,3,4,5,6]
def c65_7:zW:=jS (jS (jR [m 19 6,f 20 4 5,l 21 20,e 22 21,b 23 .lss 19 22] [1,3,4,5,6,23]) (jC 23 .skip (.exit 2))) (jS (.block 3 c65_4) c65_3)
def c65_10:zW:=jS (jS (jR [jI 6 0] [1,3,4,5,6]) (.block 2 (.loop c65_7))) c65_2
def c65_11:zW:=jS (jR [f 14 0 1,l 15 14,m 16 4,i 17 7 15 16,jL 18 7 17,o 5 (.alloc [jN 0,.t (.str []),.zI,.zI,.zI,.zI,.zI]),jO (.st 7 (.s 5) (.s 18))] [1,3,4,5]) c65_10
def c65_14:zW:=jS (jS (jR [m 7 4,f 8 0 1,l 9 8,e 10 9,b 11 .lss 7 10] [1,3,4,11]) (jC 11 .skip (.exit 0))) (jS (.block 1 c65_11) (jR [m 12 4,jB 13 .add 12 1,m 4 13] [1,3,4]))
def c65:zW:=jS (jR [o 1 (.box 1 (.s 0)),o 2 (.cst (.zI))] [1]) (jS (jR [o 3 (.cst (.zI))] [1,3]) (jS (jS (jR [jI 4 0] [1,3,4]) (.block 0 (.loop c65_14))) (jX [m 54 3,m 2 54] [2])))
def r65:List q8:=[.tmp 2]
def n65:Nat:=55
def c66_4:zW:=jS (jR [m 12 0,m 13 5,i 14 1 12 13,l 15 14,m 16 1,b 17 .eql 15 16] [0,1,5,17]) (jC 17 (jX [m 18 5,m 4 18] [4]) .skip)
def c66_7:zW:=jS (jS (jR [m 6 5,m 7 0,e 8 7,b 9 .lss 6 8] [0,1,5,9]) (jC 9 .skip (.exit 0))) (jS (.block 1 c66_4) (jR [m 10 5,jB 11 .add 10 1,m 5 11] [0,1,5]))
def c66:zW:=jS (jR [jI 4 0] [0,1]) (jS (jS (jR [jI 5 0] [0,1,5]) (.block 0 (.loop c66_7))) (jX [jI 4 (-1)] [4]))
def r66:List q8:=[.tmp 4]
def n66:Nat:=19
def c67_0:zW:=jX [f 94 8 3,l 95 94,e 96 95,jB 97 .eql 96 0,m 98 97,gL 99 98 jF 1 2,gf 100 98 jF 4 3,gf 101 98 jF 0 100,gl 102 98 jF 101,go 103 98 jF (.call 103 [(.s 99),(.s 102)]),go 104 98 jF (.un .not (.s 103)),q 105 98 104,m 4 105] [4]
def c67_3:zW:=jS (jS (jR [m 75 8,u 76 75,m 77 76,gf 78 77 jF 2 7,gL 79 77 jF 2 78,gf 80 77 jF 4 3,gL 81 77 jF 2 80,go 82 77 jF (.call 30 [(.s 79),(.s 81)]),go 83 77 jF (.un .not (.s 82)),q 84 77 83,m 85 84,gL 86 85 jF 1 2,gf 87 85 jF 1 7,gl 88 85 jF 87,gf 89 85 jF 3 3,gl 90 85 jF 89,go 91 85 jF (.call 102 [(.s 86),(.s 88),(.s 90)]),go 92 85 jF (.un .not (.s 91)),q 93 85 92] [2,3,93]) (jC 93 (jX [o 4 (.cst (.t (.bool false)))] [4]) .skip)) c67_0
def c67_4:zW:=jS (jR [jL 69 7 5,f 70 2 3,l 71 70,o 72 (.call 101 [(.s 69),(.s 71)]),m 68 72,x 73 68 0,x 74 68 1,o 7 (.alloc [.t (.str []),.zI,.t (.str []),.zI,.zI]),jO (.st 5 (.s 7) (.s 73)),m 8 74] [2,3,7,8]) c67_3
def c67_5:zW:=jS (jR [jL 62 1 2,f 63 1 3,l 64 63,o 65 (.call 37 [(.s 62),(.s 64)]),m 61 65,x 66 61 0,x 67 61 1,o 5 (.alloc [jN 0,.t (.str []),.zI,.zI,.zI,.zI,.zI]),jO (.st 7 (.s 5) (.s 66)),m 6 67] [2,3,5]) c67_4
def c67_6:zW:=jS (jD [f 45 4 3,jL 46 2 45,o 47 (.call 100 []),o 48 (.call 30 [(.s 46),(.s 47)]),m 49 48,gf 50 49 jT 3 3,gl 51 49 jT 50,ge 52 49 jT 51,gB 53 49 jT .eql 52 0,p 54 49 53,m 55 54,gf 56 55 jT 8 3,gl 57 55 jT 56,ge 58 55 jT 57,gB 59 55 jT .eql 58 0,p 60 55 59,m 4 60] [[],[0],[],[1,2,2],[3,3],[4],[5,4],[6,4],[7,4],[4,8],[9,4],[10],[11,10],[12,10],[13,10],[10,14],[15,10,0,1,2,3,4,5,6,7,8,9,10,11,12,13,14,15]] [4]) .ret
def c67_8:zW:=jS (jS (jR [f 42 2 3,l 43 42,o 44 (.bin .eql (.s 43) (.c (.t (.str [95,95,116,121,112,101,110,97,109,101]))))] [2,3,44]) (jC 44 c67_6 .skip)) c67_5
def c67_11:zW:=jS (jS (jR [f 23 0 3,l 24 23,o 25 (.call 86 [(.s 24)]),u 26 25,m 27 26,gf 28 27 jF 0 3,gl 29 27 jF 28,go 30 27 jF (.call 99 [(.s 29)]),gm 31 27 jF 30,gf 32 31 jT 0 3,gl 33 31 jT 32,go 34 31 jT (.bin .neq (.s 33) (.c (.t (.str [95,95,116,121,112,101,110,97,109,101])))),gm 35 31 jT 34,gf 36 35 jF 2 3,gl 37 35 jF 36,go 38 35 jF (.bin .neq (.s 37) (.c (.t (.str [95,95,116,121,112,101,110,97,109,101])))),go 39 31 jT (.pick (.s 35) (.c (.t (.bool true))) (.s 38)),go 40 27 jF (.pick (.s 31) (.s 39) (.c (.t (.bool false)))),q 41 27 40] [2,3,41]) (jC 41 (jX [o 4 (.cst (.t (.bool false)))] [4]) .skip)) c67_8
def c67_14:zW:=jS (jS (jR [f 9 7 3,l 10 9,jB 11 .lss 10 (-1),m 12 11,gf 13 12 jF 7 3,gl 14 12 jF 13,gB 15 12 jF .geq 14 0,gm 16 12 jF 15,gf 17 16 jT 4 3,gL 18 16 jT 2 17,go 19 16 jT (.call 98 [(.s 18)]),go 20 16 jT (.un .not (.s 19)),go 21 12 jF (.pick (.s 16) (.s 20) (.c (.t (.bool false)))),q 22 12 21] [2,3,22]) (jC 22 (jX [o 4 (.cst (.t (.bool false)))] [4]) .skip)) c67_11
def c67:zW:=jS (jR [o 2 (.box 1 (.s 0)),o 3 (.box 9 (.s 1)),o 4 (.cst (.t (.bool false)))] [2,3]) c67_14
def r67:List q8:=[.tmp 4]
def n67:Nat:=106
def c68_4:zW:=jS (jR [m 11 1,m 12 0,m 13 5,i 14 3 12 13,jL 15 3 14,o 16 (.z18 (.s 11) [(.s 15)])] [0,1,5,7,8,16]) (jC 16 (jX [m 17 5,m 4 17] [4]) .skip)
def c68_11:zW:=jS (jS (jR [m 6 0,e 7 6,jI 8 0] [0,1,7,8]) (.block 0 (.loop (jS (jR [b 9 .lss 8 7] [0,1,7,8,9]) (jS (jC 9 .skip (.exit 0)) (jS (.block 1 (jS (jR [m 10 8,m 5 10] [0,1,5,7,8]) c68_4)) (jR [jB 18 .add 8 1,m 8 18] [0,1,7,8]))))))) (jX [jI 4 (-1)] [4])
def c68:zW:=jS (jR [jI 4 0] [0,1]) c68_11
def r68:List q8:=[.tmp 4]
def n68:Nat:=19
def c69_0:zW:=jX [m 63 8,m 64 9,o 65 (.zdT (.s 63) (.s 64)),jB 66 .add 65 1,m 4 66] [4]
def c69_3:zW:=jS (jS (jR [m 57 8,jB 58 .eql 57 0,m 59 58,gm 60 59 jF 9,gB 61 59 jF .eql 60 0,q 62 59 61] [8,9,62]) (jC 62 (jX [jI 4 0] [4]) .skip)) c69_0
def c69_4:zW:=jS (jD [m 49 0,f 50 2 3,l 51 50,o 52 (.call 104 [(.s 49),(.s 51)]),m 53 0,f 54 4 3,l 55 54,o 56 (.call 105 [(.s 53),(.s 55)]),m 8 52,m 9 56] [[],[],[1],[0,2],[],[],[5],[4,6,3],[3,7,0,1,2,3],[7,8,0,1,2,3,4,5,6,7,8]] [8,9]) c69_3
def c69_5:zW:=jX [m 43 0,f 44 2 3,l 45 44,o 46 (.call 80 [(.s 43),(.s 45)]),n 47 46,l 48 47,m 4 48] [4]
def c69_7:zW:=jS (jS (jR [f 39 4 3,l 40 39,e 41 40,jB 42 .eql 41 0] [0,3,42]) (jC 42 c69_5 .skip)) c69_4
def c69_10:zW:=jR [m 33 5,f 34 1 7,l 35 34,o 36 (.call 79 [(.s 33),(.s 35)]),m 5 36] [3,5,15,16,17]
def c69_12:zW:=jS (jR [f 21 0 7,l 22 21,f 23 2 3,l 24 23,b 25 .eql 22 24,m 26 25,gf 27 26 jT 2 7,gl 28 26 jT 27,gf 29 26 jT 1 3,gl 30 26 jT 29,go 31 26 jT (.call 85 [(.s 28),(.s 30)]),p 32 26 31] [3,5,7,15,16,17,32]) (jC 32 c69_10 .skip)
def c69_13:zW:=jS (jR [i 19 3 15 17,jL 20 3 19,o 7 (.alloc [jN 0,jN 0,.zI]),jO (.st 3 (.s 7) (.s 20))] [3,5,7,15,16,17]) c69_12
def c69_16:zW:=jS (jR [b 18 .lss 17 16] [3,5,15,16,17,18]) (jS (jC 18 .skip (.exit 0)) (jS (.block 1 c69_13) (jR [jB 37 .add 17 1,m 17 37] [3,5,15,16,17])))
def c69_19:zW:=jS (jS (jR [m 12 0,n 13 12,f 14 4 13,l 15 14,e 16 15,jI 17 0] [3,5,15,16,17]) (.block 0 (.loop c69_16))) (jX [m 38 5,m 4 38] [4])
def c69_22:zW:=jS (jS (jR [f 10 3 3,l 11 10] [0,3,11]) (jC 11 (jS (jR [jI 5 0] [0,3,5]) c69_19) .skip)) c69_7
def c69:zW:=jS (jR [o 3 (.box 6 (.s 1)),jI 4 0] [0,3]) c69_22
def r69:List q8:=[.tmp 4]
def n69:Nat:=67
def c70_0:zW:=jX [o 5 (.bsl true 1 [] []),m 6 0,o 7 (.app 1 16 (.s 5) (.s 6)),m 2 7] [2]
def c70_3:zW:=jS (jS (jR [m 3 0,o 4 (.nw (.eqn false (.s 3)))] [0,4]) (jC 4 (jX [o 2 (.cst (.zI))] [2]) .skip)) c70_0
def c70:zW:=jS (jR [o 2 (.cst (.zI))] [0]) c70_3
def r70:List q8:=[.tmp 2]
def n70:Nat:=8
def c71_0:zW:=jX [f 5 2 3,l 6 5,l 7 1,b 8 .eql 6 7,m 9 8,gf 10 9 jT 0 3,gl 11 9 jT 10,gl 12 9 jT 2,gb 13 9 jT .eql 11 12,p 14 9 13,m 4 14] [4]
def c71:zW:=jS (jR [o 3 (.box 6 (.s 0)),o 4 (.cst (.t (.bool false)))] [1,2,3]) c71_0
def r71:List q8:=[.tmp 4]
def n71:Nat:=15
def c72_4:zW:=jS (jR [m 11 1,m 12 0,m 13 5,i 14 6 12 13,jL 15 6 14,o 16 (.z18 (.s 11) [(.s 15)])] [0,1,5,7,8,16]) (jC 16 (jX [m 17 5,m 4 17] [4]) .skip)
def c72_11:zW:=jS (jS (jR [m 6 0,e 7 6,jI 8 0] [0,1,7,8]) (.block 0 (.loop (jS (jR [b 9 .lss 8 7] [0,1,7,8,9]) (jS (jC 9 .skip (.exit 0)) (jS (.block 1 (jS (jR [m 10 8,m 5 10] [0,1,5,7,8]) c72_4)) (jR [jB 18 .add 8 1,m 8 18] [0,1,7,8]))))))) (jX [jI 4 (-1)] [4])
def c72:zW:=jS (jR [jI 4 0] [0,1]) c72_11
def r72:List q8:=[.tmp 4]
def n72:Nat:=19
def c73_4:zW:=jS (jD [f 11 0 2,l 12 11,m 13 5,i 14 7 12 13,f 15 1 14,l 16 15,f 17 0 2,l 18 17,m 19 1,i 20 7 18 19,f 21 1 20,l 22 21,b 23 .eql 16 22] [[],[0],[],[1,2],[3],[4],[],[6],[],[7,8],[9],[10],[5,11]] [1,2,5,23]) (jC 23 (jX [o 4 (.cst (.t (.bool false)))] [4]) .skip)
def c73_7:zW:=jS (jS (jR [m 6 5,m 7 1,b 8 .lss 6 7] [1,2,5,8]) (jC 8 .skip (.exit 0))) (jS (.block 1 c73_4) (jR [m 9 5,jB 10 .add 9 1,m 5 10] [1,2,5]))
def c73:zW:=jS (jR [o 2 (.box 1 (.s 0)),o 4 (.cst (.t (.bool false)))] [1,2]) (jS (jS (jR [jI 5 0] [1,2,5]) (.block 0 (.loop c73_7))) (jX [o 4 (.cst (.t (.bool true)))] [4]))
def r73:List q8:=[.tmp 4]
def n73:Nat:=24
def c74_4:zW:=jS (jR [m 12 0,m 13 5,i 14 1 12 13,l 15 14,m 16 1,b 17 .eql 15 16] [0,1,5,17]) (jC 17 (jX [o 4 (.cst (.t (.bool true)))] [4]) .skip)
def c74_7:zW:=jS (jS (jR [m 6 5,m 7 0,e 8 7,b 9 .lss 6 8] [0,1,5,9]) (jC 9 .skip (.exit 0))) (jS (.block 1 c74_4) (jR [m 10 5,jB 11 .add 10 1,m 5 11] [0,1,5]))
def c74:zW:=jS (jR [o 4 (.cst (.t (.bool false)))] [0,1]) (jS (jS (jR [jI 5 0] [0,1,5]) (.block 0 (.loop c74_7))) (jX [o 4 (.cst (.t (.bool false)))] [4]))
def r74:List q8:=[.tmp 4]
def n74:Nat:=18
def c75_4:zW:=jS (jR [f 13 5 2,l 14 13,m 15 5,i 16 2 14 15,f 17 0 16,l 18 17,m 19 1,b 20 .eql 18 19] [1,2,5,20]) (jC 20 (jX [o 4 (.cst (.t (.bool true)))] [4]) .skip)
def c75_7:zW:=jS (jS (jR [m 6 5,f 7 5 2,l 8 7,e 9 8,b 10 .lss 6 9] [1,2,5,10]) (jC 10 .skip (.exit 0))) (jS (.block 1 c75_4) (jR [m 11 5,jB 12 .add 11 1,m 5 12] [1,2,5]))
def c75:zW:=jS (jR [o 2 (.box 7 (.s 0)),o 4 (.cst (.t (.bool false)))] [1,2]) (jS (jS (jR [jI 5 0] [1,2,5]) (.block 0 (.loop c75_7))) (jX [o 4 (.cst (.t (.bool false)))] [4]))
def r75:List q8:=[.tmp 4]
def n75:Nat:=21
def c76_3:zW:=jS (jS (jR [m 8 0,m 9 1,b 10 .gtr 8 9] [10]) (jC 10 (jX [jI 4 1] [4]) .skip)) (jX [jI 4 0] [4])
def c76_6:zW:=jS (jS (jR [m 5 0,m 6 1,b 7 .lss 5 6] [0,1,7]) (jC 7 (jX [jI 4 (-1)] [4]) .skip)) c76_3
def c76:zW:=jS (jR [jI 4 0] [0,1]) c76_6
def r76:List q8:=[.tmp 4]
def n76:Nat:=11
def c77_3:zW:=jS (jS (jR [m 8 0,m 9 1,b 10 .gtr 8 9] [10]) (jC 10 (jX [jI 4 1] [4]) .skip)) (jX [jI 4 0] [4])
def c77_6:zW:=jS (jS (jR [m 5 0,m 6 1,b 7 .lss 5 6] [0,1,7]) (jC 7 (jX [jI 4 (-1)] [4]) .skip)) c77_3
def c77:zW:=jS (jR [jI 4 0] [0,1]) c77_6
def r77:List q8:=[.tmp 4]
def n77:Nat:=11
def c78_1:zW:=jX [f 10 4 2,l 11 10,m 12 1,i 13 1 11 12,l 14 13,m 4 14] [4]
def c78_3:zW:=jS (jS (jR [m 5 1,f 6 4 2,l 7 6,e 8 7,b 9 .lss 5 8] [1,2,9]) (jC 9 c78_1 .skip)) (jX [o 4 (.cst (.t (.str [])))] [4])
def c78:zW:=jS (jR [o 2 (.box 5 (.s 0)),o 4 (.cst (.t (.str [])))] [1,2]) c78_3
def r78:List q8:=[.tmp 4]
def n78:Nat:=15
def c79_3:zW:=jS (jS (jR [m 5 0,jB 6 .eql 5 0,m 7 6,gm 8 7 jF 1,gB 9 7 jF .neq 8 0,gm 10 7 jF 9,gm 11 10 jT 1,gm 12 10 jT 0,gb 13 10 jT .lss 11 12,go 14 7 jF (.pick (.s 10) (.s 13) (.c (.t (.bool false)))),q 15 7 14] [0,1,15]) (jC 15 (jX [m 16 1,m 4 16] [4]) .skip)) (jX [m 17 0,m 4 17] [4])
def c79:zW:=jS (jR [jI 4 0] [0,1]) c79_3
def r79:List q8:=[.tmp 4]
def n79:Nat:=18
def c80_0:zW:=jX [m 5 0,n 6 5,f 7 7 6,l 8 7,m 9 1,jB 10 .quo 9 8,m 11 1,jB 12 .rem 11 8,i 13 8 8 10,o 14 (.z9c 8 1 (.s 13) (.s 12)),m 4 14] [4]
def c80:zW:=jS (jR [o 4 (.cst (.t (.z0D)))] [0,1]) c80_0
def r80:List q8:=[.tmp 4]
def n80:Nat:=15
def c81_2:zW:=jD [m 74 0,n 75 74,f 76 8 75,l 77 76,f 78 1 8,l 79 78,m 80 9,o 81 (.nw (.zcx [.str] false (jN 0) (.s 77) (.s 79))),x 82 81 1,jO (.nw (.zaE (.s 77) (.s 82) (.s 80))),o 3 (.cst (.t (.bool true)))] [[],[0],[1],[2],[],[4],[],[3,5],[7],[3,8,6,7,0,1,2,3,4,5,6,7],[9,0,1,2,3,4,5,6,7,8,9]] [0,3,48,49,50]
def c81_4:zW:=jS (jD [m 65 9,m 66 0,n 67 66,f 68 8 67,l 69 68,f 70 1 8,l 71 70,o 72 (.nw (.lookup [.str] false (jN 0) false (.s 69) (.s 71))),b 73 .neq 65 72] [[],[],[1],[2],[3],[],[5],[4,6],[0,7]] [0,3,8,9,48,49,50,73]) (jC 73 c81_2 .skip)
def c81_5:zW:=jS (jD [m 54 0,n 55 54,f 56 8 55,l 57 56,f 58 1 8,l 59 58,o 60 (.nw (.lookup [.str] false (jN 0) false (.s 57) (.s 59))),m 61 0,jL 62 6 8,o 63 (.call 69 [(.s 61),(.s 62)]),o 64 (.call 79 [(.s 60),(.s 63)]),m 9 64] [[],[0],[1],[2],[],[4],[3,5],[],[],[7,8],[6,9,9],[10,10,0,1,2,3,4,5,6,7,8,9,10]] [0,3,8,9,48,49,50]) c81_4
def c81_6:zW:=jS (jR [i 52 6 48 50,jL 53 6 52,o 8 (.alloc [.t (.str []),.t (.str []),jN 0,.t (.bool false),.zI,.zI]),jO (.st 6 (.s 8) (.s 53))] [0,3,8,48,49,50]) c81_5
def c81_9:zW:=jS (jR [b 51 .lss 50 49] [0,3,48,49,50,51]) (jS (jC 51 .skip (.exit 2)) (jS (.block 3 c81_6) (jR [jB 83 .add 50 1,m 50 83] [0,3,48,49,50])))
def c81_12:zW:=jS (jS (jR [m 45 0,n 46 45,f 47 5 46,l 48 47,e 49 48,jI 50 0] [0,3,48,49,50]) (.block 2 (.loop c81_9))) (jX [m 84 3,m 2 84] [2])
def c81_14:zW:=jR [m 39 0,m 40 4,o 41 (.call 80 [(.s 39),(.s 40)]),m 42 6,n 43 41,jO (.st 1 (.s 43) (.s 42)),o 3 (.cst (.t (.bool true)))] [0,3,15,16]
def c81_16:zW:=jS (jR [m 32 6,m 33 0,m 34 4,o 35 (.call 80 [(.s 33),(.s 34)]),n 36 35,l 37 36,b 38 .neq 32 37] [0,3,4,6,15,16,38]) (jC 38 c81_14 .skip)
def c81_17:zW:=jS (jR [m 24 0,m 25 4,o 26 (.call 80 [(.s 24),(.s 25)]),n 27 26,l 28 27,m 29 5,jB 30 .add 29 1,o 31 (.call 79 [(.s 28),(.s 30)]),m 6 31] [0,3,4,6,15,16]) c81_16
def c81_19:zW:=jS (jR [m 22 5,jB 23 .gtr 22 0] [0,3,4,5,15,16,23]) (jC 23 c81_17 .skip)
def c81_20:zW:=jS (jR [m 19 0,m 20 4,o 21 (.call 104 [(.s 19),(.s 20)]),m 5 21] [0,3,4,5,15,16]) c81_19
def c81_21:zW:=jS (jR [m 18 16,m 4 18] [0,3,4,15,16]) c81_20
def c81_24:zW:=jS (jR [b 17 .lss 16 15] [0,3,15,16,17]) (jS (jC 17 .skip (.exit 0)) (jS (.block 1 c81_21) (jR [jB 44 .add 16 1,m 16 44] [0,3,15,16])))
def c81_27:zW:=jS (jS (jR [m 10 0,n 11 10,f 12 0 11,f 13 0 12,l 14 13,e 15 14,jI 16 0] [0,3,15,16]) (.block 0 (.loop c81_24))) c81_12
def c81_28:zW:=jS (jR [o 3 (.cst (.t (.bool false)))] [0,3]) c81_27
def c81:zW:=jS (jR [o 2 (.cst (.t (.bool false)))] [0]) c81_28
def r81:List q8:=[.tmp 2]
def n81:Nat:=85
def c85_0:zW:=jX [m 5 0,m 6 1,o 7 (.call 109 [(.s 5),(.s 6)]),jB 8 .geq 7 0,m 4 8] [4]
def c85:zW:=jS (jR [o 4 (.cst (.t (.bool false)))] [0,1]) c85_0
def r85:List q8:=[.tmp 4]
def n85:Nat:=9
def c86_4:zW:=jS (jR [m 18 0,m 19 3,o 20 (.ixs (.s 18) (.s 19)),o 21 (.call 110 [(.s 20)]),u 22 21,m 23 22,gm 24 23 jT 3,gB 25 23 jT .eql 24 0,gm 26 23 jT 25,gm 27 26 jF 0,gm 28 26 jF 3,go 29 26 jF (.ixs (.s 27) (.s 28)),go 30 26 jF (.call 111 [(.s 29)]),go 31 26 jF (.un .not (.s 30)),go 32 23 jT (.pick (.s 26) (.c (.t (.bool true))) (.s 31)),p 33 23 32] [0,3,33]) (jC 33 (jX [o 2 (.cst (.t (.bool false)))] [2]) .skip)
def c86_7:zW:=jS (jS (jR [m 12 3,m 13 0,o 14 (.lens (.s 13)),b 15 .lss 12 14] [0,3,15]) (jC 15 .skip (.exit 0))) (jS (.block 1 c86_4) (jR [m 16 3,jB 17 .add 16 1,m 3 17] [0,3]))
def c86_13:zW:=jS (jS (jR [m 4 0,o 5 (.lens (.s 4)),jB 6 .lss 5 1,m 7 6,gm 8 7 jF 0,go 9 7 jF (.lens (.s 8)),gB 10 7 jF .gtr 9 64,q 11 7 10] [0,11]) (jC 11 (jX [o 2 (.cst (.t (.bool false)))] [2]) .skip)) (jS (jS (jR [jI 3 0] [0,3]) (.block 0 (.loop c86_7))) (jX [o 2 (.cst (.t (.bool true)))] [2]))
def c86:zW:=jS (jR [o 2 (.cst (.t (.bool false)))] [0]) c86_13
def r86:List q8:=[.tmp 2]
def n86:Nat:=34
def c87_5:zW:=jS (jR [f 49 0 5,l 50 49,o 51 (.call 86 [(.s 50)]),u 52 51,m 53 52,gf 54 53 jF 1 5,gL 55 53 jF 5 54,go 56 53 jF (.call 112 [(.s 55)]),go 57 53 jF (.un .not (.s 56)),q 58 53 57,m 59 58,gf 60 59 jF 1 5,gL 61 59 jF 5 60,go 62 59 jF (.call 113 [(.s 61)]),go 63 59 jF (.un .not (.s 62)),q 64 59 63] [0,3,4,64]) (jC 64 (jX [o 2 (.cst (.t (.bool false)))] [2]) .skip)
def c87_6:zW:=jS (jR [m 41 0,m 42 3,i 43 2 41 42,f 44 1 43,l 45 44,m 46 4,i 47 6 45 46,jL 48 6 47,o 5 (.alloc [.t (.str []),jN 0,jN 0,.t (.str []),.zI,.zI]),jO (.st 6 (.s 5) (.s 48))] [0,3,4,5]) c87_5
def c87_9:zW:=jS (jS (jR [m 31 4,m 32 0,m 33 3,i 34 2 32 33,f 35 1 34,l 36 35,e 37 36,b 38 .lss 31 37] [0,3,4,38]) (jC 38 .skip (.exit 2))) (jS (.block 3 c87_6) (jR [m 39 4,jB 40 .add 39 1,m 4 40] [0,3,4]))
def c87_15:zW:=jS (jS (jR [m 15 0,m 16 3,i 17 2 15 16,f 18 0 17,l 19 18,o 20 (.call 86 [(.s 19)]),u 21 20,m 22 21,gm 23 22 jF 0,gm 24 22 jF 3,gi 25 22 jF 2 23 24,gf 26 22 jF 1 25,gl 27 22 jF 26,ge 28 22 jF 27,gB 29 22 jF .gtr 28 16,q 30 22 29] [0,3,30]) (jC 30 (jX [o 2 (.cst (.t (.bool false)))] [2]) .skip)) (jS (jR [jI 4 0] [0,3,4]) (.block 2 (.loop c87_9)))
def c87_18:zW:=jS (jS (jR [m 9 3,m 10 0,e 11 10,b 12 .lss 9 11] [0,3,12]) (jC 12 .skip (.exit 0))) (jS (.block 1 c87_15) (jR [m 13 3,jB 14 .add 13 1,m 3 14] [0,3]))
def c87_24:zW:=jS (jS (jR [m 6 0,e 7 6,jB 8 .gtr 7 16] [0,8]) (jC 8 (jX [o 2 (.cst (.t (.bool false)))] [2]) .skip)) (jS (jS (jR [jI 3 0] [0,3]) (.block 0 (.loop c87_18))) (jX [o 2 (.cst (.t (.bool true)))] [2]))
def c87:zW:=jS (jR [o 2 (.cst (.t (.bool false)))] [0]) c87_24
def r87:List q8:=[.tmp 2]
def n87:Nat:=65
def c88_4:zW:=jS (jR [m 18 0,m 19 3,i 20 5 18 19,f 21 0 20,l 22 21,o 23 (.call 86 [(.s 22)]),u 24 23,m 25 24,gm 26 25 jF 0,gm 27 25 jF 3,gi 28 25 jF 5 26 27,gf 29 25 jF 1 28,gl 30 25 jF 29,go 31 25 jF (.call 90 [(.s 30)]),go 32 25 jF (.un .not (.s 31)),q 33 25 32,m 34 33,gm 35 34 jF 0,gm 36 34 jF 3,gi 37 34 jF 5 35 36,gf 38 34 jF 2 37,gL 39 34 jF 2 38,go 40 34 jF (.call 114 [(.s 39)]),go 41 34 jF (.un .not (.s 40)),q 42 34 41,m 43 42,gm 44 43 jF 0,gm 45 43 jF 3,gi 46 43 jF 5 44 45,gf 47 43 jF 4 46,gl 48 43 jF 47,go 49 43 jF (.call 87 [(.s 48)]),go 50 43 jF (.un .not (.s 49)),q 51 43 50] [0,3,51]) (jC 51 (jX [o 2 (.cst (.t (.bool false)))] [2]) .skip)
def c88_7:zW:=jS (jS (jR [m 12 3,m 13 0,e 14 13,b 15 .lss 12 14] [0,3,15]) (jC 15 .skip (.exit 0))) (jS (.block 1 c88_4) (jR [m 16 3,jB 17 .add 16 1,m 3 17] [0,3]))
def c88_13:zW:=jS (jS (jR [m 4 0,e 5 4,jB 6 .lss 5 1,m 7 6,gm 8 7 jF 0,ge 9 7 jF 8,gB 10 7 jF .gtr 9 64,q 11 7 10] [0,11]) (jC 11 (jX [o 2 (.cst (.t (.bool false)))] [2]) .skip)) (jS (jS (jR [jI 3 0] [0,3]) (.block 0 (.loop c88_7))) (jX [o 2 (.cst (.t (.bool true)))] [2]))
def c88:zW:=jS (jR [o 2 (.cst (.t (.bool false)))] [0]) c88_13
def r88:List q8:=[.tmp 2]
def n88:Nat:=52
def c89_4:zW:=jS (jR [m 20 0,m 21 5,i 22 2 20 21,f 23 0 22,l 24 23,o 25 (.call 86 [(.s 24)]),u 26 25,m 27 26,gm 28 27 jF 0,gm 29 27 jF 5,gi 30 27 jF 2 28 29,gf 31 27 jF 1 30,gl 32 27 jF 31,go 33 27 jF (.call 87 [(.s 32)]),go 34 27 jF (.un .not (.s 33)),q 35 27 34,m 36 35,gm 37 36 jF 1,gm 38 36 jF 37,gm 39 38 jT 0,gm 40 38 jT 5,gi 41 38 jT 2 39 40,gf 42 38 jT 1 41,gl 43 38 jT 42,ge 44 38 jT 43,gB 45 38 jT .gtr 44 0,go 46 36 jF (.pick (.s 38) (.s 45) (.c (.t (.bool false)))),q 47 36 46] [0,1,5,47]) (jC 47 (jX [o 4 (.cst (.t (.bool false)))] [4]) .skip)
def c89_7:zW:=jS (jS (jR [m 14 5,m 15 0,e 16 15,b 17 .lss 14 16] [0,1,5,17]) (jC 17 .skip (.exit 0))) (jS (.block 1 c89_4) (jR [m 18 5,jB 19 .add 18 1,m 5 19] [0,1,5]))
def c89_13:zW:=jS (jS (jR [m 6 0,e 7 6,jB 8 .lss 7 1,m 9 8,gm 10 9 jF 0,ge 11 9 jF 10,gB 12 9 jF .gtr 11 64,q 13 9 12] [0,1,13]) (jC 13 (jX [o 4 (.cst (.t (.bool false)))] [4]) .skip)) (jS (jS (jR [jI 5 0] [0,1,5]) (.block 0 (.loop c89_7))) (jX [o 4 (.cst (.t (.bool true)))] [4]))
def c89:zW:=jS (jR [o 4 (.cst (.t (.bool false)))] [0,1]) c89_13
def r89:List q8:=[.tmp 4]
def n89:Nat:=48
def c90_4:zW:=jS (jR [f 34 3 4,l 35 34,m 36 35,gf 37 36 jT 4 4,gL 38 36 jT 5 37,go 39 36 jT (.call 112 [(.s 38)]),go 40 36 jT (.un .not (.s 39)),gm 41 36 jT 40,gf 42 41 jF 4 4,gL 43 41 jF 5 42,go 44 41 jF (.call 113 [(.s 43)]),go 45 41 jF (.un .not (.s 44)),go 46 36 jT (.pick (.s 41) (.c (.t (.bool true))) (.s 45)),p 47 36 46,m 48 47,gf 49 48 jF 3 4,gl 50 48 jF 49,go 51 48 jF (.un .not (.s 50)),gm 52 48 jF 51,gf 53 52 jT 4 4,gL 54 52 jT 5 53,go 55 52 jT (.call 115 [(.s 54)]),go 56 52 jT (.un .not (.s 55)),go 57 48 jF (.pick (.s 52) (.s 56) (.c (.t (.bool false)))),q 58 48 57] [0,3,58]) (jC 58 (jX [o 2 (.cst (.t (.bool false)))] [2]) .skip)
def c90_7:zW:=jS (jS (jR [f 18 0 4,l 19 18,o 20 (.call 86 [(.s 19)]),u 21 20,m 22 21,gf 23 22 jF 1 4,gL 24 22 jF 2 23,go 25 22 jF (.call 114 [(.s 24)]),go 26 22 jF (.un .not (.s 25)),q 27 22 26,m 28 27,gf 29 28 jF 9 4,gl 30 28 jF 29,go 31 28 jF (.call 87 [(.s 30)]),go 32 28 jF (.un .not (.s 31)),q 33 28 32] [0,3,4,33]) (jC 33 (jX [o 2 (.cst (.t (.bool false)))] [2]) .skip)) c90_4
def c90_8:zW:=jS (jR [m 14 0,m 15 3,i 16 10 14 15,jL 17 10 16,o 4 (.alloc [.t (.str []),.t (.str []),.zI,.t (.bool false),jN 0,jN 0,.t (.str []),.zI,.zI,.zI]),jO (.st 10 (.s 4) (.s 17))] [0,3,4]) c90_7
def c90_11:zW:=jS (jS (jR [m 8 3,m 9 0,e 10 9,b 11 .lss 8 10] [0,3,11]) (jC 11 .skip (.exit 0))) (jS (.block 1 c90_8) (jR [m 12 3,jB 13 .add 12 1,m 3 13] [0,3]))
def c90_17:zW:=jS (jS (jR [m 5 0,e 6 5,jB 7 .gtr 6 16] [0,7]) (jC 7 (jX [o 2 (.cst (.t (.bool false)))] [2]) .skip)) (jS (jS (jR [jI 3 0] [0,3]) (.block 0 (.loop c90_11))) (jX [o 2 (.cst (.t (.bool true)))] [2]))
def c90:zW:=jS (jR [o 2 (.cst (.t (.bool false)))] [0]) c90_17
def r90:List q8:=[.tmp 2]
def n90:Nat:=59
def c91_0:zW:=jX [m 93 8,m 4 93] [4]
def c91_1:zW:=jR [m 87 8,f 88 1 5,l 89 88,o 90 (.build [jN 0,.t (.str [])] [(0,1,(.c (jN 5))),(1,1,(.s 89))]),o 91 (.bsl false 2 [[.int .i64 0,.str []]] [(0,(.s 90))]),o 92 (.app 2 24 (.s 87) (.s 91)),m 8 92] [8]
def c91_3:zW:=jS (jS (jR [jL 84 1 2,jL 85 7 5,o 86 (.call 119 [(.s 84),(.s 85)])] [5,8,86]) (jC 86 c91_1 .skip)) c91_0
def c91_4:zW:=jR [m 78 8,f 79 1 5,l 80 79,o 81 (.build [jN 0,.t (.str [])] [(0,1,(.c (jN 9))),(1,1,(.s 80))]),o 82 (.bsl false 2 [[.int .i64 0,.str []]] [(0,(.s 81))]),o 83 (.app 2 24 (.s 78) (.s 82)),m 8 83] [2,5,8]
def c91_6:zW:=jS (jS (jR [m 62 9,m 63 62,gf 64 63 jT 0 5,gl 65 63 jT 64,gB 66 63 jT .neq 65 1,p 67 63 66,m 68 67,gf 69 68 jF 0 5,gl 70 68 jF 69,gB 71 68 jF .lss 70 1,q 72 68 71,m 73 72,gf 74 73 jF 0 5,gl 75 73 jF 74,gB 76 73 jF .gtr 75 5,q 77 73 76] [2,5,8,77]) (jC 77 c91_4 .skip)) c91_3
def c91_7:zW:=jS (jR [f 49 1 5,l 50 49,o 51 (.bin .eql (.s 50) (.c (.t (.str [81,117,101,114,121])))),m 52 51,gf 53 52 jF 1 5,gl 54 52 jF 53,go 55 52 jF (.bin .eql (.s 54) (.c (.t (.str [77,117,116,97,116,105,111,110])))),q 56 52 55,m 57 56,gf 58 57 jF 1 5,gl 59 57 jF 58,go 60 57 jF (.bin .eql (.s 59) (.c (.t (.str [83,117,98,115,99,114,105,112,116,105,111,110])))),q 61 57 60,m 9 61] [2,5,8,9]) c91_6
def c91_8:zW:=jR [m 43 8,f 44 1 5,l 45 44,o 46 (.build [jN 0,.t (.str [])] [(0,1,(.c (jN 8))),(1,1,(.s 45))]),o 47 (.bsl false 2 [[.int .i64 0,.str []]] [(0,(.s 46))]),o 48 (.app 2 24 (.s 43) (.s 47)),m 8 48] [2,5,8]
def c91_10:zW:=jS (jS (jR [jL 41 7 5,o 42 (.call 118 [(.s 41)])] [2,5,8,42]) (jC 42 c91_8 .skip)) c91_7
def c91_11:zW:=jS (jR [f 35 1 5,l 36 35,m 37 6,f 38 1 5,l 39 38,o 40 (.call 117 [(.s 36),(.c (.t (.bool false))),(.s 37),(.s 39)]),m 8 40] [2,5,8]) c91_10
def c91_12:zW:=jR [m 21 7,jB 22 .add 21 1,m 7 22] [1,2,5,6,7]
def c91_13:zW:=jD [m 23 6,m 24 23,gf 25 24 jF 0 2,gl 26 24 jF 25,gm 27 24 jF 7,gi 28 24 jF 7 26 27,gf 29 24 jF 1 28,gl 30 24 jF 29,gf 31 24 jF 1 5,gl 32 24 jF 31,gb 33 24 jF .eql 30 32,q 34 24 33,m 6 34] [[],[0],[1],[2,1],[1],[3,4,1],[5,1],[6,1],[1],[8,1],[7,9,1],[1,10],[11,1,0,1,2,3,4,5,6,7,8,9,10,11]] [1,2,5,6,7]
def c91_16:zW:=jS (jS (jR [m 18 7,m 19 1,b 20 .lss 18 19] [1,2,5,6,7,20]) (jC 20 .skip (.exit 0))) (jS (.block 1 c91_13) c91_12)
def c91_19:zW:=jS (jS (jR [jI 7 0] [1,2,5,6,7]) (.block 0 (.loop c91_16))) c91_11
def c91_20:zW:=jS (jR [f 15 1 5,l 16 15,o 17 (.call 116 [(.s 16)]),m 6 17] [1,2,5,6]) c91_19
def c91_21:zW:=jS (jR [f 10 0 2,l 11 10,m 12 1,i 13 7 11 12,jL 14 7 13,o 5 (.alloc [jN 0,.t (.str []),.zI,.zI,.zI,.zI,.zI]),jO (.st 7 (.s 5) (.s 14))] [1,2,5]) c91_20
def c91:zW:=jS (jR [o 2 (.box 1 (.s 0)),o 4 (.cst (.zI))] [1,2]) c91_21
def r91:List q8:=[.tmp 4]
def n91:Nat:=94
def c92_1:zW:=jR [m 18 6,jB 19 .add 18 1,m 6 19] [2,3,5,6]
def c92_2:zW:=jR [m 86 5,jL 87 1 2,f 88 1 7,l 89 88,m 90 8,o 91 (.bin .add (.s 90) (.c (.t (.str [40])))),o 92 (.call 94 [(.s 87),(.s 89),(.s 91),(.c (.t (.str [41])))]),o 93 (.app 2 24 (.s 86) (.s 92)),m 5 93] [2,3,5,6]
def c92_3:zW:=jR [m 63 5,m 64 8,o 65 (.build [jN 0,.t (.str [])] [(0,1,(.c (jN 8))),(1,1,(.s 64))]),o 66 (.bsl false 2 [[.int .i64 0,.str []]] [(0,(.s 65))]),o 67 (.app 2 24 (.s 63) (.s 66)),m 5 67] [2,3,5,6,7,8]
def c92_4:zW:=jR [m 81 5,m 82 8,o 83 (.build [jN 0,.t (.str [])] [(0,1,(.c (jN 10))),(1,1,(.s 82))]),o 84 (.bsl false 2 [[.int .i64 0,.str []]] [(0,(.s 83))]),o 85 (.app 2 24 (.s 81) (.s 84)),m 5 85] [2,3,5,6,7,8]
def c92_6:zW:=jS (jR [f 68 2 7,f 69 0 68,l 70 69,o 71 (.call 116 [(.s 70)]),u 72 71,m 73 72,gm 74 73 jT 12,p 75 73 74,m 76 75,gf 77 76 jT 0 11,gl 78 76 jT 77,gB 79 76 jT .eql 78 5,p 80 76 79] [2,3,5,6,7,8,80]) (jC 80 c92_4 .skip)
def c92_8:zW:=jS (jS (jR [jL 57 1 2,f 58 2 7,f 59 0 58,l 60 59,o 61 (.call 120 [(.s 57),(.s 60)]),u 62 61] [2,3,5,6,7,8,11,12,62]) (jC 62 c92_3 c92_6)) c92_2
def c92_9:zW:=jS (jR [jL 50 1 2,f 51 2 7,f 52 0 51,l 53 52,o 54 (.call 37 [(.s 50),(.s 53)]),m 49 54,x 55 49 0,x 56 49 1,o 11 (.alloc [jN 0,.t (.str []),.zI,.zI,.zI,.zI,.zI]),jO (.st 7 (.s 11) (.s 55)),m 12 56] [2,3,5,6,7,8,11,12]) c92_8
def c92_10:zW:=jS (jR [m 42 5,f 43 0 7,l 44 43,m 45 10,m 46 8,o 47 (.call 117 [(.s 44),(.c (.t (.bool false))),(.s 45),(.s 46)]),o 48 (.app 2 24 (.s 42) (.s 47)),m 5 48] [2,3,5,6,7,8]) c92_9
def c92_11:zW:=jS (jD [f 32 4 3,l 33 32,m 34 6,o 35 (.sll 5 (.s 33) none (some (.s 34))),o 36 (.build [jN 0,.t (.str []),.zI,.zI,.zI,.zI,.zI] [(4,1,(.s 35))]),f 37 0 7,l 38 37,o 39 (.call 101 [(.s 36),(.s 38)]),m 31 39,x 40 31 0,x 41 31 1,o 9 (.alloc [.t (.str []),.zI,.t (.str []),.zI,.zI]),jO (.st 5 (.s 9) (.s 40)),m 10 41] [[],[0],[],[1,2],[3],[],[5],[4,6],[7],[8],[8],[],[11,9,7,0,1,2,3,4,5,6,7,8,9,11],[10,12,0,1,2,3,4,5,6,7,8,9,10,11,12]] [2,3,5,6,7,8,10]) c92_10
def c92_12:zW:=jS (jR [f 25 1 3,l 26 25,o 27 (.bin .add (.s 26) (.c (.t (.str [46])))),f 28 0 7,l 29 28,b 30 .add 27 29,m 8 30] [2,3,5,6,7,8]) c92_11
def c92_13:zW:=jS (jR [f 20 4 3,l 21 20,m 22 6,i 23 5 21 22,jL 24 5 23,o 7 (.alloc [.t (.str []),.zI,.t (.str []),.zI,.zI]),jO (.st 5 (.s 7) (.s 24))] [2,3,5,6,7]) c92_12
def c92_16:zW:=jS (jS (jR [m 13 6,f 14 4 3,l 15 14,e 16 15,b 17 .lss 13 16] [2,3,5,6,17]) (jC 17 .skip (.exit 0))) (jS (.block 1 c92_13) c92_1)
def c92_19:zW:=jS (jS (jR [jI 6 0] [2,3,5,6]) (.block 0 (.loop c92_16))) (jX [m 94 5,m 4 94] [4])
def c92:zW:=jS (jR [o 2 (.box 1 (.s 0)),o 3 (.box 7 (.s 1)),o 4 (.cst (.zI))] [2,3]) (jS (jR [o 5 (.cst (.zI))] [2,3,5]) c92_19)
def r92:List q8:=[.tmp 4]
def n92:Nat:=95
def c93_2:zW:=jR [m 37 3,m 38 5,m 39 5,o 40 (.bin .eql (.s 39) (.c (.t (.str [116,114,117,101])))),m 41 40,gm 42 41 jF 5,go 43 41 jF (.bin .eql (.s 42) (.c (.t (.str [102,97,108,115,101])))),q 44 41 43,m 45 44,gm 46 45 jF 5,go 47 45 jF (.bin .eql (.s 46) (.c (.t (.str [110,117,108,108])))),q 48 45 47,m 49 6,f 50 1 1,l 51 50,o 52 (.bin .add (.s 51) (.c (.t (.str [46])))),m 53 5,b 54 .add 52 53,o 55 (.call 117 [(.s 38),(.s 48),(.s 49),(.s 54)]),o 56 (.app 2 24 (.s 37) (.s 55)),m 3 56] [1,3,4]
def c93_3:zW:=jR [m 24 7,jB 25 .add 24 1,m 7 25] [1,3,4,5,6,7]
def c93_4:zW:=jR [m 26 6,m 27 26,gf 28 27 jF 5 1,gl 29 27 jF 28,gm 30 27 jF 7,gi 31 27 jF 2 29 30,gf 32 27 jF 0 31,gl 33 27 jF 32,gm 34 27 jF 5,gb 35 27 jF .eql 33 34,q 36 27 35,m 6 36] [1,3,4,5,6,7]
def c93_7:zW:=jS (jS (jR [m 21 7,m 22 4,b 23 .lss 21 22] [1,3,4,5,6,7,23]) (jC 23 .skip (.exit 2))) (jS (.block 3 c93_4) c93_3)
def c93_10:zW:=jS (jS (jR [jI 7 0] [1,3,4,5,6,7]) (.block 2 (.loop c93_7))) c93_2
def c93_11:zW:=jS (jR [o 6 (.cst (.t (.bool false)))] [1,3,4,5,6]) c93_10
def c93_12:zW:=jS (jR [f 15 5 1,l 16 15,m 17 4,i 18 2 16 17,f 19 0 18,l 20 19,m 5 20] [1,3,4,5]) c93_11
def c93_15:zW:=jS (jS (jR [m 8 4,f 9 5 1,l 10 9,e 11 10,b 12 .lss 8 11] [1,3,4,12]) (jC 12 .skip (.exit 0))) (jS (.block 1 c93_12) (jR [m 13 4,jB 14 .add 13 1,m 4 14] [1,3,4]))
def c93:zW:=jS (jR [o 1 (.box 7 (.s 0)),o 2 (.cst (.zI))] [1]) (jS (jR [o 3 (.cst (.zI))] [1,3]) (jS (jS (jR [jI 4 0] [1,3,4]) (.block 0 (.loop c93_15))) (jX [m 57 3,m 2 57] [2])))
def r93:List q8:=[.tmp 2]
def n93:Nat:=58
def c94_1:zW:=jR [m 18 10,jB 19 .add 18 1,m 10 19] [1,2,3,4,9,10]
def c94_2:zW:=jR [m 60 9,m 61 11,o 62 (.build [jN 0,.t (.str [])] [(0,1,(.c (jN 8))),(1,1,(.s 61))]),o 63 (.bsl false 2 [[.int .i64 0,.str []]] [(0,(.s 62))]),o 64 (.app 2 24 (.s 60) (.s 63)),m 9 64] [1,2,3,4,9,10]
def c94_3:zW:=jR [m 74 9,m 75 11,o 76 (.build [jN 0,.t (.str [])] [(0,1,(.c (jN 10))),(1,1,(.s 75))]),o 77 (.bsl false 2 [[.int .i64 0,.str []]] [(0,(.s 76))]),o 78 (.app 2 24 (.s 74) (.s 77)),m 9 78] [1,2,3,4,9,10]
def c94_5:zW:=jS (jD [jL 65 1 4,m 66 1,m 67 10,i 68 10 66 67,f 69 1 68,f 70 0 69,l 71 70,o 72 (.call 122 [(.s 65),(.s 71)]),u 73 72] [[],[],[],[1,2],[3],[4],[5],[0,6],[7]] [1,2,3,4,9,10,11,73]) (jC 73 c94_3 .skip)
def c94_7:zW:=jS (jD [jL 51 1 4,m 52 1,m 53 10,i 54 10 52 53,f 55 1 54,f 56 0 55,l 57 56,o 58 (.call 120 [(.s 51),(.s 57)]),u 59 58] [[],[],[],[1,2],[3],[4],[5],[0,6],[7]] [1,2,3,4,9,10,11,59]) (jC 59 c94_2 c94_5)
def c94_8:zW:=jS (jR [m 41 9,m 42 1,m 43 10,i 44 10 42 43,f 45 0 44,l 46 45,m 47 13,m 48 11,o 49 (.call 117 [(.s 46),(.c (.t (.bool false))),(.s 47),(.s 48)]),o 50 (.app 2 24 (.s 41) (.s 49)),m 9 50] [1,2,3,4,9,10,11]) c94_7
def c94_9:zW:=jS (jD [m 30 1,m 31 10,o 32 (.sll 10 (.s 30) none (some (.s 31))),m 33 1,m 34 10,i 35 10 33 34,f 36 0 35,l 37 36,o 38 (.call 121 [(.s 32),(.s 37)]),m 29 38,x 39 29 0,x 40 29 1,o 12 (.alloc [.t (.str []),.t (.str []),.zI,.t (.bool false),jN 0,jN 0,.t (.str []),.zI,.zI,.zI]),jO (.st 10 (.s 12) (.s 39)),m 13 40] [[],[],[0,1],[],[],[3,4],[5],[6],[2,7],[8],[9],[9],[],[12,10,8,0,1,2,3,4,5,6,7,8,9,10,12],[11,13,0,1,2,3,4,5,6,7,8,9,10,11,12,13]] [1,2,3,4,9,10,11,13]) c94_8
def c94_10:zW:=jS (jR [m 20 2,m 21 1,m 22 10,i 23 10 21 22,f 24 0 23,l 25 24,b 26 .add 20 25,m 27 3,b 28 .add 26 27,m 11 28] [1,2,3,4,9,10,11]) c94_9
def c94_13:zW:=jS (jS (jR [m 14 10,m 15 1,e 16 15,b 17 .lss 14 16] [1,2,3,4,9,10,17]) (jC 17 .skip (.exit 0))) (jS (.block 1 c94_10) c94_1)
def c94_16:zW:=jS (jS (jR [jI 10 0] [1,2,3,4,9,10]) (.block 0 (.loop c94_13))) (jX [m 79 9,m 8 79] [8])
def c94_17:zW:=jS (jR [o 9 (.cst (.zI))] [1,2,3,4,9]) c94_16
def c94:zW:=jS (jR [o 4 (.box 1 (.s 0)),o 8 (.cst (.zI))] [1,2,3,4]) c94_17
def r94:List q8:=[.tmp 8]
def n94:Nat:=80
def c95_1:zW:=jR [m 16 6,jB 17 .add 16 1,m 6 17] [2,3,5,6]
def c95_2:zW:=jR [m 63 10,jB 64 .add 63 1,m 10 64] [2,3,5,6,8,10]
def c95_3:zW:=jD [m 65 5,jL 66 1 2,jL 67 7 3,f 68 4 8,l 69 68,m 70 10,i 71 5 69 70,jL 72 5 71,o 73 (.call 124 [(.s 66),(.s 67),(.s 72)]),o 74 (.app 2 24 (.s 65) (.s 73)),m 5 74] [[],[],[],[],[3],[],[4,5],[6],[1,2,7],[0,8,8],[9,9,0,1,2,3,4,5,6,7,8,9]] [2,3,5,6,8,10]
def c95_6:zW:=jS (jS (jR [m 58 10,f 59 4 8,l 60 59,e 61 60,b 62 .lss 58 61] [2,3,5,6,8,10,62]) (jC 62 .skip (.exit 2))) (jS (.block 3 c95_3) c95_2)
def c95_10:zW:=jS (jD [jL 49 1 2,f 50 2 3,l 51 50,m 52 6,i 53 1 51 52,l 54 53,o 55 (.call 37 [(.s 49),(.s 54)]),m 48 55,x 56 48 0,x 57 48 1,o 8 (.alloc [jN 0,.t (.str []),.zI,.zI,.zI,.zI,.zI]),jO (.st 7 (.s 8) (.s 56)),m 9 57] [[],[],[1],[],[2,3],[4],[0,5],[6],[7],[7],[],[10,8,6,0,1,2,3,4,5,6,7,8,10],[9,11,0,1,2,3,4,5,6,7,8,9,10,11]] [2,3,5,6,8]) (jS (jR [jI 10 0] [2,3,5,6,8,10]) (.block 2 (.loop c95_6)))
def c95_11:zW:=jS (jR [m 41 5,m 42 7,f 43 1 3,l 44 43,o 45 (.build [jN 0,.t (.str [])] [(0,1,(.s 42)),(1,1,(.s 44))]),o 46 (.bsl false 2 [[.int .i64 0,.str []]] [(0,(.s 45))]),o 47 (.app 2 24 (.s 41) (.s 46)),m 5 47] [2,3,5,6]) (.exit 1)
def c95_13:zW:=jS (jS (jR [m 39 7,jB 40 .neq 39 0] [2,3,5,6,7,40]) (jC 40 c95_11 .skip)) c95_10
def c95_16:zW:=jS (jS (jD [m 25 7,jB 26 .eql 25 0,m 27 26,gf 28 27 jT 2 3,gl 29 27 jT 28,gm 30 27 jT 6,go 31 27 jT (.sll 1 (.s 29) none (some (.s 30))),gf 32 27 jT 2 3,gl 33 27 jT 32,gm 34 27 jT 6,gi 35 27 jT 1 33 34,gl 36 27 jT 35,go 37 27 jT (.call 74 [(.s 31),(.s 36)]),p 38 27 37] [[],[0],[1],[2],[3,2],[2],[4,5,2],[2],[7,2],[2],[8,9,2],[10,2],[6,11,2,2],[2,12]] [2,3,5,6,7,38]) (jC 38 (jR [jI 7 7] [2,3,5,6,7]) .skip)) c95_13
def c95_17:zW:=jS (jD [jL 18 1 2,f 19 2 3,l 20 19,m 21 6,i 22 1 20 21,l 23 22,o 24 (.call 123 [(.s 18),(.s 23),(.c (jN 2))]),m 7 24] [[],[],[1],[],[2,3],[4],[0,5],[6,6,0,1,2,3,4,5,6]] [2,3,5,6,7]) c95_16
def c95_20:zW:=jS (jS (jR [m 11 6,f 12 2 3,l 13 12,e 14 13,b 15 .lss 11 14] [2,3,5,6,15]) (jC 15 .skip (.exit 0))) (jS (.block 1 c95_17) c95_1)
def c95_23:zW:=jS (jS (jR [jI 6 0] [2,3,5,6]) (.block 0 (.loop c95_20))) (jX [m 75 5,m 4 75] [4])
def c95:zW:=jS (jR [o 2 (.box 1 (.s 0)),o 3 (.box 7 (.s 1)),o 4 (.cst (.zI))] [2,3]) (jS (jR [o 5 (.cst (.zI))] [2,3,5]) c95_23)
def r95:List q8:=[.tmp 4]
def n95:Nat:=76
def c96_1:zW:=jR [m 14 6,jB 15 .add 14 1,m 6 15] [2,3,5,6]
def c96_2:zW:=jR [m 38 5,m 39 8,f 40 1 3,l 41 40,o 42 (.bin .add (.s 41) (.c (.t (.str [46])))),m 43 7,b 44 .add 42 43,o 45 (.build [jN 0,.t (.str [])] [(0,1,(.s 39)),(1,1,(.s 44))]),o 46 (.bsl false 2 [[.int .i64 0,.str []]] [(0,(.s 45))]),o 47 (.app 2 24 (.s 38) (.s 46)),m 5 47] [2,3,5,6]
def c96_4:zW:=jS (jR [m 36 8,jB 37 .neq 36 0] [2,3,5,6,7,8,37]) (jC 37 c96_2 .skip)
def c96_7:zW:=jS (jS (jR [m 25 8,jB 26 .eql 25 0,m 27 26,gf 28 27 jT 5 3,gl 29 27 jT 28,gm 30 27 jT 6,go 31 27 jT (.sll 2 (.s 29) none (some (.s 30))),go 32 27 jT (.build [jN 0,.t (.str []),.zI,.zI,.zI,.zI,.zI] [(5,1,(.s 31))]),gm 33 27 jT 7,go 34 27 jT (.call 75 [(.s 32),(.s 33)]),p 35 27 34] [2,3,5,6,7,8,35]) (jC 35 (jR [jI 8 7] [2,3,5,6,7,8]) .skip)) c96_4
def c96_8:zW:=jS (jR [jL 22 1 2,m 23 7,o 24 (.call 123 [(.s 22),(.s 23),(.c (jN 1))]),m 8 24] [2,3,5,6,7,8]) c96_7
def c96_9:zW:=jS (jR [f 16 5 3,l 17 16,m 18 6,i 19 2 17 18,f 20 0 19,l 21 20,m 7 21] [2,3,5,6,7]) c96_8
def c96_12:zW:=jS (jS (jR [m 9 6,f 10 5 3,l 11 10,e 12 11,b 13 .lss 9 12] [2,3,5,6,13]) (jC 13 .skip (.exit 0))) (jS (.block 1 c96_9) c96_1)
def c96_15:zW:=jS (jS (jR [jI 6 0] [2,3,5,6]) (.block 0 (.loop c96_12))) (jX [m 48 5,m 4 48] [4])
def c96:zW:=jS (jR [o 2 (.box 1 (.s 0)),o 3 (.box 7 (.s 1)),o 4 (.cst (.zI))] [2,3]) (jS (jR [o 5 (.cst (.zI))] [2,3,5]) c96_15)
def r96:List q8:=[.tmp 4]
def n96:Nat:=49
def c97_1:zW:=jR [m 19 12,jB 20 .add 19 1,m 12 20] [1,2,3,4,5,11,12]
def c97_2:zW:=jR [m 45 11,m 46 2,m 47 3,b 48 .add 46 47,m 49 1,m 50 12,i 51 10 49 50,f 52 0 51,l 53 52,b 54 .add 48 53,m 55 4,b 56 .add 54 55,o 57 (.build [jN 0,.t (.str [])] [(0,1,(.c (jN 23))),(1,1,(.s 56))]),o 58 (.bsl false 2 [[.int .i64 0,.str []]] [(0,(.s 57))]),o 59 (.app 2 24 (.s 45) (.s 58)),m 11 59] [1,2,3,4,5,11,12]
def c97_4:zW:=jS (jR [m 43 14,jB 44 .neq 43 0] [1,2,3,4,5,11,12,44]) (jC 44 c97_2 .skip)
def c97_5:zW:=jS (jD [jL 28 1 5,m 29 1,m 30 12,i 31 10 29 30,f 32 1 31,jL 33 2 32,m 34 1,m 35 12,i 36 10 34 35,f 37 4 36,jL 38 5 37,o 39 (.build [jN 0,jN 0,.t (.str []),.zI,.zI] []),o 40 (.call 125 [(.s 28),(.s 33),(.s 38),(.s 39)]),m 27 40,x 41 27 0,x 42 27 1,o 13 (.alloc [jN 0,jN 0,.t (.str []),.zI,.zI]),jO (.st 5 (.s 13) (.s 41)),m 14 42] [[],[],[],[1,2],[3],[4],[],[],[6,7],[8],[9],[],[0,5,10,11],[12],[13],[13],[],[16,14,12,0,1,2,3,4,5,6,7,8,9,10,11,12,13,14,16],[15,17,0,1,2,3,4,5,6,7,8,9,10,11,12,13,14,15,16,17]] [1,2,3,4,5,11,12,14]) c97_4
def c97_7:zW:=jS (jS (jR [m 21 1,m 22 12,i 23 10 21 22,f 24 3 23,l 25 24,u 26 25] [1,2,3,4,5,11,12,26]) (jC 26 (.exit 1) .skip)) c97_5
def c97_10:zW:=jS (jS (jR [m 15 12,m 16 1,e 17 16,b 18 .lss 15 17] [1,2,3,4,5,11,12,18]) (jC 18 .skip (.exit 0))) (jS (.block 1 c97_7) c97_1)
def c97_13:zW:=jS (jS (jR [jI 12 0] [1,2,3,4,5,11,12]) (.block 0 (.loop c97_10))) (jX [m 60 11,m 10 60] [10])
def c97_14:zW:=jS (jR [o 11 (.cst (.zI))] [1,2,3,4,5,11]) c97_13
def c97:zW:=jS (jR [o 5 (.box 1 (.s 0)),o 10 (.cst (.zI))] [1,2,3,4,5]) c97_14
def r97:List q8:=[.tmp 10]
def n97:Nat:=61
def c98_0:zW:=jX [f 6 1 3,l 7 6,e 8 7,jB 9 .gtr 8 0,m 10 9,gf 11 10 jT 1 3,gl 12 10 jT 11,go 13 10 jT (.ia 1 (.s 12) (.c (jN 0))),gl 14 10 jT 13,gB 15 10 jT .eql 14 2,p 16 10 15,m 2 16] [2]
def c98_1:zW:=jS (jR [jL 4 2 1,o 5 (.call 126 [(.s 4)]),o 3 (.alloc [.t (.str []),.zI]),jO (.st 2 (.s 3) (.s 5))] [3]) c98_0
def c98:zW:=jS (jR [o 1 (.box 2 (.s 0)),o 2 (.cst (.t (.bool false)))] [1]) c98_1
def r98:List q8:=[.tmp 2]
def n98:Nat:=17
def c99_0:zW:=jS (jR [m 3 0,o 4 (.lens (.s 3)),jB 5 .geq 4 2,m 6 5,gm 7 6 jT 0,go 8 6 jT (.ixs (.s 7) (.c (jN 0))),go 9 6 jT (.bin .eql (.s 8) (.c (.t (.int .u8 95)))),p 10 6 9,m 11 10,gm 12 11 jT 0,go 13 11 jT (.ixs (.s 12) (.c (jN 1))),go 14 11 jT (.bin .eql (.s 13) (.c (.t (.int .u8 95)))),p 15 11 14,m 2 15] [2]) .ret
def c99:zW:=jS (jR [o 2 (.cst (.t (.bool false)))] [0]) c99_0
def r99:List q8:=[.tmp 2]
def n99:Nat:=16
def c100_0:zW:=jS (jR [o 1 (.bsl true 1 [[.int .i64 0]] [(0,(.c (jN 1)))]),o 2 (.build [.t (.str []),.zI] [(0,1,(.c (.t (.str [83,116,114,105,110,103])))),(1,1,(.s 1))]),jO (.st 2 (.s 0) (.s 2))] [0]) .ret
def c100:zW:=jS (jR [o 0 (.alloc [.t (.str []),.zI])] [0]) c100_0
def r100:List q8:=[.cell 0 true 2]
def n100:Nat:=3
def c101_0:zW:=jX [o 27 (.build [.t (.str []),.zI,.t (.str []),.zI,.zI] []),jO (.st 5 (.s 4) (.s 27)),o 5 (.cst (.t (.bool false)))] [4,5]
def c101_1:zW:=jR [m 12 6,jB 13 .add 12 1,m 6 13] [1,2,4,6]
def c101_2:zW:=jX [f 22 4 2,l 23 22,m 24 6,i 25 5 23 24,jL 26 5 25,jO (.st 5 (.s 4) (.s 26)),o 5 (.cst (.t (.bool true)))] [4,5]
def c101_4:zW:=jS (jR [f 14 4 2,l 15 14,m 16 6,i 17 5 15 16,f 18 0 17,l 19 18,m 20 1,b 21 .eql 19 20] [1,2,4,6,21]) (jC 21 c101_2 .skip)
def c101_7:zW:=jS (jS (jR [m 7 6,f 8 4 2,l 9 8,e 10 9,b 11 .lss 7 10] [1,2,4,6,11]) (jC 11 .skip (.exit 0))) (jS (.block 1 c101_4) c101_1)
def c101_10:zW:=jS (jS (jR [jI 6 0] [1,2,4,6]) (.block 0 (.loop c101_7))) c101_0
def c101:zW:=jS (jR [o 2 (.box 7 (.s 0)),o 4 (.alloc [.t (.str []),.zI,.t (.str []),.zI,.zI]),o 5 (.cst (.t (.bool false)))] [1,2,4]) c101_10
def r101:List q8:=[.cell 4 true 5,.tmp 5]
def n101:Nat:=28
def c102_0:zW:=jX [m 85 7,m 86 2,e 87 86,b 88 .eql 85 87,m 6 88] [6]
def c102_1:zW:=jR [m 15 8,jB 16 .add 15 1,m 8 16] [1,2,3,7,8]
def c102_2:zW:=jR [m 70 7,jB 71 .add 70 1,m 7 71] [1,2,3,7,8]
def c102_5:zW:=jS (jS (jD [m 49 10,jB 50 .neq 49 0,m 51 50,gm 52 51 jF 2,gm 53 51 jF 7,gi 54 51 jF 6 52 53,gf 55 51 jF 1 54,gL 56 51 jF 5 55,go 57 51 jF (.call 128 [(.s 56)]),go 58 51 jF (.un .not (.s 57)),q 59 51 58,m 60 59,gL 61 60 jF 5 9,gm 62 60 jF 2,gm 63 60 jF 7,gi 64 60 jF 6 62 63,gf 65 60 jF 1 64,gL 66 60 jF 5 65,go 67 60 jF (.call 31 [(.s 61),(.s 66)]),go 68 60 jF (.un .not (.s 67)),q 69 60 68] [[],[0],[1],[2],[2],[3,4,2],[5,2],[6,2],[7,2,2],[8,2],[2,9],[10,8],[11],[11],[11],[13,14,11],[15,11],[16,11],[12,17,11,11],[18,11],[11,19]] [1,2,3,7,8,69]) (jC 69 (jX [o 6 (.cst (.t (.bool false)))] [6]) .skip)) c102_2
def c102_6:zW:=jS (jD [jL 35 1 3,m 36 1,m 37 8,i 38 10 36 37,f 39 1 38,jL 40 2 39,m 41 2,m 42 7,i 43 6 41 42,f 44 1 43,jL 45 5 44,o 46 (.call 127 [(.s 35),(.s 40),(.s 45)]),m 34 46,x 47 34 0,x 48 34 1,o 9 (.alloc [jN 0,jN 0,.t (.str []),.zI,.zI]),jO (.st 5 (.s 9) (.s 47)),m 10 48] [[],[],[],[1,2],[3],[4],[],[],[6,7],[8],[9],[0,5,10],[11],[12],[12],[],[15,13,11,0,1,2,3,4,5,6,7,8,9,10,11,12,13,15],[14,16,0,1,2,3,4,5,6,7,8,9,10,11,12,13,14,15,16]] [1,2,3,7,8,9,10]) c102_5
def c102_9:zW:=jS (jR [m 72 1,m 73 8,i 74 10 72 73,f 75 3 74,l 76 75,m 77 76,gm 78 77 jF 1,gm 79 77 jF 8,gi 80 77 jF 10 78 79,gf 81 77 jF 1 80,gL 82 77 jF 2 81,go 83 77 jF (.call 129 [(.s 82)]),q 84 77 83] [1,2,3,7,8,84]) (jC 84 (jX [o 6 (.cst (.t (.bool false)))] [6]) .skip)
def c102_11:zW:=jS (jD [m 17 7,m 18 2,e 19 18,b 20 .lss 17 19,m 21 20,gm 22 21 jT 2,gm 23 21 jT 7,gi 24 21 jT 6 22 23,gf 25 21 jT 0 24,gl 26 21 jT 25,gm 27 21 jT 1,gm 28 21 jT 8,gi 29 21 jT 10 27 28,gf 30 21 jT 0 29,gl 31 21 jT 30,gb 32 21 jT .eql 26 31,p 33 21 32] [[],[],[1],[0,2],[3],[4],[4],[5,6,4],[7,4],[8,4],[4],[4],[10,11,4],[12,4],[13,4],[9,14,4],[4,15]] [1,2,3,7,8,33]) (jC 33 c102_6 c102_9)
def c102_14:zW:=jS (jS (jR [m 11 8,m 12 1,e 13 12,b 14 .lss 11 13] [1,2,3,7,8,14]) (jC 14 .skip (.exit 0))) (jS (.block 1 c102_11) c102_1)
def c102_17:zW:=jS (jS (jR [jI 8 0] [1,2,3,7,8]) (.block 0 (.loop c102_14))) c102_0
def c102:zW:=jS (jR [o 3 (.box 1 (.s 0)),o 6 (.cst (.t (.bool false)))] [1,2,3]) (jS (jR [jI 7 0] [1,2,3,7]) c102_17)
def r102:List q8:=[.tmp 6]
def n102:Nat:=89
def c103_0:zW:=jS (jR [m 13 1,o 14 (.call 116 [(.s 13)]),m 15 14,gm 16 15 jF 6,gm 17 15 jF 16,gf 18 17 jT 0 5,gl 19 17 jT 18,gB 20 17 jT .eql 19 4,go 21 15 jF (.pick (.s 17) (.s 20) (.c (.t (.bool false)))),q 22 15 21,m 4 22] [4]) .ret
def c103_1:zW:=jS (jR [jL 8 1 2,m 9 1,o 10 (.call 37 [(.s 8),(.s 9)]),m 7 10,x 11 7 0,x 12 7 1,o 5 (.alloc [jN 0,.t (.str []),.zI,.zI,.zI,.zI,.zI]),jO (.st 7 (.s 5) (.s 11)),m 6 12] [1,5,6]) c103_0
def c103:zW:=jS (jR [o 2 (.box 1 (.s 0)),o 4 (.cst (.t (.bool false)))] [1,2]) c103_1
def r103:List q8:=[.tmp 4]
def n103:Nat:=23
def c104_1:zW:=jR [jB 27 .add 13 1,m 13 27] [0,1,5,11,12,13]
def c104_2:zW:=jR [m 21 5,m 22 0,f 23 2 7,l 24 23,o 25 (.call 105 [(.s 22),(.s 24)]),o 26 (.call 79 [(.s 21),(.s 25)]),m 5 26] [0,1,5,11,12,13]
def c104_4:zW:=jS (jR [f 17 1 7,l 18 17,m 19 1,b 20 .eql 18 19] [0,1,5,7,11,12,13,20]) (jC 20 c104_2 .skip)
def c104_5:zW:=jS (jR [i 15 3 11 13,jL 16 3 15,o 7 (.alloc [.t (.str []),jN 0,.zI]),jO (.st 3 (.s 7) (.s 16))] [0,1,5,7,11,12,13]) c104_4
def c104_8:zW:=jS (jR [b 14 .lss 13 12] [0,1,5,11,12,13,14]) (jS (jC 14 .skip (.exit 0)) (jS (.block 1 c104_5) c104_1))
def c104_11:zW:=jS (jS (jR [m 8 0,n 9 8,f 10 6 9,l 11 10,e 12 11,jI 13 0] [0,1,5,11,12,13]) (.block 0 (.loop c104_8))) (jX [m 28 5,m 4 28] [4])
def c104:zW:=jS (jR [jI 4 0] [0,1]) (jS (jR [jI 5 0] [0,1,5]) c104_11)
def r104:List q8:=[.tmp 4]
def n104:Nat:=29
def c105_2:zW:=jR [m 20 5,m 21 8,o 22 (.zdT (.s 20) (.s 21)),m 5 22] [0,5,9,10,11]
def c105_5:zW:=jS (jS (jR [m 18 8,jB 19 .eql 18 0] [0,5,8,9,10,11,19]) (jC 19 (jX [jI 4 0] [4]) .skip)) c105_2
def c105_6:zW:=jS (jR [m 15 0,m 16 7,o 17 (.call 57 [(.s 15),(.s 16)]),m 8 17] [0,5,8,9,10,11]) c105_5
def c105_7:zW:=jS (jR [i 13 1 9 11,l 14 13,m 7 14] [0,5,7,9,10,11]) c105_6
def c105_10:zW:=jS (jR [b 12 .lss 11 10] [0,5,9,10,11,12]) (jS (jC 12 .skip (.exit 0)) (jS (.block 1 c105_7) (jR [jB 23 .add 11 1,m 11 23] [0,5,9,10,11])))
def c105_13:zW:=jS (jS (jR [m 9 1,e 10 9,jI 11 0] [0,5,9,10,11]) (.block 0 (.loop c105_10))) (jX [m 24 5,m 4 24] [4])
def c105:zW:=jS (jR [jI 4 0] [0,1]) (jS (jR [jI 5 0] [0,1,5]) c105_13)
def r105:List q8:=[.tmp 4]
def n105:Nat:=25
def c109_4:zW:=jS (jR [m 11 1,m 12 0,m 13 5,i 14 1 12 13,l 15 14,b 16 .eql 11 15] [0,1,5,7,8,16]) (jC 16 (jX [m 17 5,m 4 17] [4]) .skip)
def c109_11:zW:=jS (jS (jR [m 6 0,e 7 6,jI 8 0] [0,1,7,8]) (.block 0 (.loop (jS (jR [b 9 .lss 8 7] [0,1,7,8,9]) (jS (jC 9 .skip (.exit 0)) (jS (.block 1 (jS (jR [m 10 8,m 5 10] [0,1,5,7,8]) c109_4)) (jR [jB 18 .add 8 1,m 8 18] [0,1,7,8]))))))) (jX [jI 4 (-1)] [4])
def c109:zW:=jS (jR [jI 4 0] [0,1]) c109_11
def r109:List q8:=[.tmp 4]
def n109:Nat:=19
def c110_0:zW:=jS (jR [m 3 0,o 4 (.bin .geq (.s 3) (.c (.t (.int .u8 65)))),m 5 4,gm 6 5 jT 0,go 7 5 jT (.bin .leq (.s 6) (.c (.t (.int .u8 90)))),p 8 5 7,m 9 8,gm 10 9 jF 0,go 11 9 jF (.bin .geq (.s 10) (.c (.t (.int .u8 97)))),gm 12 9 jF 11,gm 13 12 jT 0,go 14 12 jT (.bin .leq (.s 13) (.c (.t (.int .u8 122)))),go 15 9 jF (.pick (.s 12) (.s 14) (.c (.t (.bool false)))),q 16 9 15,m 17 16,gm 18 17 jF 0,go 19 17 jF (.bin .eql (.s 18) (.c (.t (.int .u8 95)))),q 20 17 19,m 2 20] [2]) .ret
def c110:zW:=jS (jR [o 2 (.cst (.t (.bool false)))] [0]) c110_0
def r110:List q8:=[.tmp 2]
def n110:Nat:=21
def c111_0:zW:=jS (jR [m 3 0,o 4 (.bin .geq (.s 3) (.c (.t (.int .u8 48)))),m 5 4,gm 6 5 jT 0,go 7 5 jT (.bin .leq (.s 6) (.c (.t (.int .u8 57)))),p 8 5 7,m 2 8] [2]) .ret
def c111:zW:=jS (jR [o 2 (.cst (.t (.bool false)))] [0]) c111_0
def r111:List q8:=[.tmp 2]
def n111:Nat:=9
def c112_0:zW:=jS (jR [jL 3 5 1,o 4 (.call 130 [(.s 3)]),jB 5 .leq 4 4096,m 6 5,gL 7 6 jT 5 1,go 8 6 jT (.call 131 [(.s 7)]),gB 9 6 jT .leq 8 24,p 10 6 9,m 11 10,gL 12 11 jT 5 1,go 13 11 jT (.call 132 [(.s 12),(.c (.t (.bool true)))]),p 14 11 13,m 2 14] [2]) .ret
def c112:zW:=jS (jR [o 1 (.box 5 (.s 0)),o 2 (.cst (.t (.bool false)))] [1]) c112_0
def r112:List q8:=[.tmp 2]
def n112:Nat:=15
def c113_0:zW:=jX [f 18 0 1,l 19 18,jB 20 .neq 19 7,m 2 20] [2]
def c113_4:zW:=jS (jR [f 11 3 1,l 12 11,m 13 3,i 14 5 12 13,jL 15 5 14,o 16 (.call 113 [(.s 15)]),u 17 16] [1,3,17]) (jC 17 (jX [o 2 (.cst (.t (.bool false)))] [2]) .skip)
def c113_7:zW:=jS (jS (jR [m 4 3,f 5 3 1,l 6 5,e 7 6,b 8 .lss 4 7] [1,3,8]) (jC 8 .skip (.exit 0))) (jS (.block 1 c113_4) (jR [m 9 3,jB 10 .add 9 1,m 3 10] [1,3]))
def c113:zW:=jS (jR [o 1 (.box 5 (.s 0)),o 2 (.cst (.t (.bool false)))] [1]) (jS (jS (jR [jI 3 0] [1,3]) (.block 0 (.loop c113_7))) c113_0)
def r113:List q8:=[.tmp 2]
def n113:Nat:=21
def c114_4:zW:=jS (jR [m 35 3,jB 36 .gtr 35 0,m 37 36,gf 38 37 jT 1 1,gl 39 37 jT 38,gm 40 37 jT 3,gi 41 37 jT 1 39 40,gl 42 37 jT 41,gB 43 37 jT .eql 42 1,p 44 37 43,m 45 44,gf 46 45 jT 1 1,gl 47 45 jT 46,gm 48 45 jT 3,gB 49 45 jT .sub 48 1,gi 50 45 jT 1 47 49,gl 51 45 jT 50,gB 52 45 jT .eql 51 1,p 53 45 52] [1,3,53]) (jC 53 (jX [o 2 (.cst (.t (.bool false)))] [2]) .skip)
def c114_7:zW:=jS (jS (jR [f 21 1 1,l 22 21,m 23 3,i 24 1 22 23,l 25 24,jB 26 .neq 25 1,m 27 26,gf 28 27 jT 1 1,gl 29 27 jT 28,gm 30 27 jT 3,gi 31 27 jT 1 29 30,gl 32 27 jT 31,gB 33 27 jT .neq 32 2,p 34 27 33] [1,3,34]) (jC 34 (jX [o 2 (.cst (.t (.bool false)))] [2]) .skip)) c114_4
def c114_10:zW:=jS (jS (jR [m 14 3,f 15 1 1,l 16 15,e 17 16,b 18 .lss 14 17] [1,3,18]) (jC 18 .skip (.exit 0))) (jS (.block 1 c114_7) (jR [m 19 3,jB 20 .add 19 1,m 3 20] [1,3]))
def c114_16:zW:=jS (jS (jR [f 4 0 1,l 5 4,o 6 (.call 86 [(.s 5)]),u 7 6,m 8 7,gf 9 8 jF 1 1,gl 10 8 jF 9,ge 11 8 jF 10,gB 12 8 jF .gtr 11 24,q 13 8 12] [1,13]) (jC 13 (jX [o 2 (.cst (.t (.bool false)))] [2]) .skip)) (jS (jS (jR [jI 3 0] [1,3]) (.block 0 (.loop c114_10))) (jX [o 2 (.cst (.t (.bool true)))] [2]))
def c114:zW:=jS (jR [o 1 (.box 2 (.s 0)),o 2 (.cst (.t (.bool false)))] [1]) c114_16
def r114:List q8:=[.tmp 2]
def n114:Nat:=54
def c115_0:zW:=jS (jR [f 3 0 1,l 4 3,jB 5 .eql 4 0,m 6 5,gf 7 6 jT 1 1,gl 8 6 jT 7,gB 9 6 jT .eql 8 0,p 10 6 9,m 11 10,gf 12 11 jT 2 1,gl 13 11 jT 12,go 14 11 jT (.bin .eql (.s 13) (.c (.t (.str [])))),p 15 11 14,m 16 15,gf 17 16 jT 3 1,gl 18 16 jT 17,ge 19 16 jT 18,gB 20 16 jT .eql 19 0,p 21 16 20,m 22 21,gf 23 22 jT 4 1,gl 24 22 jT 23,ge 25 22 jT 24,gB 26 22 jT .eql 25 0,p 27 22 26,m 2 27] [2]) .ret
def c115:zW:=jS (jR [o 1 (.box 5 (.s 0)),o 2 (.cst (.t (.bool false)))] [1]) c115_0
def r115:List q8:=[.tmp 2]
def n115:Nat:=28
def c116_0:zW:=jS (jR [m 3 0,o 4 (.bin .eql (.s 3) (.c (.t (.str [73,110,116])))),m 5 4,gm 6 5 jF 0,go 7 5 jF (.bin .eql (.s 6) (.c (.t (.str [83,116,114,105,110,103])))),q 8 5 7,m 9 8,gm 10 9 jF 0,go 11 9 jF (.bin .eql (.s 10) (.c (.t (.str [66,111,111,108,101,97,110])))),q 12 9 11,m 13 12,gm 14 13 jF 0,go 15 13 jF (.bin .eql (.s 14) (.c (.t (.str [73,68])))),q 16 13 15,m 2 16] [2]) .ret
def c116:zW:=jS (jR [o 2 (.cst (.t (.bool false)))] [0]) c116_0
def r116:List q8:=[.tmp 2]
def n116:Nat:=17
def c117_1:zW:=jR [m 22 9,m 23 3,o 24 (.build [jN 0,.t (.str [])] [(0,1,(.c (jN 7))),(1,1,(.s 23))]),o 25 (.bsl false 2 [[.int .i64 0,.str []]] [(0,(.s 24))]),o 26 (.app 2 24 (.s 22) (.s 25)),m 9 26] [9]
def c117_3:zW:=jS (jS (jR [m 21 2] [3,9,21]) (jC 21 c117_1 .skip)) (jX [m 27 9,m 8 27] [8])
def c117_4:zW:=jR [m 16 9,m 17 3,o 18 (.build [jN 0,.t (.str [])] [(0,1,(.c (jN 6))),(1,1,(.s 17))]),o 19 (.bsl false 2 [[.int .i64 0,.str []]] [(0,(.s 18))]),o 20 (.app 2 24 (.s 16) (.s 19)),m 9 20] [2,3,9]
def c117_6:zW:=jS (jS (jR [m 10 1,m 11 10,gm 12 11 jF 0,go 13 11 jF (.call 133 [(.s 12)]),go 14 11 jF (.un .not (.s 13)),q 15 11 14] [2,3,9,15]) (jC 15 c117_4 .skip)) c117_3
def c117_7:zW:=jS (jR [o 9 (.cst (.zI))] [0,1,2,3,9]) c117_6
def c117:zW:=jS (jR [o 8 (.cst (.zI))] [0,1,2,3]) c117_7
def r117:List q8:=[.tmp 8]
def n117:Nat:=28
def c118_1:zW:=jX [f 8 4 1,l 9 8,e 10 9,jB 11 .eql 10 0,m 2 11] [2]
def c118_2:zW:=jX [f 15 5 1,l 16 15,e 17 16,jB 18 .eql 17 0,m 2 18] [2]
def c118_3:zW:=jX [f 21 6 1,l 22 21,e 23 22,jB 24 .eql 23 0,m 2 24] [2]
def c118_5:zW:=jS (jR [jB 20 .eql 4 5,m 19 20] [1,19]) (jC 19 c118_3 .skip)
def c118_9:zW:=jS (jS (jR [jB 13 .eql 4 3,m 12 13] [1,4,12]) (jC 12 .skip (jR [jB 14 .eql 4 4,m 12 14] [1,4,12]))) (jC 12 c118_2 c118_5)
def c118_13:zW:=jS (jS (jR [jB 6 .eql 4 1,m 5 6] [1,4,5]) (jC 5 .skip (jR [jB 7 .eql 4 2,m 5 7] [1,4,5]))) (jC 5 c118_1 c118_9)
def c118_15:zW:=jS (jS (jR [f 3 0 1,l 4 3] [1,4]) (.block 0 c118_13)) (jX [o 2 (.cst (.t (.bool false)))] [2])
def c118:zW:=jS (jR [o 1 (.box 7 (.s 0)),o 2 (.cst (.t (.bool false)))] [1]) c118_15
def r118:List q8:=[.tmp 2]
def n118:Nat:=25
def c119_0:zW:=jX [m 38 5,f 39 1 3,l 40 39,o 41 (.call 135 [(.s 38),(.s 40)]),m 4 41] [4]
def c119_1:zW:=jR [m 21 6,jB 22 .add 21 1,m 6 22] [2,3,5,6]
def c119_2:zW:=jR [jL 32 1 2,jL 33 7 7,f 34 1 3,l 35 34,m 36 5,o 37 (.call 134 [(.s 32),(.s 33),(.s 35),(.s 36)]),m 5 37] [2,3,5,6]
def c119_3:zW:=jS (jD [jL 24 1 2,m 25 5,m 26 6,i 27 1 25 26,l 28 27,o 29 (.call 37 [(.s 24),(.s 28)]),m 23 29,x 30 23 0,x 31 23 1,o 7 (.alloc [jN 0,.t (.str []),.zI,.zI,.zI,.zI,.zI]),jO (.st 7 (.s 7) (.s 30)),m 8 31] [[],[],[],[1,2],[3],[0,4],[5],[6],[6],[],[9,7,5,0,1,2,3,4,5,6,7,9],[8,10,0,1,2,3,4,5,6,7,8,9,10]] [2,3,5,6,7]) c119_2
def c119_6:zW:=jS (jS (jR [m 17 6,m 18 5,e 19 18,b 20 .lss 17 19] [2,3,5,6,20]) (jC 20 .skip (.exit 0))) (jS (.block 1 c119_3) c119_1)
def c119_9:zW:=jS (jS (jR [jI 6 0] [2,3,5,6]) (.block 0 (.loop c119_6))) c119_0
def c119_10:zW:=jS (jR [jL 12 1 2,jL 13 7 3,f 14 1 3,l 15 14,o 16 (.call 134 [(.s 12),(.s 13),(.s 15),(.c (.zI))]),m 5 16] [2,3,5]) c119_9
def c119_13:zW:=jS (jS (jR [f 9 0 3,l 10 9,jB 11 .neq 10 5] [2,3,11]) (jC 11 (jX [o 4 (.cst (.t (.bool false)))] [4]) .skip)) c119_10
def c119:zW:=jS (jR [o 2 (.box 1 (.s 0)),o 3 (.box 7 (.s 1)),o 4 (.cst (.t (.bool false)))] [2,3]) c119_13
def r119:List q8:=[.tmp 4]
def n119:Nat:=42
def c120_0:zW:=jX [m 13 1,o 14 (.call 116 [(.s 13)]),m 15 14,gm 16 15 jF 6,q 17 15 16,m 4 17] [4]
def c120_1:zW:=jS (jR [jL 8 1 2,m 9 1,o 10 (.call 37 [(.s 8),(.s 9)]),m 7 10,x 11 7 0,x 12 7 1,o 5 (.alloc [jN 0,.t (.str []),.zI,.zI,.zI,.zI,.zI]),jO (.st 7 (.s 5) (.s 11)),m 6 12] [1,6]) c120_0
def c120:zW:=jS (jR [o 2 (.box 1 (.s 0)),o 4 (.cst (.t (.bool false)))] [1,2]) c120_1
def r120:List q8:=[.tmp 4]
def n120:Nat:=18
def c121_0:zW:=jX [o 24 (.build [.t (.str []),.t (.str []),.zI,.t (.bool false),jN 0,jN 0,.t (.str []),.zI,.zI,.zI] []),jO (.st 10 (.s 4) (.s 24)),o 5 (.cst (.t (.bool false)))] [4,5]
def c121_1:zW:=jR [m 11 6,jB 12 .add 11 1,m 6 12] [0,1,4,6]
def c121_2:zW:=jX [m 20 0,m 21 6,i 22 10 20 21,jL 23 10 22,jO (.st 10 (.s 4) (.s 23)),o 5 (.cst (.t (.bool true)))] [4,5]
def c121_4:zW:=jS (jR [m 13 0,m 14 6,i 15 10 13 14,f 16 0 15,l 17 16,m 18 1,b 19 .eql 17 18] [0,1,4,6,19]) (jC 19 c121_2 .skip)
def c121_7:zW:=jS (jS (jR [m 7 6,m 8 0,e 9 8,b 10 .lss 7 9] [0,1,4,6,10]) (jC 10 .skip (.exit 0))) (jS (.block 1 c121_4) c121_1)
def c121_10:zW:=jS (jS (jR [jI 6 0] [0,1,4,6]) (.block 0 (.loop c121_7))) c121_0
def c121:zW:=jS (jR [o 4 (.alloc [.t (.str []),.t (.str []),.zI,.t (.bool false),jN 0,jN 0,.t (.str []),.zI,.zI,.zI]),o 5 (.cst (.t (.bool false)))] [0,1,4]) c121_10
def r121:List q8:=[.cell 4 true 10,.tmp 5]
def n121:Nat:=25
def c122_0:zW:=jS (jR [jL 13 1 2,m 14 1,o 15 (.call 103 [(.s 13),(.s 14)]),m 16 15,gm 17 16 jF 6,gm 18 16 jF 17,gf 19 18 jT 0 5,gl 20 18 jT 19,gB 21 18 jT .eql 20 5,go 22 16 jF (.pick (.s 18) (.s 21) (.c (.t (.bool false)))),q 23 16 22,m 4 23] [4]) .ret
def c122_1:zW:=jS (jR [jL 8 1 2,m 9 1,o 10 (.call 37 [(.s 8),(.s 9)]),m 7 10,x 11 7 0,x 12 7 1,o 5 (.alloc [jN 0,.t (.str []),.zI,.zI,.zI,.zI,.zI]),jO (.st 7 (.s 5) (.s 11)),m 6 12] [1,2,5,6]) c122_0
def c122:zW:=jS (jR [o 2 (.box 1 (.s 0)),o 4 (.cst (.t (.bool false)))] [1,2]) c122_1
def r122:List q8:=[.tmp 4]
def n122:Nat:=24
def c123_3:zW:=jS (jS (jR [f 22 0 7,l 23 22,m 24 2,b 25 .neq 23 24] [25]) (jC 25 (jX [jI 6 9] [6]) .skip)) (jX [jI 6 0] [6])
def c123_6:zW:=jS (jS (jR [m 15 8,u 16 15,m 17 16,gm 18 17 jT 1,go 19 17 jT (.call 116 [(.s 18)]),go 20 17 jT (.un .not (.s 19)),p 21 17 20] [2,7,21]) (jC 21 (jX [jI 6 8] [6]) .skip)) c123_3
def c123_7:zW:=jS (jR [jL 10 1 3,m 11 1,o 12 (.call 37 [(.s 10),(.s 11)]),m 9 12,x 13 9 0,x 14 9 1,o 7 (.alloc [jN 0,.t (.str []),.zI,.zI,.zI,.zI,.zI]),jO (.st 7 (.s 7) (.s 13)),m 8 14] [1,2,7,8]) c123_6
def c123:zW:=jS (jR [o 3 (.box 1 (.s 0)),jI 6 0] [1,2,3]) c123_7
def r123:List q8:=[.tmp 6]
def n123:Nat:=26
def c124_1:zW:=jR [m 99 14,jB 100 .add 99 1,m 14 100] [5,7,8,10,14]
def c124_2:zW:=jR [m 133 10,m 134 7,o 135 (.bin .add (.s 134) (.c (.t (.str [40])))),f 136 1 8,l 137 136,m 138 14,i 139 10 137 138,f 140 0 139,l 141 140,b 142 .add 135 141,o 143 (.bin .add (.s 142) (.c (.t (.str [41])))),o 144 (.build [jN 0,.t (.str [])] [(0,1,(.c (jN 22))),(1,1,(.s 143))]),o 145 (.bsl false 2 [[.int .i64 0,.str []]] [(0,(.s 144))]),o 146 (.app 2 24 (.s 133) (.s 145)),m 10 146] [5,7,8,10,14]
def c124_4:zW:=jS (jR [m 113 16,u 114 113,m 115 114,gf 116 115 jT 1 8,gl 117 115 jT 116,gm 118 115 jT 14,gi 119 115 jT 10 117 118,gf 120 115 jT 1 119,gL 121 115 jT 2 120,go 122 115 jT (.call 129 [(.s 121)]),p 123 115 122,m 124 123,gf 125 124 jT 1 8,gl 126 124 jT 125,gm 127 124 jT 14,gi 128 124 jT 10 126 127,gf 129 124 jT 3 128,gl 130 124 jT 129,go 131 124 jT (.un .not (.s 130)),p 132 124 131] [5,7,8,10,14,132]) (jC 132 c124_2 .skip)
def c124_5:zW:=jS (jD [f 102 1 5,l 103 102,f 104 1 8,l 105 104,m 106 14,i 107 10 105 106,f 108 0 107,l 109 108,o 110 (.call 121 [(.s 103),(.s 109)]),m 101 110,x 111 101 0,x 112 101 1,o 15 (.alloc [.t (.str []),.t (.str []),.zI,.t (.bool false),jN 0,jN 0,.t (.str []),.zI,.zI,.zI]),jO (.st 10 (.s 15) (.s 111)),m 16 112] [[],[0],[],[2],[],[3,4],[5],[6],[1,7],[8],[9],[9],[],[12,10,8,0,1,2,3,4,5,6,7,8,9,10,12],[11,13,0,1,2,3,4,5,6,7,8,9,10,11,12,13]] [5,7,8,10,14,16]) c124_4
def c124_8:zW:=jS (jS (jR [m 94 14,f 95 1 8,l 96 95,e 97 96,b 98 .lss 94 97] [5,7,8,10,14,98]) (jC 98 .skip (.exit 2))) (jS (.block 3 c124_5) c124_1)
def c124_11:zW:=jS (jS (jR [jI 14 0] [5,7,8,10,14]) (.block 2 (.loop c124_8))) (jX [m 147 10,m 6 147] [6])
def c124_12:zW:=jR [m 52 11,jB 53 .add 52 1,m 11 53] [5,7,8,10,11]
def c124_13:zW:=jR [m 80 10,m 81 7,o 82 (.bin .add (.s 81) (.c (.t (.str [40])))),f 83 1 5,l 84 83,m 85 11,i 86 10 84 85,f 87 0 86,l 88 87,b 89 .add 82 88,o 90 (.bin .add (.s 89) (.c (.t (.str [41])))),o 91 (.build [jN 0,.t (.str [])] [(0,1,(.c (jN 22))),(1,1,(.s 90))]),o 92 (.bsl false 2 [[.int .i64 0,.str []]] [(0,(.s 91))]),o 93 (.app 2 24 (.s 80) (.s 92)),m 10 93] [5,7,8,10,11]
def c124_15:zW:=jS (jD [m 66 13,u 67 66,m 68 67,gf 69 68 jF 1 12,gL 70 68 jF 2 69,gf 71 68 jF 1 5,gl 72 68 jF 71,gm 73 68 jF 11,gi 74 68 jF 10 72 73,gf 75 68 jF 1 74,gL 76 68 jF 2 75,go 77 68 jF (.call 30 [(.s 70),(.s 76)]),go 78 68 jF (.un .not (.s 77)),q 79 68 78] [[],[0],[1],[2],[3,2],[2],[5,2],[2],[6,7,2],[8,2],[9,2],[4,10,2,2],[11,2],[2,12]] [5,7,8,10,11,79]) (jC 79 c124_13 .skip)
def c124_16:zW:=jS (jD [f 55 1 8,l 56 55,f 57 1 5,l 58 57,m 59 11,i 60 10 58 59,f 61 0 60,l 62 61,o 63 (.call 121 [(.s 56),(.s 62)]),m 54 63,x 64 54 0,x 65 54 1,o 12 (.alloc [.t (.str []),.t (.str []),.zI,.t (.bool false),jN 0,jN 0,.t (.str []),.zI,.zI,.zI]),jO (.st 10 (.s 12) (.s 64)),m 13 65] [[],[0],[],[2],[],[3,4],[5],[6],[1,7],[8],[9],[9],[],[12,10,8,0,1,2,3,4,5,6,7,8,9,10,12],[11,13,0,1,2,3,4,5,6,7,8,9,10,11,12,13]] [5,7,8,10,11,12,13]) c124_15
def c124_19:zW:=jS (jS (jR [m 47 11,f 48 1 5,l 49 48,e 50 49,b 51 .lss 47 50] [5,7,8,10,11,51]) (jC 51 .skip (.exit 0))) (jS (.block 1 c124_16) c124_12)
def c124_20:zW:=.loop c124_19
def c124_22:zW:=jS (jS (jR [jI 11 0] [5,7,8,10,11]) (.block 0 c124_20)) c124_11
def c124_23:zW:=jR [m 42 10,m 43 7,o 44 (.build [jN 0,.t (.str [])] [(0,1,(.c (jN 10))),(1,1,(.s 43))]),o 45 (.bsl false 2 [[.int .i64 0,.str []]] [(0,(.s 44))]),o 46 (.app 2 24 (.s 42) (.s 45)),m 10 46] [5,7,8,10]
def c124_25:zW:=jS (jS (jR [jL 35 1 3,f 36 2 8,jL 37 2 36,f 38 2 5,jL 39 2 38,o 40 (.call 136 [(.s 35),(.s 37),(.s 39)]),u 41 40] [5,7,8,10,41]) (jC 41 c124_23 .skip)) c124_22
def c124_26:zW:=jS (jR [o 10 (.cst (.zI))] [3,5,7,8,10]) c124_25
def c124_27:zW:=jS (jR [m 32 7,o 33 (.build [jN 0,.t (.str [])] [(0,1,(.c (jN 20))),(1,1,(.s 32))]),o 34 (.bsl true 2 [[.int .i64 0,.str []]] [(0,(.s 33))]),m 6 34] [6]) .ret
def c124_29:zW:=jS (jS (jR [m 30 9,u 31 30] [3,5,7,8,31]) (jC 31 c124_27 .skip)) c124_26
def c124_30:zW:=jS (jR [jL 24 7 4,f 25 0 5,l 26 25,o 27 (.call 101 [(.s 24),(.s 26)]),m 23 27,x 28 23 0,x 29 23 1,o 8 (.alloc [.t (.str []),.zI,.t (.str []),.zI,.zI]),jO (.st 5 (.s 8) (.s 28)),m 9 29] [3,5,7,8,9]) c124_29
def c124_31:zW:=jS (jR [f 17 1 4,l 18 17,o 19 (.bin .add (.s 18) (.c (.t (.str [46])))),f 20 0 5,l 21 20,b 22 .add 19 21,m 7 22] [3,4,5,7]) c124_30
def c124:zW:=jS (jR [o 3 (.box 1 (.s 0)),o 4 (.box 7 (.s 1)),o 5 (.box 5 (.s 2)),o 6 (.cst (.zI))] [3,4,5]) c124_31
def r124:List q8:=[.tmp 6]
def n124:Nat:=148
def c125_0:zW:=jX [m 25 10,jL 26 2 5,jL 27 5 6,o 28 (.call 138 [(.s 25),(.s 26),(.s 27)]),x 29 28 0,x 30 28 1,jO (.st 5 (.s 8) (.s 29)),m 9 30] [8,9]
def c125_1:zW:=jX [o 24 (.build [jN 0,jN 0,.t (.str []),.zI,.zI] []),jO (.st 5 (.s 8) (.s 24)),jI 9 8] [8,9]
def c125_3:zW:=jS (jS (jR [jL 15 1 4,f 16 0 5,l 17 16,o 18 (.call 122 [(.s 15),(.s 17)]),m 19 18,gm 20 19 jT 10,gL 21 19 jT 5 6,go 22 19 jT (.call 137 [(.s 20),(.s 21)]),p 23 19 22] [5,6,8,10,23]) (jC 23 c125_1 .skip)) c125_0
def c125_4:zW:=jS (jR [jL 11 1 4,jL 12 5 7,o 13 (.build [.zI,jN 0,jN 0,.t (.str []),.zI,.zI,.t (.bool false),jN 0,jN 0] [(0,1,(.s 11)),(1,5,(.s 12)),(6,1,(.c (.t (.bool true))))]),o 14 (.box 9 (.s 13)),m 10 14] [4,5,6,8,10]) c125_3
def c125:zW:=jS (jR [o 4 (.box 1 (.s 0)),o 5 (.box 2 (.s 1)),o 6 (.box 5 (.s 2)),o 7 (.box 5 (.s 3)),o 8 (.alloc [jN 0,jN 0,.t (.str []),.zI,.zI]),jI 9 0] [4,5,6,7,8]) c125_4
def r125:List q8:=[.cell 8 true 5,.tmp 9]
def n125:Nat:=31
def c126_0:zW:=jS (jD [f 7 0 1,l 8 7,o 9 (.bsl true 1 [] []),f 10 1 1,l 11 10,o 12 (.app 1 8 (.s 9) (.s 11)),o 13 (.build [.t (.str []),.zI] [(0,1,(.s 8)),(1,1,(.s 12))]),jO (.st 2 (.s 2) (.s 13))] [[],[0],[],[],[3],[2,4],[1,5],[6,5,0,1,2,3,4,5,6]] [2]) .ret
def c126_1:zW:=jX [jL 5 2 1,o 6 (.call 139 [(.s 5)]),jO (.st 2 (.s 2) (.s 6))] [2]
def c126_3:zW:=jS (jS (jR [jL 3 2 1,o 4 (.call 129 [(.s 3)])] [1,2,4]) (jC 4 c126_1 .skip)) c126_0
def c126:zW:=jS (jR [o 1 (.box 2 (.s 0)),o 2 (.alloc [.t (.str []),.zI])] [1,2]) c126_3
def r126:List q8:=[.cell 2 true 2]
def n126:Nat:=14
def c127_0:zW:=jX [m 12 8,jL 13 2 4,jL 14 5 5,o 15 (.call 138 [(.s 12),(.s 13),(.s 14)]),x 16 15 0,x 17 15 1,jO (.st 5 (.s 6) (.s 16)),m 7 17] [6,7]
def c127_1:zW:=jS (jR [jL 9 1 3,o 10 (.build [.zI,jN 0,jN 0,.t (.str []),.zI,.zI,.t (.bool false),jN 0,jN 0] [(0,1,(.s 9))]),o 11 (.box 9 (.s 10)),m 8 11] [4,5,6,8]) c127_0
def c127:zW:=jS (jR [o 3 (.box 1 (.s 0)),o 4 (.box 2 (.s 1)),o 5 (.box 5 (.s 2)),o 6 (.alloc [jN 0,jN 0,.t (.str []),.zI,.zI]),jI 7 0] [3,4,5,6]) c127_1
def r127:List q8:=[.cell 6 true 5,.tmp 7]
def n127:Nat:=18
def c128_0:zW:=jS (jR [jL 3 5 1,o 4 (.call 130 [(.s 3)]),jB 5 .leq 4 4096,m 6 5,gL 7 6 jT 5 1,go 8 6 jT (.call 131 [(.s 7)]),gB 9 6 jT .leq 8 24,p 10 6 9,m 11 10,gL 12 11 jT 5 1,go 13 11 jT (.call 132 [(.s 12),(.c (.t (.bool false)))]),p 14 11 13,m 2 14] [2]) .ret
def c128:zW:=jS (jR [o 1 (.box 5 (.s 0)),o 2 (.cst (.t (.bool false)))] [1]) c128_0
def r128:List q8:=[.tmp 2]
def n128:Nat:=15
def c129_0:zW:=jX [f 3 1 1,l 4 3,e 5 4,jB 6 .gtr 5 0,m 7 6,gf 8 7 jT 1 1,gl 9 7 jT 8,go 10 7 jT (.ia 1 (.s 9) (.c (jN 0))),gl 11 7 jT 10,gB 12 7 jT .eql 11 1,p 13 7 12,m 2 13] [2]
def c129:zW:=jS (jR [o 1 (.box 2 (.s 0)),o 2 (.cst (.t (.bool false)))] [1]) c129_0
def r129:List q8:=[.tmp 2]
def n129:Nat:=14
def c130_2:zW:=jR [m 12 3,f 13 3 1,l 14 13,m 15 4,i 16 5 14 15,jL 17 5 16,o 18 (.call 130 [(.s 17)]),b 19 .add 12 18,m 3 19] [1,3,4]
def c130_5:zW:=jS (jS (jR [m 5 4,f 6 3 1,l 7 6,e 8 7,b 9 .lss 5 8] [1,3,4,9]) (jC 9 .skip (.exit 0))) (jS (.block 1 c130_2) (jR [m 10 4,jB 11 .add 10 1,m 4 11] [1,3,4]))
def c130:zW:=jS (jR [o 1 (.box 5 (.s 0)),jI 2 0] [1]) (jS (jR [jI 3 1] [1,3]) (jS (jS (jR [jI 4 0] [1,3,4]) (.block 0 (.loop c130_5))) (jX [m 20 3,m 2 20] [2])))
def r130:List q8:=[.tmp 2]
def n130:Nat:=21
def c131_2:zW:=jR [m 12 3,f 13 3 1,l 14 13,m 15 4,i 16 5 14 15,jL 17 5 16,o 18 (.call 131 [(.s 17)]),o 19 (.zdT (.s 12) (.s 18)),m 3 19] [1,3,4]
def c131_5:zW:=jS (jS (jR [m 5 4,f 6 3 1,l 7 6,e 8 7,b 9 .lss 5 8] [1,3,4,9]) (jC 9 .skip (.exit 0))) (jS (.block 1 c131_2) (jR [m 10 4,jB 11 .add 10 1,m 4 11] [1,3,4]))
def c131:zW:=jS (jR [o 1 (.box 5 (.s 0)),jI 2 0] [1]) (jS (jR [jI 3 0] [1,3]) (jS (jS (jR [jI 4 0] [1,3,4]) (.block 0 (.loop c131_5))) (jX [m 20 3,jB 21 .add 20 1,m 2 21] [2])))
def r131:List q8:=[.tmp 2]
def n131:Nat:=22
def c132_4:zW:=jS (jR [f 35 3 2,l 36 35,m 37 6,i 38 5 36 37,jL 39 5 38,m 40 1,o 41 (.call 132 [(.s 39),(.s 40)]),u 42 41] [1,2,6,42]) (jC 42 (jX [o 4 (.cst (.t (.bool false)))] [4]) .skip)
def c132_7:zW:=jS (jS (jR [m 28 6,f 29 3 2,l 30 29,e 31 30,b 32 .lss 28 31] [1,2,6,32]) (jC 32 .skip (.exit 2))) (jS (.block 3 c132_4) (jR [m 33 6,jB 34 .add 33 1,m 6 34] [1,2,6]))
def c132_14:zW:=jS (jR [m 18 1,m 19 18,gf 20 19 jT 4 2,gl 21 19 jT 20,gm 22 19 jT 5,gi 23 19 jT 1 21 22,gl 24 19 jT 23,go 25 19 jT (.call 86 [(.s 24)]),go 26 19 jT (.un .not (.s 25)),p 27 19 26] [1,2,5,27]) (jC 27 (jX [o 4 (.cst (.t (.bool false)))] [4]) .skip)
def c132_17:zW:=jS (jS (jR [m 11 5,f 12 4 2,l 13 12,e 14 13,b 15 .lss 11 14] [1,2,5,15]) (jC 15 .skip (.exit 0))) (jS (.block 1 c132_14) (jR [m 16 5,jB 17 .add 16 1,m 5 17] [1,2,5]))
def c132_20:zW:=jS (jS (jR [jI 5 0] [1,2,5]) (.block 0 (.loop c132_17))) (jS (jS (jR [jI 6 0] [1,2,6]) (.block 2 (.loop c132_7))) (jX [o 4 (.cst (.t (.bool true)))] [4]))
def c132_23:zW:=jS (jS (jR [jL 7 5 2,m 8 1,o 9 (.call 140 [(.s 7),(.s 8)]),u 10 9] [1,2,10]) (jC 10 (jX [o 4 (.cst (.t (.bool false)))] [4]) .skip)) c132_20
def c132:zW:=jS (jR [o 2 (.box 5 (.s 0)),o 4 (.cst (.t (.bool false)))] [1,2]) c132_23
def r132:List q8:=[.tmp 4]
def n132:Nat:=43
def c133_0:zW:=jX [m 3 0,o 4 (.call 86 [(.s 3)]),m 5 4,gm 6 5 jT 0,go 7 5 jT (.call 99 [(.s 6)]),go 8 5 jT (.un .not (.s 7)),p 9 5 8,m 2 9] [2]
def c133:zW:=jS (jR [o 2 (.cst (.t (.bool false)))] [0]) c133_0
def r133:List q8:=[.tmp 2]
def n133:Nat:=10
def c134_1:zW:=jR [m 18 9,jB 19 .add 18 1,m 9 19] [2,3,4,5,9]
def c134_2:zW:=jR [m 56 3,f 57 0 10,l 58 57,o 59 (.bsl false 1 [[.str []]] [(0,(.s 58))]),o 60 (.app 1 16 (.s 56) (.s 59)),m 3 60] [2,3,4,5,9]
def c134_4:zW:=jS (jR [jL 33 2 10,o 34 (.call 141 [(.s 33)]),m 35 34,gf 36 35 jT 0 10,gl 37 35 jT 36,gm 38 35 jT 2,gb 39 35 jT .eql 37 38,gm 40 35 jT 39,gm 41 40 jF 12,gm 42 40 jF 41,gf 43 42 jT 0 11,gl 44 42 jT 43,gB 45 42 jT .eql 44 5,go 46 40 jF (.pick (.s 42) (.s 45) (.c (.t (.bool false)))),go 47 35 jT (.pick (.s 40) (.c (.t (.bool true))) (.s 46)),p 48 35 47,m 49 48,gm 50 49 jT 3,gf 51 49 jT 0 10,gl 52 49 jT 51,go 53 49 jT (.call 135 [(.s 50),(.s 52)]),go 54 49 jT (.un .not (.s 53)),p 55 49 54] [2,3,4,5,9,10,55]) (jC 55 c134_2 .skip)
def c134_5:zW:=jS (jR [jL 27 1 4,f 28 0 10,l 29 28,o 30 (.call 37 [(.s 27),(.s 29)]),m 26 30,x 31 26 0,x 32 26 1,o 11 (.alloc [jN 0,.t (.str []),.zI,.zI,.zI,.zI,.zI]),jO (.st 7 (.s 11) (.s 31)),m 12 32] [2,3,4,5,9,10,11,12]) c134_4
def c134_6:zW:=jS (jR [f 20 6 5,l 21 20,m 22 9,i 23 10 21 22,f 24 1 23,jL 25 2 24,o 10 (.alloc [.t (.str []),.zI]),jO (.st 2 (.s 10) (.s 25))] [2,3,4,5,9,10]) c134_5
def c134_9:zW:=jS (jS (jR [m 13 9,f 14 6 5,l 15 14,e 16 15,b 17 .lss 13 16] [2,3,4,5,9,17]) (jC 17 .skip (.exit 0))) (jS (.block 1 c134_6) c134_1)
def c134_12:zW:=jS (jS (jR [jI 9 0] [2,3,4,5,9]) (.block 0 (.loop c134_9))) (jX [m 61 3,m 8 61] [8])
def c134:zW:=jS (jR [o 4 (.box 1 (.s 0)),o 5 (.box 7 (.s 1)),o 8 (.cst (.zI))] [2,3,4,5]) c134_12
def r134:List q8:=[.tmp 8]
def n134:Nat:=62
def c135_4:zW:=jS (jR [m 12 0,m 13 5,i 14 1 12 13,l 15 14,m 16 1,b 17 .eql 15 16] [0,1,5,17]) (jC 17 (jX [o 4 (.cst (.t (.bool true)))] [4]) .skip)
def c135_7:zW:=jS (jS (jR [m 6 5,m 7 0,e 8 7,b 9 .lss 6 8] [0,1,5,9]) (jC 9 .skip (.exit 0))) (jS (.block 1 c135_4) (jR [m 10 5,jB 11 .add 10 1,m 5 11] [0,1,5]))
def c135:zW:=jS (jR [o 4 (.cst (.t (.bool false)))] [0,1]) (jS (jS (jR [jI 5 0] [0,1,5]) (.block 0 (.loop c135_7))) (jX [o 4 (.cst (.t (.bool false)))] [4]))
def r135:List q8:=[.tmp 4]
def n135:Nat:=18
def c136_0:zW:=jS (jR [m 48 8,u 49 48,m 50 49,gm 51 50 jT 10,go 52 50 jT (.un .not (.s 51)),p 53 50 52,m 54 53,gf 55 54 jT 0 4,gl 56 54 jT 55,gf 57 54 jT 0 5,gl 58 54 jT 57,gb 59 54 jT .eql 56 58,gm 60 54 jT 59,gL 61 60 jF 1 3,gf 62 60 jF 0 4,gl 63 60 jF 62,gf 64 60 jF 0 5,gl 65 60 jF 64,go 66 60 jF (.call 143 [(.s 61),(.s 63),(.s 65)]),go 67 54 jT (.pick (.s 60) (.c (.t (.bool true))) (.s 66)),p 68 54 67,m 6 68] [6]) .ret
def c136_1:zW:=jX [jL 44 1 3,jL 45 2 7,jL 46 2 9,o 47 (.call 136 [(.s 44),(.s 45),(.s 46)]),m 6 47] [6]
def c136_3:zW:=jS (jS (jR [m 40 8,m 41 40,gm 42 41 jT 10,p 43 41 42] [3,4,5,7,8,9,10,43]) (jC 43 c136_1 .skip)) c136_0
def c136_4:zW:=jS (jR [jL 36 2 5,o 37 (.call 142 [(.s 36)]),m 35 37,x 38 35 0,x 39 35 1,o 9 (.alloc [.t (.str []),.zI]),jO (.st 2 (.s 9) (.s 38)),m 10 39] [3,4,5,7,8,9,10]) c136_3
def c136_5:zW:=jS (jR [jL 31 2 4,o 32 (.call 142 [(.s 31)]),m 30 32,x 33 30 0,x 34 30 1,o 7 (.alloc [.t (.str []),.zI]),jO (.st 2 (.s 7) (.s 33)),m 8 34] [3,4,5,7,8]) c136_4
def c136_6:zW:=jS (jD [jL 25 1 3,jL 26 2 4,o 27 (.call 126 [(.s 26)]),jL 28 2 5,o 29 (.call 136 [(.s 25),(.s 27),(.s 28)]),m 6 29] [[],[],[1],[],[0,2,3,2],[4,4,0,1,2,3,4]] [6]) .ret
def c136_8:zW:=jS (jS (jR [jL 23 2 4,o 24 (.call 129 [(.s 23)])] [3,4,5,24]) (jC 24 c136_6 .skip)) c136_5
def c136_9:zW:=jS (jD [jL 13 2 4,o 14 (.call 129 [(.s 13)]),m 15 14,gL 16 15 jT 1 3,gL 17 15 jT 2 4,go 18 15 jT (.call 126 [(.s 17)]),gL 19 15 jT 2 5,go 20 15 jT (.call 126 [(.s 19)]),go 21 15 jT (.call 136 [(.s 16),(.s 18),(.s 20)]),p 22 15 21,m 6 22] [[],[0],[1,1],[2],[2],[4,2,2],[2],[6,5,2],[3,5,7,7,2],[2,8],[9,8,0,1,2,3,4,5,6,7,8,9]] [6]) .ret
def c136_11:zW:=jS (jS (jR [jL 11 2 5,o 12 (.call 129 [(.s 11)])] [3,4,5,12]) (jC 12 c136_9 .skip)) c136_8
def c136:zW:=jS (jR [o 3 (.box 1 (.s 0)),o 4 (.box 2 (.s 1)),o 5 (.box 2 (.s 2)),o 6 (.cst (.t (.bool false)))] [3,4,5]) c136_11
def r136:List q8:=[.tmp 6]
def n136:Nat:=69
def c137_1:zW:=jS (jD [m 18 0,n 19 18,f 20 1 19,jL 21 5 20,f 22 2 3,l 23 22,o 24 (.call 144 [(.s 21),(.s 23)]),m 17 24,x 25 17 0,x 26 17 1,o 5 (.alloc [jN 0,jN 0,.t (.str []),.zI,.zI]),jO (.st 5 (.s 5) (.s 25)),m 6 26] [[],[0],[1],[2],[],[4],[3,5],[6],[7],[7],[],[10,8,6,0,1,2,3,4,5,6,7,8,10],[9,11,0,1,2,3,4,5,6,7,8,9,10,11]] [6]) (jX [m 27 6,u 28 27,m 4 28] [4])
def c137_4:zW:=jS (jS (jR [m 7 0,n 8 7,f 9 6 8,l 10 9,u 11 10,m 12 11,gf 13 12 jF 0 3,gl 14 12 jF 13,gB 15 12 jF .neq 14 7,q 16 12 15] [0,3,16]) (jC 16 (jX [o 4 (.cst (.t (.bool false)))] [4]) .skip)) c137_1
def c137:zW:=jS (jR [o 3 (.box 5 (.s 1)),o 4 (.cst (.t (.bool false)))] [0,3]) c137_4
def r137:List q8:=[.tmp 4]
def n137:Nat:=29
def c138_0:zW:=jX [jL 23 5 8,jO (.st 5 (.s 6) (.s 23)),jI 7 0] [6,7]
def c138_1:zW:=jS (jD [o 18 (.build [jN 0,jN 0,.t (.str []),.zI,.zI] []),m 19 0,n 20 19,f 21 8 20,l 22 21,jO (.st 5 (.s 6) (.s 18)),m 7 22] [[],[],[1],[2],[3],[0,0],[4,5,0,1,2,3,4,5]] [6,7]) .ret
def c138_3:zW:=jS (jS (jR [m 13 0,n 14 13,f 15 8 14,l 16 15,jB 17 .neq 16 0] [0,6,8,17]) (jC 17 c138_1 .skip)) c138_0
def c138_4:zW:=jS (jR [m 9 0,jL 10 2 4,jL 11 5 5,o 12 (.call 145 [(.s 9),(.s 10),(.s 11),(.c (jN 1))]),o 8 (.alloc [jN 0,jN 0,.t (.str []),.zI,.zI]),jO (.st 5 (.s 8) (.s 12))] [0,6,8]) c138_3
def c138:zW:=jS (jR [o 4 (.box 2 (.s 1)),o 5 (.box 5 (.s 2)),o 6 (.alloc [jN 0,jN 0,.t (.str []),.zI,.zI]),jI 7 0] [0,4,5,6]) c138_4
def r138:List q8:=[.cell 6 true 5,.tmp 7]
def n138:Nat:=24
def c139_0:zW:=jS (jD [f 3 0 1,l 4 3,o 5 (.bsl true 1 [] []),f 6 1 1,l 7 6,o 8 (.sll 1 (.s 7) (some (.c (jN 1))) none),o 9 (.app 1 8 (.s 5) (.s 8)),o 10 (.build [.t (.str []),.zI] [(0,1,(.s 4)),(1,1,(.s 9))]),jO (.st 2 (.s 2) (.s 10))] [[],[0],[],[],[3],[4],[2,5],[1,6],[7,6,0,1,2,3,4,5,6,7]] [2]) .ret
def c139:zW:=jS (jR [o 1 (.box 2 (.s 0)),o 2 (.alloc [.t (.str []),.zI])] [1,2]) c139_0
def r139:List q8:=[.cell 2 true 2]
def n139:Nat:=11
def c140_1:zW:=jS (jR [f 9 1 2,l 10 9,jB 11 .eql 10 0,m 12 11,gf 13 12 jT 2 2,gl 14 12 jT 13,go 15 12 jT (.bin .eql (.s 14) (.c (.t (.str [])))),p 16 12 15,m 17 16,gf 18 17 jT 3 2,gl 19 17 jT 18,ge 20 17 jT 19,gB 21 17 jT .eql 20 0,p 22 17 21,m 23 22,gf 24 23 jT 4 2,gl 25 23 jT 24,ge 26 23 jT 25,gB 27 23 jT .eql 26 0,p 28 23 27,m 4 28] [4]) .ret
def c140_2:zW:=jS (jR [f 31 1 2,l 32 31,jB 33 .eql 32 0,m 34 33,gf 35 34 jF 1 2,gl 36 34 jF 35,gB 37 34 jF .eql 36 1,q 38 34 37,m 39 38,gf 40 39 jT 2 2,gl 41 39 jT 40,go 42 39 jT (.bin .eql (.s 41) (.c (.t (.str [])))),p 43 39 42,m 44 43,gf 45 44 jT 3 2,gl 46 44 jT 45,ge 47 44 jT 46,gB 48 44 jT .eql 47 0,p 49 44 48,m 50 49,gf 51 50 jT 4 2,gl 52 50 jT 51,ge 53 50 jT 52,gB 54 50 jT .eql 53 0,p 55 50 54,m 4 55] [4]) .ret
def c140_3:zW:=jS (jR [f 58 2 2,l 59 58,o 60 (.bin .eql (.s 59) (.c (.t (.str [])))),m 61 60,gf 62 61 jT 3 2,gl 63 61 jT 62,ge 64 61 jT 63,gB 65 61 jT .eql 64 0,p 66 61 65,m 67 66,gf 68 67 jT 4 2,gl 69 67 jT 68,ge 70 67 jT 69,gB 71 67 jT .eql 70 0,p 72 67 71,m 4 72] [4]) .ret
def c140_4:zW:=jX [f 75 1 2,l 76 75,jB 77 .eql 76 0,m 78 77,gf 79 78 jT 3 2,gl 80 78 jT 79,ge 81 78 jT 80,gB 82 78 jT .eql 81 0,p 83 78 82,m 84 83,gf 85 84 jT 4 2,gl 86 84 jT 85,ge 87 84 jT 86,gB 88 84 jT .eql 87 0,p 89 84 88,m 4 89] [4]
def c140_5:zW:=jS (jR [f 92 1 2,l 93 92,jB 94 .eql 93 0,m 95 94,gf 96 95 jT 3 2,gl 97 95 jT 96,ge 98 95 jT 97,gB 99 95 jT .eql 98 0,p 100 95 99,m 101 100,gf 102 101 jT 4 2,gl 103 101 jT 102,ge 104 101 jT 103,gB 105 101 jT .eql 104 0,p 106 101 105,m 107 106,gf 108 107 jT 2 2,gl 109 107 jT 108,go 110 107 jT (.call 86 [(.s 109)]),p 111 107 110,m 112 111,gf 113 112 jT 2 2,gl 114 112 jT 113,go 115 112 jT (.bin .neq (.s 114) (.c (.t (.str [116,114,117,101])))),p 116 112 115,m 117 116,gf 118 117 jT 2 2,gl 119 117 jT 118,go 120 117 jT (.bin .neq (.s 119) (.c (.t (.str [102,97,108,115,101])))),p 121 117 120,m 122 121,gf 123 122 jT 2 2,gl 124 122 jT 123,go 125 122 jT (.bin .neq (.s 124) (.c (.t (.str [110,117,108,108])))),p 126 122 125,m 4 126] [4]) .ret
def c140_6:zW:=jS (jR [f 129 1 2,l 130 129,jB 131 .eql 130 0,m 132 131,gf 133 132 jT 2 2,gl 134 132 jT 133,go 135 132 jT (.bin .eql (.s 134) (.c (.t (.str [])))),p 136 132 135,m 137 136,gf 138 137 jT 4 2,gl 139 137 jT 138,ge 140 137 jT 139,gB 141 137 jT .eql 140 0,p 142 137 141,m 4 142] [4]) .ret
def c140_7:zW:=jS (jR [f 145 1 2,l 146 145,jB 147 .eql 146 0,m 148 147,gf 149 148 jT 2 2,gl 150 148 jT 149,go 151 148 jT (.bin .eql (.s 150) (.c (.t (.str [])))),p 152 148 151,m 153 152,gf 154 153 jT 4 2,gl 155 153 jT 154,ge 156 153 jT 155,gf 157 153 jT 3 2,gl 158 153 jT 157,ge 159 153 jT 158,gb 160 153 jT .eql 156 159,p 161 153 160,m 162 161,gf 163 162 jT 4 2,gl 164 162 jT 163,go 165 162 jT (.call 146 [(.s 164)]),go 166 162 jT (.un .not (.s 165)),p 167 162 166,m 4 167] [4]) .ret
def c140_8:zW:=jX [m 170 1,m 171 170,gf 172 171 jT 1 2,gl 173 171 jT 172,gB 174 171 jT .eql 173 0,p 175 171 174,m 176 175,gf 177 176 jT 3 2,gl 178 176 jT 177,ge 179 176 jT 178,gB 180 176 jT .eql 179 0,p 181 176 180,m 182 181,gf 183 182 jT 4 2,gl 184 182 jT 183,ge 185 182 jT 184,gB 186 182 jT .eql 185 0,p 187 182 186,m 188 187,gf 189 188 jT 2 2,gl 190 188 jT 189,go 191 188 jT (.call 86 [(.s 190)]),p 192 188 191,m 4 192] [4]
def c140_10:zW:=jS (jR [jB 169 .eql 6 7,m 168 169] [1,2,168]) (jC 168 c140_8 .skip)
def c140_12:zW:=jS (jR [jB 144 .eql 6 6,m 143 144] [1,2,6,143]) (jC 143 c140_7 c140_10)
def c140_14:zW:=jS (jR [jB 128 .eql 6 5,m 127 128] [1,2,6,127]) (jC 127 c140_6 c140_12)
def c140_16:zW:=jS (jR [jB 91 .eql 6 4,m 90 91] [1,2,6,90]) (jC 90 c140_5 c140_14)
def c140_18:zW:=jS (jR [jB 74 .eql 6 3,m 73 74] [1,2,6,73]) (jC 73 c140_4 c140_16)
def c140_20:zW:=jS (jR [jB 57 .eql 6 2,m 56 57] [1,2,6,56]) (jC 56 c140_3 c140_18)
def c140_22:zW:=jS (jR [jB 30 .eql 6 1,m 29 30] [1,2,6,29]) (jC 29 c140_2 c140_20)
def c140_24:zW:=jS (jR [jB 8 .eql 6 0,m 7 8] [1,2,6,7]) (jC 7 c140_1 c140_22)
def c140_26:zW:=jS (jS (jR [f 5 0 2,l 6 5] [1,2,6]) (.block 0 c140_24)) (jX [o 4 (.cst (.t (.bool false)))] [4])
def c140:zW:=jS (jR [o 2 (.box 5 (.s 0)),o 4 (.cst (.t (.bool false)))] [1,2]) c140_26
def r140:List q8:=[.tmp 4]
def n140:Nat:=193
def c141_0:zW:=jX [f 3 1 1,l 4 3,e 5 4,jB 6 .eql 5 1,m 7 6,gf 8 7 jT 1 1,gl 9 7 jT 8,go 10 7 jT (.ia 1 (.s 9) (.c (jN 0))),gl 11 7 jT 10,gB 12 7 jT .eql 11 1,p 13 7 12,m 2 13] [2]
def c141:zW:=jS (jR [o 1 (.box 2 (.s 0)),o 2 (.cst (.t (.bool false)))] [1]) c141_0
def r141:List q8:=[.tmp 2]
def n141:Nat:=14
def c142_0:zW:=jX [jL 8 2 1,o 9 (.call 126 [(.s 8)]),o 10 (.call 139 [(.s 9)]),jO (.st 2 (.s 2) (.s 10)),o 3 (.cst (.t (.bool true)))] [2,3]
def c142_1:zW:=jX [o 7 (.build [.t (.str []),.zI] []),jO (.st 2 (.s 2) (.s 7)),o 3 (.cst (.t (.bool false)))] [2,3]
def c142_3:zW:=jS (jS (jR [jL 4 2 1,o 5 (.call 98 [(.s 4)]),u 6 5] [1,2,6]) (jC 6 c142_1 .skip)) c142_0
def c142:zW:=jS (jR [o 1 (.box 2 (.s 0)),o 2 (.alloc [.t (.str []),.zI]),o 3 (.cst (.t (.bool false)))] [1,2]) c142_3
def r142:List q8:=[.cell 2 true 2,.tmp 3]
def n142:Nat:=11
def c143_0:zW:=jX [jL 7 1 3,m 8 2,o 9 (.call 50 [(.s 7),(.s 8)]),m 10 1,o 11 (.call 74 [(.s 9),(.s 10)]),m 6 11] [6]
def c143:zW:=jS (jR [o 3 (.box 1 (.s 0)),o 6 (.cst (.t (.bool false)))] [1,2,3]) c143_0
def r143:List q8:=[.tmp 6]
def n143:Nat:=12
def c144_0:zW:=jX [o 37 (.build [jN 0,jN 0,.t (.str []),.zI,.zI] []),jO (.st 5 (.s 4) (.s 37)),o 5 (.cst (.t (.bool false)))] [4,5]
def c144_1:zW:=jR [m 16 6,jB 17 .add 16 1,m 6 17] [1,2,4,6]
def c144_2:zW:=jX [f 31 3 2,l 32 31,m 33 6,i 34 5 32 33,jL 35 5 34,o 36 (.call 147 [(.s 35)]),jO (.st 5 (.s 4) (.s 36)),o 5 (.cst (.t (.bool true)))] [4,5]
def c144_3:zW:=jX [o 30 (.build [jN 0,jN 0,.t (.str []),.zI,.zI] []),jO (.st 5 (.s 4) (.s 30)),o 5 (.cst (.t (.bool false)))] [4,5]
def c144_5:zW:=jS (jS (jR [m 25 6,f 26 3 2,l 27 26,e 28 27,b 29 .geq 25 28] [2,4,6,29]) (jC 29 c144_3 .skip)) c144_2
def c144_7:zW:=jS (jR [f 18 4 2,l 19 18,m 20 6,i 21 1 19 20,l 22 21,m 23 1,b 24 .eql 22 23] [1,2,4,6,24]) (jC 24 c144_5 .skip)
def c144_10:zW:=jS (jS (jR [m 11 6,f 12 4 2,l 13 12,e 14 13,b 15 .lss 11 14] [1,2,4,6,15]) (jC 15 .skip (.exit 0))) (jS (.block 1 c144_7) c144_1)
def c144_13:zW:=jS (jS (jR [jI 6 0] [1,2,4,6]) (.block 0 (.loop c144_10))) c144_0
def c144_14:zW:=jX [o 10 (.build [jN 0,jN 0,.t (.str []),.zI,.zI] []),jO (.st 5 (.s 4) (.s 10)),o 5 (.cst (.t (.bool false)))] [4,5]
def c144_16:zW:=jS (jS (jR [f 7 0 2,l 8 7,jB 9 .neq 8 6] [1,2,4,9]) (jC 9 c144_14 .skip)) c144_13
def c144:zW:=jS (jR [o 2 (.box 5 (.s 0)),o 4 (.alloc [jN 0,jN 0,.t (.str []),.zI,.zI]),o 5 (.cst (.t (.bool false)))] [1,2,4]) c144_16
def r144:List q8:=[.cell 4 true 5,.tmp 5]
def n144:Nat:=38
def c145_0:zW:=jX [m 106 0,jL 107 7 13,jL 108 5 6,m 109 3,o 110 (.call 154 [(.s 106),(.s 107),(.s 108),(.s 109)]),jO (.st 5 (.s 8) (.s 110))] [8]
def c145_1:zW:=jX [m 102 0,jL 103 7 13,jL 104 5 6,o 105 (.call 153 [(.s 102),(.s 103),(.s 104)]),jO (.st 5 (.s 8) (.s 105))] [8]
def c145_3:zW:=jS (jS (jR [f 99 0 13,l 100 99,jB 101 .eql 100 4] [0,3,6,8,13,101]) (jC 101 c145_1 .skip)) c145_0
def c145_4:zW:=jS (jD [m 90 0,n 91 90,f 92 0 91,jL 93 1 92,f 94 0 5,l 95 94,o 96 (.call 37 [(.s 93),(.s 95)]),m 89 96,x 97 89 0,x 98 89 1,o 13 (.alloc [jN 0,.t (.str []),.zI,.zI,.zI,.zI,.zI]),jO (.st 7 (.s 13) (.s 97)),m 14 98] [[],[0],[1],[2],[],[4],[3,5],[6],[7],[7],[],[10,8,6,0,1,2,3,4,5,6,7,8,10],[9,11,0,1,2,3,4,5,6,7,8,9,10,11]] [0,3,6,8,13]) c145_3
def c145_5:zW:=jX [m 84 0,f 85 0 5,l 86 85,jL 87 5 6,o 88 (.call 152 [(.s 84),(.s 86),(.s 87)]),jO (.st 5 (.s 8) (.s 88))] [8]
def c145_7:zW:=jS (jS (jR [f 81 0 5,l 82 81,o 83 (.call 116 [(.s 82)])] [0,3,5,6,8,83]) (jC 83 c145_5 .skip)) c145_4
def c145_8:zW:=jX [m 76 0,jL 77 2 11,jL 78 5 6,m 79 3,o 80 (.call 151 [(.s 76),(.s 77),(.s 78),(.s 79)]),jO (.st 5 (.s 8) (.s 80))] [8]
def c145_11:zW:=jS (jS (jR [jL 71 2 5,o 72 (.call 142 [(.s 71)]),m 70 72,x 73 70 0,x 74 70 1,o 11 (.alloc [.t (.str []),.zI]),jO (.st 2 (.s 11) (.s 73)),m 12 74] [0,3,5,6,8,11,12]) (jS (jR [m 75 12] [0,3,5,6,8,11,75]) (jC 75 c145_8 .skip))) c145_7
def c145_12:zW:=jX [o 69 (.build [jN 0,jN 0,.t (.str []),.zI,.zI] []),jO (.st 5 (.s 8) (.s 69))] [8]
def c145_13:zW:=jR [m 67 0,o 68 (.call 148 [(.s 67),(.c (jN 23))])] [8]
def c145_15:zW:=jS (jS (jR [jL 65 2 5,o 66 (.call 129 [(.s 65)])] [0,8,66]) (jC 66 c145_13 .skip)) c145_12
def c145_17:zW:=jS (jS (jR [f 62 0 6,l 63 62,jB 64 .eql 63 0] [0,3,5,6,8,64]) (jC 64 c145_15 .skip)) c145_11
def c145_18:zW:=jX [o 61 (.build [jN 0,jN 0,.t (.str []),.zI,.zI] []),jO (.st 5 (.s 8) (.s 61))] [8]
def c145_20:zW:=jS (jS (jR [m 56 0,n 57 56,f 58 8 57,l 59 58,jB 60 .neq 59 0] [0,3,5,6,8,60]) (jC 60 c145_18 .skip)) c145_17
def c145_21:zW:=jS (jR [m 53 0,m 54 3,o 55 (.call 150 [(.s 53),(.s 54)])] [0,3,5,6,8]) c145_20
def c145_22:zW:=jR [o 52 (.build [jN 0,jN 0,.t (.str []),.zI,.zI] []),jO (.st 5 (.s 6) (.s 52))] [0,3,5,6,8]
def c145_23:zW:=jX [m 48 0,jL 49 5 9,m 50 3,o 51 (.call 149 [(.s 48),(.s 49),(.s 50)]),jO (.st 5 (.s 8) (.s 51))] [8]
def c145_25:zW:=jS (jS (jR [f 45 0 9,l 46 45,jB 47 .neq 46 0] [0,3,5,6,8,9,47]) (jC 47 c145_23 .skip)) c145_22
def c145_26:zW:=jS (jD [m 36 0,n 37 36,f 38 1 37,jL 39 5 38,f 40 2 6,l 41 40,o 42 (.call 144 [(.s 39),(.s 41)]),m 35 42,x 43 35 0,x 44 35 1,o 9 (.alloc [jN 0,jN 0,.t (.str []),.zI,.zI]),jO (.st 5 (.s 9) (.s 43)),m 10 44] [[],[0],[1],[2],[],[4],[3,5],[6],[7],[7],[],[10,8,6,0,1,2,3,4,5,6,7,8,10],[9,11,0,1,2,3,4,5,6,7,8,9,10,11]] [0,3,5,6,8,9]) c145_25
def c145_28:zW:=jS (jS (jR [m 26 0,n 27 26,f 28 6 27,l 29 28,m 30 29,gf 31 30 jT 0 6,gl 32 30 jT 31,gB 33 30 jT .eql 32 7,p 34 30 33] [0,3,5,6,8,34]) (jC 34 c145_26 .skip)) c145_21
def c145_29:zW:=jX [o 25 (.build [jN 0,jN 0,.t (.str []),.zI,.zI] []),jO (.st 5 (.s 8) (.s 25))] [8]
def c145_30:zW:=jS (jR [m 23 0,o 24 (.call 148 [(.s 23),(.c (jN 10))])] [8]) c145_29
def c145_32:zW:=jS (jS (jD [m 15 0,n 16 15,f 17 0 16,jL 18 1 17,f 19 0 5,l 20 19,o 21 (.call 122 [(.s 18),(.s 20)]),u 22 21] [[],[0],[1],[2],[],[4],[3,5],[6]] [0,3,5,6,8,22]) (jC 22 c145_30 .skip)) c145_28
def c145:zW:=jS (jR [o 5 (.box 2 (.s 1)),o 6 (.box 5 (.s 2)),o 8 (.alloc [jN 0,jN 0,.t (.str []),.zI,.zI])] [0,3,5,6,8]) c145_32
def r145:List q8:=[.cell 8 true 5]
def n145:Nat:=111
def c146_5:zW:=jS (jD [m 16 0,m 17 3,i 18 1 16 17,l 19 18,m 20 0,m 21 4,i 22 1 20 21,l 23 22,b 24 .eql 19 23] [[],[],[0,1],[2],[],[],[4,5],[6],[3,7]] [0,3,4,24]) (jC 24 (jX [o 2 (.cst (.t (.bool true)))] [2]) .skip)
def c146_8:zW:=jS (jS (jR [m 11 4,m 12 3,b 13 .lss 11 12] [0,3,4,13]) (jC 13 .skip (.exit 2))) (jS (.block 3 c146_5) (jR [m 14 4,jB 15 .add 14 1,m 4 15] [0,3,4]))
def c146_14:zW:=jS (jS (jR [m 5 3,m 6 0,e 7 6,b 8 .lss 5 7] [0,3,8]) (jC 8 .skip (.exit 0))) (jS (.block 1 (jS (jR [jI 4 0] [0,3,4]) (.block 2 (.loop c146_8)))) (jR [m 9 3,jB 10 .add 9 1,m 3 10] [0,3]))
def c146:zW:=jS (jR [o 2 (.cst (.t (.bool false)))] [0]) (jS (jS (jR [jI 3 0] [0,3]) (.block 0 (.loop c146_14))) (jX [o 2 (.cst (.t (.bool false)))] [2]))
def r146:List q8:=[.tmp 2]
def n146:Nat:=25
def c147_0:zW:=jS (jD [f 3 0 1,l 4 3,f 5 1 1,l 6 5,f 7 2 1,l 8 7,f 9 3 1,l 10 9,o 11 (.call 155 [(.s 10)]),o 12 (.bsl true 1 [] []),f 13 4 1,l 14 13,o 15 (.app 1 16 (.s 12) (.s 14)),o 16 (.build [jN 0,jN 0,.t (.str []),.zI,.zI] [(0,1,(.s 4)),(1,1,(.s 6)),(2,1,(.s 8)),(3,1,(.s 11)),(4,1,(.s 15))]),jO (.st 5 (.s 2) (.s 16))] [[],[0],[],[2],[],[4],[],[6],[7],[],[],[10],[9,11,8],[1,3,5,8,12],[13,12,0,1,2,3,4,5,6,7,8,9,10,11,12,13]] [2]) .ret
def c147:zW:=jS (jR [o 1 (.box 5 (.s 0)),o 2 (.alloc [jN 0,jN 0,.t (.str []),.zI,.zI])] [1,2]) c147_0
def r147:List q8:=[.cell 2 true 5]
def n147:Nat:=17
def c148_0:zW:=jR [m 9 0,m 10 1,n 11 9,f 12 8 11,jO (.st 1 (.s 12) (.s 10))] []
def c148:zW:=jS (jR [m 4 0,n 5 4,f 6 8 5,l 7 6,jB 8 .eql 7 0] [0,1,8]) (jC 8 c148_0 .skip)
def r148:List q8:=[]
def n148:Nat:=13
def c150_0:zW:=jR [m 20 0,o 21 (.call 148 [(.s 20),(.c (jN 4))])] []
def c150_2:zW:=jS (jR [m 15 0,n 16 15,f 17 7 16,l 18 17,jB 19 .gtr 18 4096] [0,19]) (jC 19 c150_0 .skip)
def c150_3:zW:=jS (jR [m 8 0,n 9 8,f 10 7 9,l 11 10,jB 12 .add 11 1,n 13 8,f 14 7 13,jO (.st 1 (.s 14) (.s 12))] [0]) c150_2
def c150_4:zW:=jR [m 6 0,o 7 (.call 148 [(.s 6),(.c (jN 5))])] [0]
def c150:zW:=jS (jS (jR [m 4 1,jB 5 .gtr 4 24] [0,5]) (jC 5 c150_4 .skip)) c150_3
def r150:List q8:=[]
def n150:Nat:=22
def c151_0:zW:=jX [jL 49 5 10,jO (.st 5 (.s 8) (.s 49))] [8]
def c151_1:zW:=jR [m 32 11,jB 33 .add 32 1,m 11 33] [0,3,5,8,9,10,11]
def c151_2:zW:=jR [f 43 3 10,l 44 43,jL 45 5 12,o 46 (.bsl false 5 [[.int .i64 0,.int .i64 0,.str [],.lst [],.lst []]] [(0,(.s 45))]),o 47 (.app 5 80 (.s 44) (.s 46)),f 48 3 10,jO (.st 1 (.s 48) (.s 47))] [0,3,5,8,9,10,11]
def c151_3:zW:=jS (jD [m 34 0,jL 35 2 5,m 36 9,m 37 11,i 38 5 36 37,jL 39 5 38,m 40 3,jB 41 .add 40 1,o 42 (.call 145 [(.s 34),(.s 35),(.s 39),(.s 41)]),o 12 (.alloc [jN 0,jN 0,.t (.str []),.zI,.zI]),jO (.st 5 (.s 12) (.s 42))] [[],[],[],[],[2,3],[4],[],[6],[0,1,5,7],[],[9,8,8,0,1,2,3,4,5,6,7,8,9]] [0,3,5,8,9,10,11,12]) c151_2
def c151_6:zW:=jS (jS (jR [m 21 11,m 22 9,e 23 22,b 24 .lss 21 23,m 25 24,gm 26 25 jT 0,go 27 25 jT (.z3G (.s 26)),gf 28 25 jT 8 27,gl 29 25 jT 28,gB 30 25 jT .eql 29 0,p 31 25 30] [0,3,5,8,9,10,11,31]) (jC 31 .skip (.exit 0))) (jS (.block 1 c151_3) c151_1)
def c151_9:zW:=jS (jS (jR [jI 11 0] [0,3,5,8,9,10,11]) (.block 0 (.loop c151_6))) c151_0
def c151_10:zW:=jS (jR [o 20 (.build [jN 0,jN 0,.t (.str []),.zI,.zI] [(0,1,(.c (jN 5)))]),o 10 (.alloc [jN 0,jN 0,.t (.str []),.zI,.zI]),jO (.st 5 (.s 10) (.s 20))] [0,3,5,8,9,10]) c151_9
def c151_13:zW:=jS (jS (jR [f 15 0 6,l 16 15,jB 17 .eql 16 5] [0,3,5,6,8,9,17]) (jC 17 (jR [f 18 3 6,l 19 18,m 9 19] [0,3,5,8,9]) .skip)) c151_10
def c151_14:zW:=jS (jR [jL 13 5 6,o 14 (.bsl true 5 [[.int .i64 0,.int .i64 0,.str [],.lst [],.lst []]] [(0,(.s 13))]),m 9 14] [0,3,5,6,8,9]) c151_13
def c151:zW:=jS (jR [o 5 (.box 2 (.s 1)),o 6 (.box 5 (.s 2)),o 8 (.alloc [jN 0,jN 0,.t (.str []),.zI,.zI])] [0,3,5,6,8]) c151_14
def r151:List q8:=[.cell 8 true 5]
def n151:Nat:=50
def c152_0:zW:=jX [o 63 (.build [jN 0,jN 0,.t (.str []),.zI,.zI] []),jO (.st 5 (.s 6) (.s 63))] [6]
def c152_1:zW:=jS (jR [m 61 0,o 62 (.call 148 [(.s 61),(.c (jN 23))])] [6]) c152_0
def c152_2:zW:=jX [jL 25 5 5,jO (.st 5 (.s 6) (.s 25))] [6]
def c152_3:zW:=jX [jL 48 5 5,jO (.st 5 (.s 6) (.s 48))] [6]
def c152_4:zW:=jS (jR [f 57 1 5,l 58 57,o 59 (.call 156 [(.s 58)]),o 60 (.build [jN 0,jN 0,.t (.str []),.zI,.zI] [(0,1,(.c (jN 3))),(2,1,(.s 59))]),jO (.st 5 (.s 6) (.s 60))] [6]) .ret
def c152_6:zW:=jS (jR [m 50 1,o 51 (.bin .eql (.s 50) (.c (.t (.str [73,68])))),m 52 51,gf 53 52 jT 0 5,gl 54 52 jT 53,gB 55 52 jT .eql 54 2,p 56 52 55,m 49 56] [0,5,6,49]) (jC 49 c152_4 .skip)
def c152_8:zW:=jR [m 41 1,o 42 (.bin .eql (.s 41) (.c (.t (.str [73,68])))),m 43 42,gf 44 43 jT 0 5,gl 45 43 jT 44,gB 46 43 jT .eql 45 3,p 47 43 46,m 26 47] [0,1,5,6,26]
def c152_10:zW:=jS (jR [m 34 1,o 35 (.bin .eql (.s 34) (.c (.t (.str [66,111,111,108,101,97,110])))),m 36 35,gf 37 36 jT 0 5,gl 38 36 jT 37,gB 39 36 jT .eql 38 1,p 40 36 39,m 26 40] [0,1,5,6,26]) (jC 26 .skip c152_8)
def c152_12:zW:=jS (jS (jR [m 27 1,o 28 (.bin .eql (.s 27) (.c (.t (.str [83,116,114,105,110,103])))),m 29 28,gf 30 29 jT 0 5,gl 31 29 jT 30,gB 32 29 jT .eql 31 3,p 33 29 32,m 26 33] [0,1,5,6,26]) (jC 26 .skip c152_10)) (jC 26 c152_3 c152_6)
def c152_14:zW:=jS (jR [m 8 1,o 9 (.bin .eql (.s 8) (.c (.t (.str [73,110,116])))),m 10 9,gf 11 10 jT 0 5,gl 12 10 jT 11,gB 13 10 jT .eql 12 2,p 14 10 13,m 15 14,gf 16 15 jT 1 5,gl 17 15 jT 16,gB 18 15 jT .geq 17 (-2147483648),p 19 15 18,m 20 19,gf 21 20 jT 1 5,gl 22 20 jT 21,gB 23 20 jT .lss 22 2147483648,p 24 20 23,m 7 24] [0,1,5,6,7]) (jC 7 c152_2 c152_12)
def c152:zW:=jS (jR [o 5 (.box 5 (.s 2)),o 6 (.alloc [jN 0,jN 0,.t (.str []),.zI,.zI])] [0,1,5,6]) (jS (.block 0 c152_14) c152_1)
def r152:List q8:=[.cell 6 true 5]
def n152:Nat:=64
def c153_0:zW:=jX [o 44 (.build [jN 0,jN 0,.t (.str []),.zI,.zI] []),jO (.st 5 (.s 6) (.s 44))] [6]
def c153_1:zW:=jS (jR [m 42 0,o 43 (.call 148 [(.s 42),(.c (jN 23))])] [6]) c153_0
def c153_2:zW:=jR [m 28 7,jB 29 .add 28 1,m 7 29] [0,4,5,6,7]
def c153_3:zW:=jS (jR [f 39 2 5,l 40 39,o 41 (.build [jN 0,jN 0,.t (.str []),.zI,.zI] [(0,1,(.c (jN 4))),(2,1,(.s 40))]),jO (.st 5 (.s 6) (.s 41))] [6]) .ret
def c153_5:zW:=jS (jD [f 30 5 4,l 31 30,m 32 7,i 33 2 31 32,f 34 0 33,l 35 34,f 36 2 5,l 37 36,b 38 .eql 35 37] [[],[0],[],[1,2],[3],[4],[],[6],[5,7]] [0,4,5,6,7,38]) (jC 38 c153_3 .skip)
def c153_8:zW:=jS (jS (jR [m 23 7,f 24 5 4,l 25 24,e 26 25,b 27 .lss 23 26] [0,4,5,6,7,27]) (jC 27 .skip (.exit 0))) (jS (.block 1 c153_5) c153_2)
def c153_13:zW:=jS (jS (jR [f 8 0 5,l 9 8,jB 10 .eql 9 4,m 11 10,gf 12 11 jF 0 5,gl 13 11 jF 12,gB 14 11 jF .eql 13 3,gm 15 11 jF 14,gm 16 15 jT 0,go 17 15 jT (.z3G (.s 16)),gf 18 15 jT 6 17,gl 19 15 jT 18,go 20 15 jT (.un .not (.s 19)),go 21 11 jF (.pick (.s 15) (.s 20) (.c (.t (.bool false)))),q 22 11 21] [0,4,5,6,22]) (jC 22 (jS (jR [jI 7 0] [0,4,5,6,7]) (.block 0 (.loop c153_8))) .skip)) c153_1
def c153:zW:=jS (jR [o 4 (.box 7 (.s 1)),o 5 (.box 5 (.s 2)),o 6 (.alloc [jN 0,jN 0,.t (.str []),.zI,.zI])] [0,4,5,6]) c153_13
def r153:List q8:=[.cell 6 true 5]
def n153:Nat:=45
def c154_0:zW:=jX [jL 122 5 12,jO (.st 5 (.s 8) (.s 122))] [8]
def c154_1:zW:=jR [m 59 13,jB 60 .add 59 1,m 13 60] [0,3,5,6,8,12,13]
def c154_2:zW:=jR [f 116 3 12,l 117 116,jL 118 5 17,o 119 (.bsl false 5 [[.int .i64 0,.int .i64 0,.str [],.lst [],.lst []]] [(0,(.s 118))]),o 120 (.app 5 80 (.s 117) (.s 119)),f 121 3 12,jO (.st 1 (.s 121) (.s 120))] [0,3,5,6,8,12,13]
def c154_3:zW:=jS (jR [f 109 4 12,l 110 109,f 111 0 14,l 112 111,o 113 (.bsl false 1 [[.str []]] [(0,(.s 112))]),o 114 (.app 1 16 (.s 110) (.s 113)),f 115 4 12,jO (.st 1 (.s 115) (.s 114))] [0,3,5,6,8,12,13,17]) c154_2
def c154_4:zW:=jR [m 85 0,f 86 1 14,jL 87 2 86,jL 88 5 15,m 89 3,jB 90 .add 89 1,o 91 (.call 145 [(.s 85),(.s 87),(.s 88),(.s 90)]),jO (.st 5 (.s 17) (.s 91))] [0,3,5,6,8,12,13,14,17]
def c154_5:zW:=jR [m 95 0,f 96 1 14,jL 97 2 96,f 98 4 14,jL 99 5 98,m 100 3,jB 101 .add 100 1,o 102 (.call 158 [(.s 95),(.s 97),(.s 99),(.s 101)]),jO (.st 5 (.s 17) (.s 102))] [0,3,5,6,8,12,13,14,17]
def c154_6:zW:=jR [m 107 0,o 108 (.call 148 [(.s 107),(.c (jN 22))])] [0,3,5,6,8,12,13,14,17]
def c154_8:zW:=jS (jR [f 104 1 14,jL 105 2 104,o 106 (.call 129 [(.s 105)]),m 103 106] [0,3,5,6,8,12,13,14,17,103]) (jC 103 c154_6 (.exit 3))
def c154_10:zW:=jS (jR [f 93 3 14,l 94 93,m 92 94] [0,3,5,6,8,12,13,14,17,92]) (jC 92 c154_5 c154_8)
def c154_12:zW:=jS (jR [m 78 16,m 79 78,gm 80 79 jT 0,gL 81 79 jT 5 15,go 82 79 jT (.call 137 [(.s 80),(.s 81)]),go 83 79 jT (.un .not (.s 82)),p 84 79 83,m 77 84] [0,3,5,6,8,12,13,14,15,17,77]) (jC 77 c154_4 c154_10)
def c154_14:zW:=jS (jR [o 17 (.alloc [jN 0,jN 0,.t (.str []),.zI,.zI])] [0,3,5,6,8,12,13,14,15,16,17]) (jS (.block 4 c154_12) c154_3)
def c154_15:zW:=jS (jR [jL 71 5 6,f 72 0 14,l 73 72,o 74 (.call 144 [(.s 71),(.s 73)]),m 70 74,x 75 70 0,x 76 70 1,o 15 (.alloc [jN 0,jN 0,.t (.str []),.zI,.zI]),jO (.st 5 (.s 15) (.s 75)),m 16 76] [0,3,5,6,8,12,13,14,15,16]) c154_14
def c154_17:zW:=jS (jS (jR [f 66 6 5,l 67 66,m 68 13,o 69 (.call 157 [(.s 67),(.s 68)])] [0,3,5,6,8,12,13,14,69]) (jC 69 (.exit 3) .skip)) c154_15
def c154_18:zW:=jS (jR [f 61 6 5,l 62 61,m 63 13,i 64 10 62 63,jL 65 10 64,o 14 (.alloc [.t (.str []),.t (.str []),.zI,.t (.bool false),jN 0,jN 0,.t (.str []),.zI,.zI,.zI]),jO (.st 10 (.s 14) (.s 65))] [0,3,5,6,8,12,13,14]) c154_17
def c154_21:zW:=jS (jS (jR [m 47 13,f 48 6 5,l 49 48,e 50 49,b 51 .lss 47 50,m 52 51,gm 53 52 jT 0,go 54 52 jT (.z3G (.s 53)),gf 55 52 jT 8 54,gl 56 52 jT 55,gB 57 52 jT .eql 56 0,p 58 52 57] [0,3,5,6,8,12,13,58]) (jC 58 .skip (.exit 2))) (jS (.block 3 c154_18) c154_1)
def c154_24:zW:=jS (jS (jR [jI 13 0] [0,3,5,6,8,12,13]) (.block 2 (.loop c154_21))) c154_0
def c154_25:zW:=jS (jR [o 46 (.build [jN 0,jN 0,.t (.str []),.zI,.zI] [(0,1,(.c (jN 6)))]),o 12 (.alloc [jN 0,jN 0,.t (.str []),.zI,.zI]),jO (.st 5 (.s 12) (.s 46))] [0,3,5,6,8,12]) c154_24
def c154_26:zW:=jR [m 29 9,jB 30 .add 29 1,m 9 30] [0,3,5,6,8,9]
def c154_27:zW:=jR [m 44 0,o 45 (.call 148 [(.s 44),(.c (jN 22))])] [0,3,5,6,8,9]
def c154_29:zW:=jS (jR [m 42 11,u 43 42] [0,3,5,6,8,9,43]) (jC 43 c154_27 .skip)
def c154_30:zW:=jS (jD [f 32 6 5,l 33 32,f 34 4 6,l 35 34,m 36 9,i 37 1 35 36,l 38 37,o 39 (.call 121 [(.s 33),(.s 38)]),m 31 39,x 40 31 0,x 41 31 1,o 10 (.alloc [.t (.str []),.t (.str []),.zI,.t (.bool false),jN 0,jN 0,.t (.str []),.zI,.zI,.zI]),jO (.st 10 (.s 10) (.s 40)),m 11 41] [[],[0],[],[2],[],[3,4],[5],[1,6],[7],[8],[8],[],[11,9,7,0,1,2,3,4,5,6,7,8,9,11],[10,12,0,1,2,3,4,5,6,7,8,9,10,11,12]] [0,3,5,6,8,9,11]) c154_29
def c154_33:zW:=jS (jS (jR [m 24 9,f 25 4 6,l 26 25,e 27 26,b 28 .lss 24 27] [0,3,5,6,8,9,28]) (jC 28 .skip (.exit 0))) (jS (.block 1 c154_30) c154_26)
def c154_36:zW:=jS (jS (jR [jI 9 0] [0,3,5,6,8,9]) (.block 0 (.loop c154_33))) c154_25
def c154_37:zW:=jX [o 23 (.build [jN 0,jN 0,.t (.str []),.zI,.zI] []),jO (.st 5 (.s 8) (.s 23))] [8]
def c154_38:zW:=jS (jR [m 21 0,o 22 (.call 148 [(.s 21),(.c (jN 23))])] [8]) c154_37
def c154_40:zW:=jS (jS (jR [f 18 0 6,l 19 18,jB 20 .neq 19 6] [0,3,5,6,8,20]) (jC 20 c154_38 .skip)) c154_36
def c154:zW:=jS (jR [o 5 (.box 7 (.s 1)),o 6 (.box 5 (.s 2)),o 8 (.alloc [jN 0,jN 0,.t (.str []),.zI,.zI])] [0,3,5,6,8]) c154_40
def r154:List q8:=[.cell 8 true 5]
def n154:Nat:=123
def c155_2:zW:=jR [m 11 3,m 12 0,m 13 4,i 14 5 12 13,jL 15 5 14,o 16 (.call 147 [(.s 15)]),o 17 (.bsl false 5 [[.int .i64 0,.int .i64 0,.str [],.lst [],.lst []]] [(0,(.s 16))]),o 18 (.app 5 80 (.s 11) (.s 17)),m 3 18] [0,3,4]
def c155_5:zW:=jS (jS (jR [m 5 4,m 6 0,e 7 6,b 8 .lss 5 7] [0,3,4,8]) (jC 8 .skip (.exit 0))) (jS (.block 1 c155_2) (jR [m 9 4,jB 10 .add 9 1,m 4 10] [0,3,4]))
def c155:zW:=jS (jR [o 2 (.cst (.zI))] [0]) (jS (jR [o 3 (.cst (.zI))] [0,3]) (jS (jS (jR [jI 4 0] [0,3,4]) (.block 0 (.loop c155_5))) (jX [m 19 3,m 2 19] [2])))
def r155:List q8:=[.tmp 2]
def n155:Nat:=20
def c156_0:zW:=jX [m 8 0,o 9 (.un .neg (.s 8)),o 10 (.call 159 [(.s 9)]),m 2 10] [2]
def c156_1:zW:=jS (jR [m 5 0,o 6 (.call 159 [(.s 5)]),o 7 (.bin .add (.c (.t (.str [45]))) (.s 6)),m 2 7] [2]) .ret
def c156_3:zW:=jS (jS (jR [m 3 0,jB 4 .lss 3 0] [0,4]) (jC 4 c156_1 .skip)) c156_0
def c156:zW:=jS (jR [o 2 (.cst (.t (.str [])))] [0]) c156_3
def r156:List q8:=[.tmp 2]
def n156:Nat:=11
def c157_4:zW:=jS (jD [m 11 0,m 12 5,i 13 10 11 12,f 14 0 13,l 15 14,m 16 0,m 17 1,i 18 10 16 17,f 19 0 18,l 20 19,b 21 .eql 15 20] [[],[],[0,1],[2],[3],[],[],[5,6],[7],[8],[4,9]] [0,1,5,21]) (jC 21 (jX [o 4 (.cst (.t (.bool true)))] [4]) .skip)
def c157_7:zW:=jS (jS (jR [m 6 5,m 7 1,b 8 .lss 6 7] [0,1,5,8]) (jC 8 .skip (.exit 0))) (jS (.block 1 c157_4) (jR [m 9 5,jB 10 .add 9 1,m 5 10] [0,1,5]))
def c157:zW:=jS (jR [o 4 (.cst (.t (.bool false)))] [0,1]) (jS (jS (jR [jI 5 0] [0,1,5]) (.block 0 (.loop c157_7))) (jX [o 4 (.cst (.t (.bool false)))] [4]))
def r157:List q8:=[.tmp 4]
def n157:Nat:=22
def c158_0:zW:=jX [jL 40 5 11,jO (.st 5 (.s 8) (.s 40))] [8]
def c158_1:zW:=jS (jR [m 32 0,m 33 0,jL 34 5 9,m 35 10,n 36 32,f 37 1 36,jO (.st 5 (.s 37) (.s 34)),n 38 33,f 39 6 38,jO (.st 1 (.s 39) (.s 35))] [8,11]) c158_0
def c158_2:zW:=jS (jR [m 27 0,jL 28 2 5,jL 29 5 6,m 30 3,o 31 (.call 145 [(.s 27),(.s 28),(.s 29),(.s 30)]),o 11 (.alloc [jN 0,jN 0,.t (.str []),.zI,.zI]),jO (.st 5 (.s 11) (.s 31))] [0,8,9,10,11]) c158_1
def c158_3:zW:=jS (jR [m 20 0,m 21 0,o 22 (.build [jN 0,jN 0,.t (.str []),.zI,.zI] []),n 23 20,f 24 1 23,jO (.st 5 (.s 24) (.s 22)),n 25 21,f 26 6 25,jO (.st 1 (.s 26) (.c (.t (.bool true))))] [0,3,5,6,8,9,10]) c158_2
def c158_4:zW:=jS (jD [m 12 0,n 13 12,f 14 1 13,jL 15 5 14,m 16 0,n 17 16,f 18 6 17,l 19 18,o 9 (.alloc [jN 0,jN 0,.t (.str []),.zI,.zI]),jO (.st 5 (.s 9) (.s 15)),m 10 19] [[],[0],[1],[2],[],[4],[5],[6],[],[8,3,0,1,2,3,8],[7,9,0,1,2,3,4,5,6,7,8,9]] [0,3,5,6,8,9,10]) c158_3
def c158:zW:=jS (jR [o 5 (.box 2 (.s 1)),o 6 (.box 5 (.s 2)),o 8 (.alloc [jN 0,jN 0,.t (.str []),.zI,.zI])] [0,3,5,6,8]) c158_4
def r158:List q8:=[.cell 8 true 5]
def n158:Nat:=41
def c159_0:zW:=jX [m 13 0,jB 14 .quo 13 10,o 15 (.call 159 [(.s 14)]),m 16 3,b 17 .add 15 16,m 2 17] [2]
def c159_3:zW:=jS (jS (jR [m 10 0,jB 11 .gtr 10 (-10)] [0,3,11]) (jC 11 (jX [m 12 3,m 2 12] [2]) .skip)) c159_0
def c159_4:zW:=jS (jR [m 4 0,jB 5 .rem 4 10,o 6 (.bin .sub (.c (jN 48)) (.s 5)),o 7 (.conv .u8 (.s 6)),o 8 (.bsl true 1 [[.int .u8 0]] [(0,(.s 7))]),o 9 (.nw (.zau (.s 8))),m 3 9] [0,3]) c159_3
def c159:zW:=jS (jR [o 2 (.cst (.t (.str [])))] [0]) c159_4
def r159:List q8:=[.tmp 2]
def n159:Nat:=18
end Go.GB
namespace Go.GB
section
variable {P:Program}
def L.zM (Λ:L) (m m':Nat) (Λ':L):L where
 lab:=fun b=>if Λ.high m b then Λ.lab b else Λ'.lab b
 fro:=fun k=>if k<m' then Λ'.fro k else Λ.fro k
 nxt:=Λ.nxt
 w:=Λ'.w
 frf:=fun k i=>if k<m' then Λ'.frf k i else Λ.frf k i
theorem z7.same {f:FuncId} {vs:List V} {m:Nat} {sto:List (Nat×z6)} {out:Out} (h:z7 P f vs ⟨sto,m⟩ out) (hrd:out.rd=true) (hb:V.bds m vs=true) (hs:zR m sto=true) (hob:∀k o,(k,o)∈out.ob->zi sto k≠none∨(m<=k/\k<m+out.n)):YS P f vs m sto out:=by
 refine ⟨h.1,hob,fun Λ args hr hle hfree hsz hargs=>?_⟩;refine (h.2 (Λ.zB m) args (hr.hf hs) Z hsz fun j v y h1 h2=>(hargs j v y h1 h2).hf (V.ZH hb j y h2)).mono fun e w' he=>?_;obtain ⟨v,Λ',rfl,rfl,k1,k2,k3,k4⟩:=he;simp only at k2 k3
 have hlt:∀{b:Nat},Λ.high m b=true->b<Λ.w.heap.size:=by
  intro b hh
  rcases Nat.lt_or_ge b Λ.w.heap.size with h|h
  ·exact h
  ·unfold L.high at hh;rw [hr.new b h] at hh;simp at hh
 have hH:∀{b:Nat},Λ.high m b=true->(Λ.zM m (m+out.n) Λ').lab b=Λ.lab b:=fun h=>by simp [L.zM,h]
 have hL:∀{b:Nat},Λ.high m b=false->(Λ.zM m (m+out.n) Λ').lab b=Λ'.lab b:=fun h=>by simp [L.zM,h]
 have hheap:∀{b:Nat},Λ.high m b=true->∃fr,Λ'.lab b= .fix (some fr)/\Λ'.w.heap[b]?=Λ.w.heap[b]?/\((∃k,Λ.lab b= .obj k/\m<=k/\fr=0)∨(∃k,Λ.lab b= .arr k fr/\m<=k)∨(∃k i,Λ.lab b= .fob k i/\m<=k/\fr=0)∨∃k i,Λ.lab b= .far k i fr/\m<=k):=by
  intro b hh;obtain ⟨fr,e1,e2⟩:=z8Q hh;obtain ⟨g1,g2⟩:=k1.fr.fix b (hlt hh) _ e1;exact ⟨fr,g1,g2,e2⟩
 have hlow:∀{b k:Nat},k<m->(Λ.lab b= .obj k∨∃n,Λ.lab b= .arr k n)->Λ.high m b=false:=by
  intro b k hk hb;unfold L.high
  rcases hb with hb|⟨n,hb⟩<;>rw [hb]<;>simp<;>omega
 have hkp:Kp Λ (Λ.zM m (m+out.n) Λ'):=by
  refine ⟨⟨k1.fr.os,k1.fr.tape,k1.fr.output,k1.fr.size,fun b hb fr hl=>?_,fun b hb k fr hl o ho=>?_,fun b hb k i fr hl o ho=>?_⟩,Nat.le_refl _,fun b k _ hl=>?_,fun b k n _ hb hl hf=>?_,fun k hk=>?_,fun b k i _ hl=>?_,fun b k i n _ hb hl hf=>?_,fun k i hk=>?_,fun b k i hk hp hf hl=>?_⟩
  ·have hh:Λ.high m b=false:=by unfold L.high;rw [hl]
   obtain ⟨g1,g2⟩:=k1.fr.fix b hb fr (by rw [z54 hh];exact hl)
   exact ⟨by rw [hL hh];exact g1,g2⟩
  ·cases hh:Λ.high m b with
   |true=>
    obtain ⟨fr',g1,g2,g3⟩:=hheap hh
    exact ⟨by unfold Rd;rw [hH hh,hl];exact ho,cell?_heap g2⟩
   |false=>
    obtain ⟨g1,g2⟩:=k1.fr.arr b hb k fr (by rw [z54 hh];exact hl) o ho
    exact ⟨by unfold Rd;rw [hL hh];exact g1,g2⟩
  ·cases hh:Λ.high m b with
   |true=>
    obtain ⟨fr',g1,g2,g3⟩:=hheap hh
    exact ⟨by unfold Rd;rw [hH hh,hl];exact ho,cell?_heap g2⟩
   |false=>
    obtain ⟨g1,g2⟩:=k1.fr.far b hb k i fr (by rw [z54 hh];exact hl) o ho
    exact ⟨by unfold Rd;rw [hL hh];exact g1,g2⟩
  ·cases hh:Λ.high m b with
   |true=>rw [hH hh];exact hl
   |false=>
    have hk:k<m:=by unfold L.high at hh;rw [hl] at hh;simpa using hh
    rw [hL hh];exact k1.obj b k hk (Wc hl hk)
  ·cases hh:Λ.high m b with
   |true=>
    obtain ⟨fr',g1,g2,g3⟩:=hheap hh
    exact ⟨by rw [hH hh];exact hl,g2⟩
   |false=>
    have hk:k<m:=by unfold L.high at hh;rw [hl] at hh;simpa using hh
    have e1:(Λ.zB m).fro k=Λ.fro k:=by simp [L.zB,hk]
    have e2:(Λ.zM m (m+out.n) Λ').fro k=Λ'.fro k:=by simp [L.zM];omega
    obtain ⟨g1,g2⟩:=k1.own b k n hk hb (zcg hl hk) (by rw [←e2,hf,e1])
    exact ⟨by rw [hL hh];exact g1,g2⟩
  ·simp only [L.zM];by_cases h1:k<m
   ·have:=k1.fro k h1
    have e1:(Λ.zB m).fro k=Λ.fro k:=by simp [L.zB,h1]
    rw [if_pos (by omega)];omega
   ·by_cases h2:k<m+out.n
    ·rw [if_pos h2,(hfree k (by omega) h2).2.1.fro];omega
    ·rw [if_neg h2];exact Nat.le_refl _
  ·cases hh:Λ.high m b with
   |true=>
    obtain ⟨fr',g1,g2,g3⟩:=hheap hh
    exact ⟨by rw [hH hh];exact hl,fun N hN=>by unfold Zs at hN⊢;show (match Λ'.w.heap[b]? with|some (.cells arr _ _)=>some arr.size|_=>none)=_;rw [g2];exact hN⟩
   |false=>
    have hk:k<m:=by unfold L.high at hh;rw [hl] at hh;simpa using hh
    obtain ⟨g1,g2⟩:=k1.fob b k i hk (z0P hl hk)
    exact ⟨by rw [hL hh];exact g1,g2⟩
  ·cases hh:Λ.high m b with
   |true=>
    obtain ⟨fr',g1,g2,g3⟩:=hheap hh
    exact ⟨by rw [hH hh];exact hl,g2⟩
   |false=>
    have hk:k<m:=by unfold L.high at hh;rw [hl] at hh;simpa using hh
    have e1:(Λ.zB m).frf k i=Λ.frf k i:=by simp [L.zB,hk]
    have e2:(Λ.zM m (m+out.n) Λ').frf k i=Λ'.frf k i:=by simp [L.zM];omega
    obtain ⟨g1,g2⟩:=k1.far b k i n hk hb (zbJ hl hk) (by rw [←e2,hf,e1])
    exact ⟨by rw [hL hh];exact g1,g2⟩
  ·simp only [L.zM];by_cases h1:k<m
   ·have:=k1.frf k i h1
    have e1:(Λ.zB m).frf k i=Λ.frf k i:=by simp [L.zB,h1]
    rw [if_pos (by omega)];omega
   ·by_cases h2:k<m+out.n
    ·rw [if_pos h2,(hfree k (by omega) h2).2.1.frf];omega
    ·rw [if_neg h2];exact Nat.le_refl _
  ·cases hh:Λ.high m b with
   |true=>rw [hH hh] at hl;exact hl
   |false=>
    rw [hL hh] at hl;have hkb:=k3.wh b k (.inl ⟨i,hl⟩)
    rcases Nat.lt_or_ge k m with hkm|hkm
    ·have e1:(Λ.zB m).frf k 0=Λ.frf k 0:=by simp [L.zB,hkm]
     have e2:(Λ.zM m (m+out.n) Λ').frf k 0=Λ'.frf k 0:=by simp [L.zM];omega
     exact (yM (k1.z4z b k i hkm (by rw [e1];exact hp) (by rw [←e2,hf,e1]) hl)).1
    ·have:=(hfree k hkm (by omega)).2.1.frf 0;omega
 have hobj:∀{b k:Nat},Λ'.lab b= .obj k->(Λ.zM m (m+out.n) Λ').lab b= .obj k:=by
  intro b k hb
  cases hh:Λ.high m b with
  |true=>obtain ⟨fr,g1,_⟩:=hheap hh;rw [g1] at hb;simp at hb
  |false=>rw [hL hh];exact hb
 have harr:∀{b k n:Nat},Λ'.lab b= .arr k n->(Λ.zM m (m+out.n) Λ').lab b= .arr k n:=by
  intro b k n hb
  cases hh:Λ.high m b with
  |true=>obtain ⟨fr,g1,_⟩:=hheap hh;rw [g1] at hb;simp at hb
  |false=>rw [hL hh];exact hb
 have hfob:∀{b k i:Nat},Λ'.lab b= .fob k i->(Λ.zM m (m+out.n) Λ').lab b= .fob k i:=by
  intro b k i hb
  cases hh:Λ.high m b with
  |true=>obtain ⟨fr,g1,_⟩:=hheap hh;rw [g1] at hb;simp at hb
  |false=>rw [hL hh];exact hb
 have hfar:∀{b k i n:Nat},Λ'.lab b= .far k i n->(Λ.zM m (m+out.n) Λ').lab b= .far k i n:=by
  intro b k i n hb
  cases hh:Λ.high m b with
  |true=>obtain ⟨fr,g1,_⟩:=hheap hh;rw [g1] at hb;simp at hb
  |false=>rw [hL hh];exact hb
 have hrep:∀{u:Value} {y:T},zP Λ'.lab Λ'.w u y->zP (Λ.zM m (m+out.n) Λ').lab (Λ.zM m (m+out.n) Λ').w u y:=by
  intro u y hy;refine hy.yo fun b o _ _ hrd=>⟨?_,rfl⟩
  cases hh:Λ.high m b with
  |true=>
   obtain ⟨fr,g1,_,g3⟩:=hheap hh;unfold Rd at hrd⊢;rw [g1] at hrd;rw [hH hh]
   rcases g3 with ⟨k,e,_,rfl⟩|⟨k,e,_⟩|⟨k,i,e,_,rfl⟩|⟨k,i,e,_⟩
   ·omega
   ·rw [e];exact hrd
   ·omega
   ·rw [e];exact hrd
  |false=>unfold Rd;rw [hL hh];exact hrd
 have hfobI:∀{b k i:Nat},k<m+out.n->(Λ.zM m (m+out.n) Λ').lab b= .fob k i->Λ'.lab b= .fob k i:=by
  intro b k i hk hb
  cases hh:Λ.high m b with
  |true=>
   rw [hH hh] at hb
   have hge:m<=k:=by unfold L.high at hh;rw [hb] at hh;simpa using hh
   exact absurd hb ((hfree k hge hk).2.1.fob b i)
  |false=>rw [hL hh] at hb;exact hb
 have hcur:∀{b k:Nat},k<m+out.n->qc Λ'.lab k b->qc (Λ.zM m (m+out.n) Λ').lab k b:=by
  rintro b k hk ⟨i,e1,e2⟩;exact ⟨i,hfob e1,fun b' i' h'=>e2 b' i' (hfobI hk h')⟩
 have hfrf:∀{k i:Nat},k<Λ'.nxt->(Λ.zM m (m+out.n) Λ').frf k i=Λ'.frf k i:=by
  intro k i hk;rw [k2] at hk;simp [L.zM,hk]
 have hfro:∀{k:Nat},k<Λ'.nxt->(Λ.zM m (m+out.n) Λ').fro k=Λ'.fro k:=by
  intro k hk;rw [k2] at hk;simp [L.zM,hk]
 have hval:∀{u:Value} {y:V},zu Λ' u y->zu (Λ.zM m (m+out.n) Λ') u y:=by
  intro u y hy
  induction hy with
  |t h=>exact .t (hrep h)
  |zI=>exact .zI
  |@own v k sz xs h hsz hl hn ho=>
   refine .own (hrep h) hsz (by show k<Λ.nxt;omega) (by rw [hfro hl];exact hn) fun he=>?_
   rcases ho (by rw [←hfro hl];exact he) with ho|⟨b,cap,arr,e,hv,hb',hh,hc,hn'⟩
   ·exact .inl ho
   ·exact .inr ⟨b,cap,arr,e,hv,harr hb',hh,hc,hn'⟩
  |slc hl hc h=>exact .slc (by show _<Λ.nxt;omega) hc (hobj h)
  |agg hs _ ih=>exact .agg hs ih
  |tup hs _ ih=>exact .tup hs ih
  |ptr hl h=>exact .ptr (by show _<Λ.nxt;omega) (hobj h)
  |mp hl h=>exact .mp (by show _<Λ.nxt;omega) (hobj h)
  |fn hs h=>exact .fn hs fun j v c h1 h2=>let ⟨b,e1,e2,e3⟩:=h j v c h1 h2;⟨b,e1,hobj e2,by show _<Λ.nxt;omega⟩
  |gd _ h' ih=>exact .gd ih h'
  |top=>exact .top
  |ub h h'=>exact .ub h h'
  |fpt hl h=>exact .fpt (by show _<Λ.nxt;omega) (hfob h)
  |gpt hv hl hn h=>
   refine .gpt hv (by show _<Λ.nxt;omega) (by rw [hfrf hl];exact hn) fun he=>?_;obtain ⟨b,e1,e2⟩:=h (by rw [←hfrf hl];exact he);exact ⟨b,e1,hcur (by omega) e2⟩
  |gsl hv hl hn h=>
   refine .gsl hv (by show _<Λ.nxt;omega) (by rw [hfrf hl];exact hn) fun he=>?_
   rcases h (by rw [←hfrf hl];exact he) with h|⟨b,cap,N,hv,hc,e2,hN,he'⟩
   ·exact .inl h
   ·exact .inr ⟨b,cap,N,hv,hc,hcur (by omega) e2,hN,he'⟩
  |fow h hsz hl hn ho=>
   refine .fow (hrep h) hsz (by show _<Λ.nxt;omega) (by rw [hfrf hl];exact hn) fun he=>?_
   rcases ho (by rw [←hfrf hl];exact he) with ho|⟨b,cap,arr,e,hv,hb',hh,hc,hn'⟩
   ·exact .inl ho
   ·exact .inr ⟨b,cap,arr,e,hv,hfar hb',hh,hc,hn'⟩
 have hname:∀{b k:Nat},Λ.high m b=true->((Λ.zM m (m+out.n) Λ').lab b= .obj k∨∃n,(Λ.zM m (m+out.n) Λ').lab b= .arr k n)->m+out.n<=k/\(Λ.lab b= .obj k∨∃n,Λ.lab b= .arr k n):=by
  intro b k hh hb;rw [hH hh] at hb;refine ⟨?_,hb⟩
  have hge:m<=k:=by unfold L.high at hh;rcases hb with hb|⟨n,hb⟩<;>rw [hb] at hh<;>simpa using hh
  rcases Nat.lt_or_ge k (m+out.n) with h|h
  ·have:=(hfree k hge h).2.1
   rcases hb with hb|⟨n,hb⟩
   ·exact absurd hb (this.obj b)
   ·exact absurd hb (this.arr b n)
  ·exact h
 have hlowname:∀{b k:Nat},Λ.high m b=false->((Λ.zM m (m+out.n) Λ').lab b= .obj k∨∃n,(Λ.zM m (m+out.n) Λ').lab b= .arr k n)->k<m+out.n/\(Λ'.lab b= .obj k∨∃n,Λ'.lab b= .arr k n):=by
  intro b k hh hb;rw [hL hh] at hb;have:=k3.bnd b k hb
  exact ⟨by omega,hb⟩
 refine ⟨v,Λ.zM m (m+out.n) Λ',rfl,rfl,hkp,rfl,?_,hval k4,fun k hk hn hcase=>?_⟩
 ·refine ⟨fun k o ho=>?_,fun b b' k h1 h2=>?_,fun b hb=>?_,fun b k hb=>?_,fun k hk=>?_,fun b b' k i h1 h2=>?_,fun b k hb=>?_,fun k i hk=>?_⟩
  ·obtain ⟨g1,g2⟩:=k3.sto k o ho
   refine ⟨by show k<Λ.nxt;omega,?_⟩
   cases o with
   |cells cs=>
    obtain ⟨b,arr,e,e1,e2,e3,e4⟩:=g2;exact ⟨b,arr,e,hobj e1,e2,e3,fun j v c a1 a2=>hval (e4 j v c a1 a2)⟩
   |map kag es sx=>
    obtain ⟨b,ents,clock,e1,e2,e3⟩:=g2;exact ⟨b,ents,clock,hobj e1,e2,e3.yo (fun _ _ h=>hrep h) (fun _ _ _ _ h=>hval h)⟩
   |arr n=>unfold Wx at*;rw [hfro g1];exact g2
   |iter q s seen c=>
    obtain ⟨b,bm,e1,e2,e3,e4⟩:=g2
    exact ⟨b,bm,hobj e1,e2,hobj e3,by show q<Λ.nxt;omega⟩
   |gro ver cs=>
    obtain ⟨q0,q⟩:=g2
    refine ⟨by rw [hfrf g1];exact q0,?_⟩
    rcases q with ⟨e1,e2⟩|⟨b,arr,e,e1,e2,e3,e4⟩
    ·exact .inl ⟨e1,fun b i hb=>e2 b i (hfobI (by omega) hb)⟩
    ·exact .inr ⟨b,arr,e,hcur (by omega) e1,e2,e3,fun j v c a1 a2=>hval (e4 j v c a1 a2)⟩
   |yu os=>
    obtain ⟨q0,q⟩:=g2;refine ⟨fun b i hb=>q0 b i (hfobI (by omega) hb),fun i cs hi=>?_⟩;obtain ⟨b,arr,e,e1,e2,e3,e4⟩:=q i cs hi;exact ⟨b,arr,e,hfob e1,e2,e3,fun j v c a1 a2=>hval (e4 j v c a1 a2)⟩
   |y9 ns=>exact fun i=>(hfrf g1).trans (g2 i)
   |Wl kag I=>
    obtain ⟨b,ents,clock,e1,e2,e3,e4,e5⟩:=g2;refine ⟨b,ents,clock,hobj e1,e2,e3,e4,fun i e hi=>?_⟩;obtain ⟨cs,v,q1,q2,q3⟩:=e5 i e hi;exact ⟨cs,v,q1.yo fun _ _ h=>hrep h,hrep q2,q3⟩
  ·cases hh:Λ.high m b with
   |true=>
    obtain ⟨q1,q2⟩:=hname hh (.inl h1)
    cases hh':Λ.high m b' with
    |true=>
     rw [hH hh] at h1;rw [hH hh'] at h2;exact hr.inj b b' k h1 h2
    |false=>have:=(hlowname hh' (.inl h2)).1;omega
   |false=>
    have q:=(hlowname hh (.inl h1)).1
    cases hh':Λ.high m b' with
    |true=>have:=(hname hh' (.inl h2)).1;omega
    |false=>rw [hL hh] at h1;rw [hL hh'] at h2;exact k3.inj b b' k h1 h2
  ·have hge:Λ.w.heap.size<=b:=Nat.le_trans k1.fr.size hb
   have hh:Λ.high m b=false:=by unfold L.high;rw [hr.new b hge]
   rw [hL hh];exact k3.new b hb
  ·show k<Λ.nxt
   cases hh:Λ.high m b with
   |true=>exact hr.bnd b k (hname hh hb).2
   |false=>have:=(hlowname hh hb).1;omega
  ·have hk':Λ.nxt<=k:=hk;simp only [L.zM];rw [if_neg (by omega)];exact hr.frz k hk'
  ·cases hh:Λ.high m b with
   |true=>
    cases hh':Λ.high m b' with
    |true=>rw [hH hh] at h1;rw [hH hh'] at h2;exact hr.w9 b b' k i h1 h2
    |false=>
     rw [hL hh'] at h2;have hkb:=k3.wh b' k (.inl ⟨i,h2⟩);have h1':=hfobI (by omega) h1;exact k3.w9 b b' k i h1' h2
   |false=>
    rw [hL hh] at h1;have hkb:=k3.wh b k (.inl ⟨i,h1⟩);exact k3.w9 b b' k i h1 (hfobI (by omega) h2)
  ·show k<Λ.nxt
   cases hh:Λ.high m b with
   |true=>rw [hH hh] at hb;exact hr.wh b k hb
   |false=>rw [hL hh] at hb;have:=k3.wh b k hb;omega
  ·have hk':Λ.nxt<=k:=hk;simp only [L.zM];rw [if_neg (by omega)];exact hr.z1A k i hk'
 ·rcases hcase with hge|⟨hlt',hrd'⟩
  ·refine ⟨fun b hb=>?_,fun b n hb=>?_,?_,fun b i hb=>?_,fun b i n hb=>?_,fun i=>?_⟩
   ·cases hh:Λ.high m b with
    |true=>rw [hH hh] at hb;exact hk.obj b hb
    |false=>have:=(hlowname hh (.inl hb)).1;omega
   ·cases hh:Λ.high m b with
    |true=>rw [hH hh] at hb;exact hk.arr b n hb
    |false=>have:=(hlowname hh (.inr ⟨n,hb⟩)).1;omega
   ·simp only [L.zM];rw [if_neg (by omega)];exact hk.fro
   ·cases hh:Λ.high m b with
    |true=>rw [hH hh] at hb;exact hk.fob b i hb
    |false=>rw [hL hh] at hb;have:=k3.wh b k (.inl ⟨i,hb⟩);omega
   ·cases hh:Λ.high m b with
    |true=>rw [hH hh] at hb;exact hk.far b i n hb
    |false=>rw [hL hh] at hb;have:=k3.wh b k (.inr ⟨i,n,hb⟩);omega
   ·simp only [L.zM];rw [if_neg (by omega)];exact hk.frf i
  ·rw [hrd] at hrd';cases hrd'
theorem z9P {f:FuncId} {vs:List V} {x:V} {base:Nat} {sto:List (Nat×z6)} {K:Out->Prop} (h:z7 P f vs ⟨sto,base⟩ {v:=x,rd:=true}) (hb:V.bds base vs=true) (hs:zR base sto=true) (hk:K {v:=x,rd:=true}):qi P f vs base sto K:=
 ⟨_,by simp only [if_true];exact h.same rfl hb hs (by simp),hk⟩
end
def mE {κ ν:Type} (ek:κ->List T) (ev:ν->T) (l:List (κ×ν)):List (List T×V):=l.map fun e=>(ek e.1,.t (ev e.2))
def cE {ν:Type} (ev:ν->T) (l:List ν):List V:=l.map fun x=> .t (ev x)
theorem V.z2o {ν:Type} (m:Nat) (ev:ν->T):∀(l:List ν),V.bds m (cE ev l)=true
 |[]=>rfl
 |x::r=>by have:=V.z2o m ev r;simp only [cE] at this;simp [cE,V.bds,V.bd,this]
theorem z6.z90 {ν:Type} (m:Nat) (ev:ν->T) (l:List ν):(z6.cells (cE ev l)).bd m=true:=V.z2o m ev l
theorem z6.z8R {κ ν:Type} (m:Nat) (kag:Bool) (ek:κ->List T) (ev:ν->T) (l:List (κ×ν)) (sx:Option (Nat×List Nat)):(z6.map kag (mE ek ev l) sx).bd m=true:=by
 have:=V.z2o m (fun e:κ×ν=>ev e.2) l;simp only [cE] at this;simp only [z6.bd,mE,List.map_map,Function.comp_def];exact this
theorem zo.cE {ν:Type} {m m':Nat} {ev:ν->T} {l l':List ν} (h:l=l'):zo m m' (cE ev l) (cE ev l'):=h▸ .same (V.z2o m ev l)
theorem LeO.mE {κ ν:Type} {m m':Nat} {kag:Bool} {ek:κ->List T} {ev:ν->T} {l l':List (κ×ν)} {sx sx':Option (Nat×List Nat)} (h:l=l') (hs:sx'=none∨sx'=sx):LeO m m' (.map kag (mE ek ev l) sx) (.map kag (mE ek ev l') sx'):=by
 subst h;have:=V.z2o m (fun e:κ×ν=>ev e.2) l;simp only [Go.GB.cE] at this;exact .map Z (by simp only [Go.GB.mE,List.map_map,Function.comp_def];exact .same this) hs
def gE {α:Type} (f:α->List V) (l:List α):List V:=(l.map f).flatten
theorem Q6 {α:Type} (f:α->List V) (l k:List α):gE f (l++k)=gE f l++gE f k:=by simp [gE]
theorem Y4 {α:Type} {f:α->List V} {sz:Nat} (h:∀x,(f x).length=sz):∀(l:List α),(gE f l).length=l.length*sz
 |[]=>by simp [gE]
 |x::r=>by
  have:=Y4 h r;simp only [gE] at this;simp only [gE,List.map_cons,List.flatten_cons,List.length_append,this,h,List.length_cons];rw [Nat.add_mul];omega
theorem V.z8B (m:Nat):∀(a b:List V),V.bds m (a++b)=(V.bds m a&&V.bds m b)
 |[],b=>by simp [V.bds]
 |x::r,b=>by simp [V.bds,V.z8B m r b,Bool.and_assoc]
theorem V.z50 {α:Type} {m:Nat} {f:α->List V} (h:∀x,V.bds m (f x)=true):∀(l:List α),V.bds m (gE f l)=true
 |[]=>rfl
 |x::r=>by
  have:=V.z50 h r;simp only [gE] at this;simp only [gE,List.map_cons,List.flatten_cons,V.z8B,h,this,Bool.and_self]
theorem zo.gE {α:Type} {m m':Nat} {f:α->List V} {l l':List α} (h:l=l') (hb:∀x,V.bds m (f x)=true):zo m m' (gE f l) (gE f l'):=h▸ .same (V.z50 hb l)
theorem LeO.qE {m m' r r':Nat} {cs ds:List V} (e:r=r') (h:zo m m' cs ds):LeO m m' (.gro r cs) (.gro r' ds):=e▸ .gro h
theorem LeX.Qp {m m' k ver ver' off off' len len' sz:Nat} (e1:ver=ver') (e2:off=off') (e3:len=len') (h:k<m):LeX m m' (.gsl k ver off len sz) (.gsl k ver' off' len' sz):=by
 subst e1;subst e2;subst e3;exact .same (by simpa [V.bd] using h)
end Go.GB
