/- A part. -/
import Derived.Test.YtichbdepocojaaaGreatKit
namespace Go.Proofs.YtichbdepocojaaaGreat.Ev
open Go
set_option linter.all false
set_option maxRecDepth 100000
abbrev fJ:Nat:=3
abbrev dm:Nat:=4
abbrev fk:Nat:=5
abbrev fS:Nat:=6
abbrev cX:Nat:=7
abbrev cW:Nat:=8
abbrev eB:Nat:=9
abbrev dz:Nat:=10
abbrev l8:Nat:=11
abbrev eF:Nat:=13
abbrev eA:Nat:=12
abbrev jH:Nat:=14
abbrev gH:Nat:=15
abbrev fQ:Nat:=16
abbrev pJ:Nat:=17
abbrev pK:Nat:=18
abbrev l7:Nat:=19
abbrev fj:Nat:=20
abbrev nM:Nat:=22
abbrev bP:Nat:=21
abbrev bH:Nat:=23
abbrev cU:Nat:=24
abbrev fl:Nat:=25
abbrev jl:Nat:=26
abbrev mJ:Nat:=27
abbrev cq:Nat:=28
abbrev bY:Nat:=29
abbrev fm:Nat:=30
abbrev dA:Nat:=31
abbrev iS:Nat:=32
abbrev jF:Nat:=34
abbrev iG:Nat:=33
abbrev l9:Nat:=40
abbrev dL:Nat:=39
abbrev dU:Nat:=36
abbrev gU:Nat:=37
abbrev g8:Nat:=41
abbrev gZ:Nat:=42
abbrev gX:Nat:=43
abbrev fP:Nat:=45
abbrev dq:Nat:=46
abbrev ko:Nat:=44
abbrev aO:Nat:=47
abbrev lD:Nat:=48
abbrev aR:Nat:=49
abbrev mE:Nat:=50
abbrev aA:Nat:=51
abbrev jE:Nat:=52
abbrev cw:Nat:=54
abbrev dE:Nat:=56
abbrev aN:Nat:=55
abbrev eG:Nat:=59
abbrev dY:Nat:=60
abbrev dB:Nat:=63
abbrev fg:Nat:=64
abbrev jT:Nat:=35
abbrev kr:Nat:=68
abbrev gG:Nat:=66
abbrev dV:Nat:=38
abbrev gf:Nat:=69
abbrev gc:Nat:=70
abbrev aM:Nat:=71
abbrev dN:Nat:=74
abbrev gF:Nat:=75
abbrev fF:Nat:=77
abbrev fh:Nat:=76
abbrev iT:Nat:=72
abbrev bj:Nat:=78
abbrev cI:Nat:=79
abbrev kR:Nat:=53
abbrev cV:Nat:=82
abbrev iI:Nat:=58
abbrev cZ:Nat:=57
abbrev cR:Nat:=85
abbrev jk:Nat:=86
abbrev gr:Nat:=88
abbrev iH:Nat:=87
abbrev bo:Nat:=90
abbrev bk:Nat:=89
abbrev dC:Nat:=101
abbrev gW:Nat:=102
abbrev kS:Nat:=65
abbrev aW:Nat:=106
abbrev kQ:Nat:=67
abbrev iW:Nat:=107
abbrev bi:Nat:=108
abbrev iU:Nat:=109
abbrev gV:Nat:=110
abbrev iV:Nat:=114
abbrev jh:Nat:=112
abbrev l5:Nat:=113
abbrev aD:Nat:=73
abbrev kP:Nat:=80
abbrev gS:Nat:=81
abbrev jU:Nat:=84
abbrev gT:Nat:=83
abbrev kT:Nat:=115
abbrev mI:Nat:=116
abbrev fZ:Nat:=103
abbrev jg:Nat:=104
abbrev oL:Nat:=105
abbrev oM:Nat:=128
abbrev iR:Nat:=111
abbrev de:Nat:=131
abbrev jD:Nat:=130
abbrev mc:Nat:=122
abbrev jV:Nat:=123
abbrev cQ:Nat:=125
abbrev iX:Nat:=124
abbrev iY:Nat:=143
abbrev mf:Nat:=144
abbrev fE:Nat:=129
abbrev fR:Nat:=133
abbrev gY:Nat:=134
abbrev cu:Nat:=135
abbrev cL:Nat:=136
abbrev jG:Nat:=137
abbrev jj:Nat:=138
abbrev jW:Nat:=140
abbrev mG:Nat:=139
abbrev nO:Nat:=141
abbrev iZ:Nat:=149
abbrev mH:Nat:=150
abbrev bG:Nat:=151
abbrev nN:Nat:=152
abbrev dD:Nat:=153
abbrev dO:Nat:=154
abbrev dP:Nat:=155
abbrev gq:Nat:=157
abbrev mF:Nat:=156
abbrev kU:Nat:=145
abbrev eR:Nat:=146
abbrev kv:Nat:=147
abbrev bw:Nat:=159
abbrev dM:Nat:=160
abbrev eS:Nat:=100
abbrev ji:Nat:=161
abbrev ee:Nat:=158
abbrev aL:Nat:=162
abbrev dG:Nat:=3
abbrev qc:Nat:=22
abbrev ae:Nat:=30
abbrev cF:Nat:=34
abbrev ak:Nat:=35
abbrev aa:Nat:=37
abbrev aF:Nat:=58
abbrev ad:Nat:=69
abbrev cY:Nat:=84
abbrev gP:Nat:=119
abbrev FN:Nat:=143
abbrev al:Nat:=166
abbrev dS:Nat:=189
abbrev sR (l:List cy) (c:ACode):ACode:=.seq (.region l) c
abbrev cT (t:Nat) (a b:ACode):ACode:=.cond (.t t) a b
abbrev rM (d s:Nat):cy:=⟨some d,.mv (.t s),none⟩
abbrev rC (d:Nat) (v:AV):cy:=⟨some d,.mv (.c v),none⟩
abbrev rR (d:Nat) (o:AOp):cy:=⟨some d,o,none⟩
abbrev rN (o:AOp):cy:=⟨none,o,none⟩
abbrev rG (d:Nat) (o:AOp) (g:Nat) (b:Bool):cy:=⟨some d,o,some (g,b)⟩
abbrev rF (f:Nat) (l:List Src):AOp:=.call (.c (.fn (.func f) [] [])) l
abbrev rI (n:Int):Src:=.c (.int .i64 n)
abbrev rQ (d:Nat) (o:AOp) (u:List (Nat × Option Nat)) (c:Nat):eW:=⟨some d,o,none,u,c,[(0,[])]⟩
abbrev v0 (a b c:Nat):cy:=rR a (.extract b (.t c))
abbrev v1 (a:Nat):cy:=rR a (.mv (rI 0))
abbrev v2 (a b:Nat):cy:=rR a (.load none (.t b))
abbrev v3 (a b:Nat):cy:=rR a (.len (.t b))
abbrev v4 (a b c:Nat):eW:=rQ a (.mv (.t b)) [(c,none)] 0
abbrev v5 (a:Nat):cy:=rC a .nilSl
abbrev v6 (a b c:Nat):cy:=rR a (.fieldAddr b (.t c))
abbrev v7 (a b:Nat):cy:=rR a (.load (some 2) (.t b))
abbrev v8 (a:Nat):cy:=rC a (.bool false)
abbrev v9 (a b:Nat):cy:=rR a (.bin .neq .int (.t b) (rI 0))
abbrev fc (a b c:Nat):cy:=rR a (.indexAddr 1 (.t b) (.t c))
abbrev kJ (a b c:Nat):cy:=rG a (.mv (.t b)) c true
abbrev kb (a b:Nat):cy:=rN (.store 2 (.t a) (.t b))
abbrev kK (a b c:Nat):cy:=rG a (.mv (.t b)) c false
abbrev lK (a b:Nat):cy:=rR a (.box aa (.t b))
abbrev lv (a b c d:Nat):eW:=rQ a (.load none (.t b)) [(c,some d)] 0
abbrev mz (a:Nat):cy:=rR a (.alloc aa [(.bool false),.nilSl])
abbrev mw (a b c:Nat):cy:=rR a (.pick (.t b) (.c (.bool true)) (.t c))
abbrev nC (a b:Nat):cy:=rR a (.nilCheck (.t b))
abbrev q9 (a b c:Nat):cy:=rR a (.pick (.t b) (.t c) (.c (.bool false)))
abbrev q8 (a b c d e f g:Nat):eW:=rQ a (.indexAddr 1 (.t b) (.t c)) [(d,some e),(f,some g)] 0
abbrev tH (a b c:Nat):cy:=rR a (.bin .add .int (.t b) (.t c))
abbrev tG (a b:Nat):cy:=rR a (.bin .add .int (.t b) (rI 1))
abbrev yB (a b c:Nat):cy:=rR a (.bin .lss .int (.t b) (.t c))
abbrev yK (a b c:Nat):cy:=rR a (.indexAddr 2 (.t b) (.t c))
abbrev yJ (a:Nat):cy:=rC a (.bool true)
abbrev AI (a b:Nat):cy:=rR a (.bin .gtr .int (.t b) (rI 0))
abbrev AH (a b:Nat):cy:=rN (.store 1 (.t a) (.t b))
abbrev yI (a:Nat):cy:=rC a (.int .u64 0)
abbrev Da (a b:Nat):cy:=rR a (.bin .eql .int (.t b) (rI 0))
abbrev C9 (a b:Nat):cy:=rR a (.buildSlice ae 1 [.nilSl] 1 [((0,1),(.t b))])
abbrev C8 (a b c:Nat):cy:=rR a (.append 1 24 ae [.nilSl] (.t b) (.t c))
abbrev C7 (a b c:Nat):cy:=rG a (.load none (.t b)) c true
abbrev Fu (a b c:Nat):cy:=rG a (.len (.t b)) c true
abbrev Ft (a b:Nat):cy:=rR a (.bin .sub .int (.t b) (rI 1))
abbrev Fs (a b c d:Nat):eW:=rQ a (.nilCheck (.t b)) [(c,some d)] 0
abbrev Fq (a b c d e:Nat):eW:=rQ a (.fieldAddr b (.t c)) [(d,some e)] 0
abbrev Hp (a b:Nat):cy:=rR a (.un .not (.t b))
abbrev Ho (a b c d:Nat):eW:=rQ a (.mv (.t b)) [(c,some d)] 0
abbrev Hn (a b c:Nat):cy:=rG a (.un .not (.t b)) c false
abbrev C6 (a b c:Nat):cy:=rR a (.bin .neq .int (.t b) (.t c))
abbrev Ie (a:Nat):cy:=rR a (.mv (rI 8))
abbrev Id (a b c:Nat):cy:=rR a (.bin .mul .int (.t b) (.t c))
abbrev Jp (a b c d:Nat):cy:=rR a (rF eB [.t b,.t c,.t d])
abbrev Jo (a b:Nat):cy:=rR a (.bin .shr .int (.t b) (.c (.int .u64 32)))
abbrev Jn (a b c d:Nat):cy:=rG a (rF dz [.t b,.t c]) d true
abbrev Jm (a b:Nat):cy:=rR a (.bin .geq .int (.t b) (rI 0))
abbrev J8 (a b c:Nat):cy:=rR a (.buildSlice ae 1 [.nilSl,.nilSl] 2 [((0,1),(.t b)),((1,1),(.t c))])
abbrev J7 (a:Nat):cy:=rR a (.mv (rI 70))
abbrev J6 (a b:Nat):cy:=rR a (rF gG [.t b])
abbrev J5 (a b c:Nat):cy:=rG a (.bin .neq .int (.t b) (rI 0)) c false
abbrev Lu (a b:Nat):cy:=rR a (rF iS [.t b])
abbrev Lt (a b:Nat):cy:=rR a (rF gX [.t b])
abbrev J4 (a b c d e f g:Nat):eW:=rQ a (.indexAddr 2 (.t b) (.t c)) [(d,some e),(f,some g)] 0
abbrev Lr (a b c d:Nat):eW:=rQ a (.load (some 2) (.t b)) [(c,some d)] 0
abbrev J3 (a b c:Nat):eW:=rQ a (.load (some 2) (.t b)) [(c,none)] 0
abbrev Lq (a b c d:Nat):cy:=rR a (.call (.t b) [.t c,.t d])
abbrev Lo (a b c d:Nat):cy:=rG a (.fieldAddr b (.t c)) d true
abbrev Ln (a b c:Nat):cy:=rR a (.mksl ad 1 8 [(.int .u64 0)] (.t b) (.t c))
abbrev Lm (a:Nat):cy:=rR a (.build [(.bool false),.nilSl] [])
abbrev Lk (a b c:Nat):cy:=rR a (.buildSlice ak 1 [.nilSl,.nilSl] 2 [((0,1),(.t b)),((1,1),(.t c))])
abbrev Lj (a b c:Nat):cy:=rR a (.bin .sub .int (.t b) (.t c))
abbrev LY (a b c:Nat):cy:=rG a (.len (.t b)) c false
abbrev LX (a b c d:Nat):eW:=rQ a (.len (.t b)) [(c,some d)] 0
abbrev LW (a b c d e f g:Nat):eW:=rQ a (.bin .rem .int (.t b) (.t c)) [(d,some e),(f,some g)] 0
abbrev LU (a b:Nat):cy:=rR a (.indexAddr 1 (.t b) (rI 0))
abbrev Li (a b:Nat):cy:=rR a (rF nM [.t b])
abbrev LT (a b:Nat):cy:=rR a (.box ae (.t b))
abbrev LS (a b:Nat):cy:=rR a (.bin .lss .int (.t b) (rI 0))
abbrev LQ (a:Nat):cy:=rR a (.mv (rI (-1)))
abbrev Lh (a b c:Nat):eW:=rQ a (.load none (.t b)) [(c,none)] 0
abbrev LP (a b:Nat):cy:=rR a (rF kr [.t b])
abbrev LO (a b c:Nat):cy:=rR a (rF iI [.t b,.t c])
abbrev LN (a b c d:Nat):cy:=rG a (.indexAddr 1 (.t b) (.t c)) d true
abbrev LM (a b:Nat):cy:=rR a (.bin .quo .int (.t b) (rI 64))
abbrev LL (a b:Nat):cy:=rR a (rF dU [.t b])
abbrev Lg (a b c:Nat):cy:=rR a (rF dL [.t b,.t c])
abbrev Lf (a b:Nat):cy:=rR a (.bin .sub .int (.t b) (.c (.int .u64 1)))
abbrev LK (a b c:Nat):cy:=rR a (rF eR [.t b,.t c])
abbrev LJ (a b c:Nat):cy:=rR a (rF cu [.t b,.t c,(.c (.int .u64 0))])
abbrev LI (a b:Nat):cy:=rR a (.bin .eql .int (.t b) (.c (.int .u64 0)))
abbrev LH (a b c d e f g:Nat):eW:=rQ a (.bin .add .int (.t b) (.t c)) [(d,some e),(f,some g)] 0
abbrev LG (a b:Nat):cy:=rR a (.bin .and .int (.t b) (.c (.int .u64 4294967295)))
abbrev LF (a b:Nat):cy:=rR a (.bin .geq .int (.t b) (.c (.int .u64 4294967296)))
abbrev MQ (a:Nat):cy:=rR a (rF cX [])
abbrev MP (a b c d:Nat):cy:=rR a (rF cW [.t b,.t c,.t d])
abbrev MO (a b c d:Nat):eW:=rQ a (.conv .i64 (.t b)) [(c,some d)] 0
abbrev MN (a b c d:Nat):cy:=rR a (rF jH [.t b,.t c,.t d])
abbrev MM (a b c:Nat):cy:=rG a (.load none (.t b)) c false
abbrev ML (a b c d:Nat):cy:=rG a (.bin .neq .int (.t b) (.t c)) d true
abbrev MK (a b c:Nat):cy:=rR a (rF iG [.t b,.t c])
abbrev MJ (a b c:Nat):cy:=rG a (.bin .sub .int (.t b) (rI 1)) c true
abbrev MI (a b c:Nat):cy:=rG a (.bin .eql .int (.t b) (.c (.int .u64 0))) c true
abbrev MH (a b c d:Nat):eW:=rQ a (.fieldAddr b (.t c)) [(d,none)] 0
abbrev MG (a b c:Nat):cy:=rR a (.buildSlice aa 2 [(.bool false),.nilSl,(.bool false),.nilSl] 2 [((0,2),(.t b)),((2,2),(.t c))])
abbrev MF (a b:Nat):cy:=rR a (rF fZ [.t b])
abbrev ME (a b c:Nat):cy:=rR a (.append 1 8 ad [(.int .u64 0)] (.t b) (.t c))
abbrev MW (a b c:Nat):cy:=rG a (.bin .eql .int (.t b) (rI 0)) c true
abbrev MV (a b c:Nat):cy:=rR a (.slice 1 (.t b) none (some (.t c)) none)
abbrev MU (a b:Nat):cy:=rG a (rF bH [rI 1,rI 0]) b true
abbrev Kh (a b c:Nat):cy:=rR a (.mksl aa 2 32 [(.bool false),.nilSl] (.t b) (.t c))
abbrev Kg (a b c:Nat):cy:=rR a (.build [.nilSl,.nilSl] [((0,1),(.t b)),((1,1),(.t c))])
abbrev Kf (a b c d e f g:Nat):eW:=rQ a (.pick (.t b) (.t c) (.c (.bool false))) [(d,some e),(f,some g)] 0
abbrev Ke (a b:Nat):cy:=rR a (.buildSlice ad 1 [(.int .u64 0)] 1 [((0,1),(.t b))])
abbrev Kd (a b c d:Nat):cy:=rG a (.pick (.t b) (.t c) (.c (.bool false))) d false
abbrev Kc (a b c d e f g:Nat):eW:=rQ a (.bin .neq .int (.t b) (.t c)) [(d,some e),(f,some g)] 0
abbrev Kb (a b:Nat):cy:=rR a (.bin .gtr .int (.t b) (.c (.int .u64 0)))
abbrev Ka (a b c d:Nat):cy:=rR a (rF cQ [.t b,.t c,.t d])
abbrev J9 (a b:Nat):cy:=rR a (.bin .mul .int (.t b) (.c (.int .u64 4294967296)))
abbrev L4 (a:Nat):cy:=rR a (.buildSlice dG 1 [(.int .i64 0),(.int .i64 0)] 2 [((0,1),(rI 1)),((1,1),(rI 0))])
abbrev L3 (a:Nat):cy:=rR a (.buildSlice dG 1 [(.int .i64 0),(.int .i64 0)] 2 [((0,1),(rI 0)),((1,1),(rI 1))])
abbrev LZ (a b c:Nat):cy:=rR a (.buildSlice qc 1 [.nilSl,.nilSl] 2 [((0,1),(.t b)),((1,1),(.t c))])
def fK:au:=⟨3,85,[(6,none)],sR [v8 6]<|sR [MQ 17,rM 7 17] <|.seq (sR [rM 18 0,rM 19 1,rM 20 2,MP 21 18 19 20,rM 22 21,kK 23 7 22,Hn 24 23 22,mw 25 22 24]<|cT 25 (sR [rM 26 7,rM 6 26] <|.ret) .skip)<|sR [rM 28 0,rM 29 1,rM 30 2,Jp 31 28 29 30,rM 27 31,v0 32 0 27,v0 33 1 27,v0 34 2 27,rM 8 32,rM 9 33,rM 10 34] <|.seq (sR [rM 35 10,v9 36 35]<|cT 36 (sR [rM 37 8,v3 38 37,Da 39 38,rM 40 39,kJ 41 9 40,Fu 42 41 40,MW 43 42 40,q9 44 40 43,rM 6 44] <|.ret) .skip) <|.seq (sR [rM 45 9,v3 46 45,rR 47 (.bin .gtr .int (.t 46) (rI 20))]<|cT 47 (sR [yJ 6] <|.ret) .skip)<|sR [rM 49 0,rM 50 8,rM 51 9,Jp 52 49 50 51,rM 48 52,v0 53 0 48,v0 54 1 48,v0 55 2 48,rM 11 53,rM 12 54,rM 13 55] <|.seq (sR [rM 56 13,v9 57 56,rM 58 57,kK 59 12 58,LY 60 59 58,rG 61 (.bin .gtr .int (.t 60) (rI 20)) 58 false,mw 62 58 61]<|cT 62 (sR [rM 63 13,Da 64 63,rM 6 64] <|.ret) .skip)<|sR [rM 66 0,rM 67 11,rM 68 12,Jp 69 66 67 68,rM 65 69,v0 70 0 65,v0 71 1 65,v0 72 2 65,rM 14 70,rM 15 71,rM 16 72]<|sR [rM 73 16,Da 74 73,rM 75 74,kJ 76 8 75,kJ 77 14 75,Jn 78 76 77 75,q9 79 75 78,rM 80 79,kJ 81 9 80,kJ 82 15 80,Jn 83 81 82 80,q9 84 80 83,rM 6 84] <|.ret,none⟩
def c_facetroomlaw20_ConeOrder:au:=⟨5,129,[(10,none)],sR [v8 10]<|sR [MQ 25,rM 11 25] <|.seq (sR [rM 26 0,rM 27 1,rM 28 2,MP 29 26 27 28,rM 30 29,kK 31 11 30,Hn 32 31 30,mw 33 30 32]<|cT 33 (sR [rM 34 11,rM 10 34] <|.ret) .skip)<|sR [rM 36 0,rM 37 1,rM 38 2,Jp 39 36 37 38,rM 35 39,v0 40 0 35,v0 41 1 35,v0 42 2 35,rM 12 40,rM 13 41,rM 14 42] <|.seq (sR [rM 43 14,v9 44 43]<|cT 44 (sR [yJ 10] <|.ret) .skip)<|sR [v5 15] <|.seq (sR [rM 45 2,v3 46 45,Ft 47 46,rM 16 47]<|il 0 (.seq (sR [rM 48 16,Jm 49 48]<|cT 49 .skip (.exit 0)) <|.seq (.block 1 (.region [rM 52 15,rM 53 2,rM 54 16,fc 55 53 54,v2 56 55,C9 57 56,C8 58 52 57,rM 15 58])) <|.region [rM 50 16,Ft 51 50,rM 16 51])) <|.seq (sR [rM 59 2,v3 60 59,AI 61 60]<|cT 61 (.seq (.draw [v4 63 2 2,v4 64 3 3,MO 65 64 64 1,v4 66 2 2,LX 67 66 66 3,LW 68 65 67 65 2 67 4,q8 69 63 68 63 0 68 5,lv 70 69 69 6,v4 71 2 2,v4 72 4 4,MO 73 72 72 9,v4 74 2 2,LX 75 74 74 11,LW 76 73 75 73 10 75 12,q8 77 71 76 71 8 76 13,lv 78 77 77 14,rQ 79 (rF l8 [.t 70,.t 78]) [(70,some 7),(78,some 15)] 2,⟨some 62,.mv (.t 79),none,[(79,some 16)],0,[(1,[])]⟩,⟨some 80,.extract 0 (.t 62),none,[(62,some 17)],0,[(1,[])]⟩,⟨some 81,.extract 1 (.t 62),none,[(62,some 17)],0,[(1,[])]⟩,⟨some 17,.mv (.t 80),none,[(80,some 18)],0,[(1,[])]⟩,⟨some 18,.mv (.t 81),none,[(81,some 19)],0,[(1,[])]⟩] []) <|.seq (sR [rM 82 18,v9 83 82]<|cT 83 (sR [v8 10] <|.ret) .skip) <|.region [rM 84 15,rM 85 17,C9 86 85,C8 87 84 86,rM 15 87]) .skip)<|sR [rM 88 1,rM 19 88] <|.seq (sR [rM 89 1,v3 90 89,AI 91 90]<|cT 91 (.seq (.draw [⟨some 93,.mv (.t 1),none,[(1,none)],0,[(0,[]),(1,[])]⟩,⟨some 94,.indexAddr 1 (.t 93) (rI 0),none,[(93,some 0)],0,[(0,[]),(1,[])]⟩,⟨some 95,.load none (.t 94),none,[(94,some 1)],0,[(0,[]),(1,[])]⟩,rQ 96 (rF eF [rI (-1)]) [] 2,⟨some 97,rF eA [.t 95,.t 96],none,[(95,some 2),(96,some 3)],2,[(1,[])]⟩,⟨some 92,.mv (.t 97),none,[(97,some 4)],0,[(2,[])]⟩,⟨some 98,.extract 0 (.t 92),none,[(92,some 5)],0,[(2,[])]⟩,⟨some 99,.extract 1 (.t 92),none,[(92,some 5)],0,[(2,[])]⟩,⟨some 20,.mv (.t 98),none,[(98,some 6)],0,[(2,[])]⟩,⟨some 21,.mv (.t 99),none,[(99,some 7)],0,[(2,[])]⟩] [])<|sR [rM 100 15,rM 101 1,LU 102 101,v2 103 102,rM 104 20,J8 105 103 104,C8 106 100 105,rM 15 106] <|.region [rM 107 1,rR 108 (.slice 1 (.t 107) (some (rI 1)) none none),rM 19 108]) .skip)<|sR [rM 110 0,rM 111 19,rM 112 15,Jp 113 110 111 112,rM 109 113,v0 114 0 109,v0 115 1 109,v0 116 2 109,rM 22 114,rM 23 115,rM 24 116]<|sR [rM 117 24,Da 118 117,rM 119 118,kJ 120 22 119,kJ 121 12 119,Jn 122 120 121 119,q9 123 119 122,rM 124 123,kJ 125 23 124,kJ 126 13 124,Jn 127 125 126 124,q9 128 124 127,rM 10 128] <|.ret,none⟩
def fw:au:=⟨6,197,[(12,none)],sR [v8 12]<|sR [MQ 36,rM 13 36] <|.seq (sR [rM 37 0,rM 38 1,rM 39 2,MP 40 37 38 39,rM 41 40,kK 42 13 41,Hn 43 42 41,mw 44 41 43]<|cT 44 (sR [rM 45 13,rM 12 45] <|.ret) .skip)<|sR [rM 47 0,rM 48 1,rM 49 2,Jp 50 47 48 49,rM 46 50,v0 51 0 46,v0 52 1 46,v0 53 2 46,rM 14 51,rM 15 52,rM 16 53] <|.seq (sR [rM 54 16,v9 55 54,rM 56 55,kK 57 15 56,LY 58 57 56,rG 59 (.bin .gtr .int (.t 58) (rI 20)) 56 false,mw 60 56 59]<|cT 60 (sR [yJ 12] <|.ret) .skip)<|sR [rR 61 (.buildSlice ae 1 [] 0 []),rM 62 14,C8 63 61 62,rM 64 15,C8 65 63 64,rM 17 65] <|.seq (sR [v1 18]<|il 0 (.seq (sR [rM 66 18,rM 67 17,v3 68 67,yB 69 66 68]<|cT 69 .skip (.exit 0)) <|.seq (.block 1 (sR [rM 73 17,rM 74 18,fc 75 73 74,v2 76 75,rM 77 1,rM 78 2,MN 79 76 77 78,rM 72 79,v0 80 0 72,v0 81 1 72,rM 19 80,rM 20 81]<|sR [rM 82 20,v9 83 82,rM 84 83,kK 85 19 84,Hn 86 85 84,mw 87 84 86]<|cT 87 (sR [v8 12] <|.ret) .skip)) <|.region [rM 70 18,tG 71 70,rM 18 71])) <|.seq (sR [v1 21]<|il 2 (.seq (sR [rM 88 21,rM 89 14,v3 90 89,yB 91 88 90]<|cT 91 .skip (.exit 2)) <|.seq (.block 3 (.seq (.draw [⟨some 95,.mv (.t 14),none,[(14,none)],0,[(0,[]),(1,[])]⟩,⟨some 96,.mv (.t 21),none,[(21,none)],0,[(0,[]),(1,[])]⟩,⟨some 97,.indexAddr 1 (.t 95) (.t 96),none,[(95,some 0),(96,some 1)],0,[(0,[]),(1,[])]⟩,⟨some 98,.load none (.t 97),none,[(97,some 2)],0,[(0,[]),(1,[])]⟩,rQ 99 (rF eF [rI (-1)]) [] 2,⟨some 100,rF eA [.t 98,.t 99],none,[(98,some 3),(99,some 4)],2,[(1,[])]⟩,⟨some 94,.mv (.t 100),none,[(100,some 5)],0,[(2,[])]⟩,⟨some 101,.extract 0 (.t 94),none,[(94,some 6)],0,[(2,[])]⟩,⟨some 102,.extract 1 (.t 94),none,[(94,some 6)],0,[(2,[])]⟩,⟨some 22,.mv (.t 101),none,[(101,some 7)],0,[(2,[])]⟩,⟨some 23,.mv (.t 102),none,[(102,some 8)],0,[(2,[])]⟩] [])<|sR [rM 104 22,rM 105 1,rM 106 2,MN 107 104 105 106,rM 103 107,v0 108 0 103,v0 109 1 103,rM 24 108,rM 25 109]<|sR [rM 110 25,v9 111 110,rM 112 111,kK 113 24 112,Hn 114 113 112,mw 115 112 114]<|cT 115 (sR [v8 12] <|.ret) .skip)) <|.region [rM 92 21,tG 93 92,rM 21 93])) <|.seq (sR [rM 116 17,v3 117 116,AI 118 117]<|cT 118 (.seq (.draw [v4 120 17 17,v4 121 4 4,MO 122 121 121 1,v4 123 17 17,LX 124 123 123 3,LW 125 122 124 122 2 124 4,q8 126 120 125 120 0 125 5,lv 127 126 126 6,v4 128 17 17,v4 129 5 5,MO 130 129 129 9,v4 131 17 17,LX 132 131 131 11,LW 133 130 132 130 10 132 12,q8 134 128 133 128 8 133 13,lv 135 134 134 14,rQ 136 (rF l8 [.t 127,.t 135]) [(127,some 7),(135,some 15)] 2,⟨some 119,.mv (.t 136),none,[(136,some 16)],0,[(1,[])]⟩,⟨some 137,.extract 0 (.t 119),none,[(119,some 17)],0,[(1,[])]⟩,⟨some 138,.extract 1 (.t 119),none,[(119,some 17)],0,[(1,[])]⟩,⟨some 26,.mv (.t 137),none,[(137,some 18)],0,[(1,[])]⟩,⟨some 27,.mv (.t 138),none,[(138,some 19)],0,[(1,[])]⟩] [])<|sR [rM 140 26,rM 141 1,rM 142 2,MN 143 140 141 142,rM 139 143,v0 144 0 139,v0 145 1 139,rM 28 144,rM 29 145]<|sR [rM 147 26,rM 148 14,rM 149 15,rR 150 (rF gH [.t 147,.t 148,.t 149]),rM 146 150,v0 151 0 146,v0 152 1 146,rM 30 151,rM 31 152]<|sR [rM 153 27,v9 154 153,rM 155 154,kK 156 29 155,J5 157 156 155,mw 158 155 157,rM 159 158,kK 160 31 159,J5 161 160 159,mw 162 159 161,rM 163 162,kK 164 28 163,Hn 165 164 163,mw 166 163 165,rM 167 166,kK 168 30 167,Hn 169 168 167,mw 170 167 169]<|cT 170 (sR [v8 12] <|.ret) .skip) .skip) <|.seq (sR [rM 171 3,v3 172 171,rM 173 0,C6 174 172 173]<|cT 174 (sR [yJ 12] <|.ret) .skip)<|sR [rM 176 3,rM 177 1,rM 178 2,MN 179 176 177 178,rM 175 179,v0 180 0 175,v0 181 1 175,rM 32 180,rM 33 181]<|sR [rM 183 3,rM 184 14,rM 185 15,rR 186 (rF gH [.t 183,.t 184,.t 185]),rM 182 186,v0 187 0 182,v0 188 1 182,rM 34 187,rM 35 188]<|sR [rM 189 33,rM 190 35,rR 191 (.bin .eql .int (.t 189) (.t 190)),rM 192 191,kJ 193 32 192,kJ 194 34 192,rG 195 (.bin .eql .bool (.t 193) (.t 194)) 192 true,q9 196 192 195,rM 12 196] <|.ret,none⟩
def fV:au:=⟨3,140,[(6,none)],sR [v8 6]<|sR [MQ 21,rM 7 21] <|.seq (sR [rM 22 0,rM 23 1,rM 24 2,MP 25 22 23 24,rM 26 25,kK 27 7 26,Hn 28 27 26,mw 29 26 28]<|cT 29 (sR [rM 30 7,rM 6 30] <|.ret) .skip)<|sR [rM 32 0,rM 33 1,rM 34 2,Jp 35 32 33 34,rM 31 35,v0 36 0 31,v0 37 1 31,v0 38 2 31,rM 8 36,rM 9 37,rM 10 38] <|.seq (sR [rM 39 10,v9 40 39,rM 41 40,kK 42 9 41,LY 43 42 41,rG 44 (.bin .gtr .int (.t 43) (rI 12)) 41 false,mw 45 41 44]<|cT 45 (sR [yJ 6] <|.ret) .skip) <|.seq (sR [v1 11]<|il 0 (.seq (sR [rM 46 11,rM 47 9,v3 48 47,yB 49 46 48]<|cT 49 .skip (.exit 0)) <|.seq (.block 1 (sR [v5 12]<|sR [rM 52 12,rM 53 9,rM 54 11,MV 55 53 54,C8 56 52 55,rM 12 56]<|sR [rM 57 12,rM 58 9,rM 59 11,tG 60 59,rR 61 (.slice 1 (.t 58) (some (.t 60)) none none),C8 62 57 61,rM 12 62]<|sR [rM 64 9,rM 65 11,fc 66 64 65,v2 67 66,rM 68 8,rM 69 12,rR 70 (rF gH [.t 67,.t 68,.t 69]),rM 63 70,v0 71 0 63,v0 72 1 63,rM 13 71,rM 14 72]<|sR [rM 74 9,rM 75 11,fc 76 74 75,v2 77 76,rM 78 8,rR 79 (rF fQ [.t 77,.t 78]),rM 73 79,v0 80 0 73,v0 81 1 73,rM 15 80,rM 16 81] <|.seq (sR [rM 82 14,v9 83 82,rM 84 83,kK 85 16 84,J5 86 85 84,mw 87 84 86,rM 88 87,kK 89 13 88,mw 90 88 89,rM 91 90,kK 92 9 91,kK 93 11 91,rG 94 (.indexAddr 1 (.t 92) (.t 93)) 91 false,MM 95 94 91,rG 96 (rF pJ [.t 95]) 91 false,mw 97 91 96,rM 98 97,kK 99 15 98,kK 100 9 98,kK 101 11 98,rG 102 (.indexAddr 1 (.t 100) (.t 101)) 98 false,MM 103 102 98,rG 104 (rF pK [.t 99,.t 103]) 98 false,Hn 105 104 98,mw 106 98 105]<|cT 106 (sR [v8 6] <|.ret) .skip)<|sR [rM 107 11,AI 108 107]<|cT 108 (.seq (.draw [v4 110 9 9,v4 111 11 11,rQ 112 (.bin .sub .int (.t 111) (rI 1)) [(111,some 1)] 0,q8 113 110 112 110 0 112 2,lv 114 113 113 3,v4 115 9 9,v4 116 11 11,q8 117 115 116 115 5 116 6,lv 118 117 117 7,rQ 119 (rF l7 [.t 114,.t 118]) [(114,some 4),(118,some 8)] 2,⟨some 109,.mv (.t 119),none,[(119,some 9)],0,[(1,[])]⟩,⟨some 120,.extract 0 (.t 109),none,[(109,some 10)],0,[(1,[])]⟩,⟨some 121,.extract 1 (.t 109),none,[(109,some 10)],0,[(1,[])]⟩,⟨some 17,.mv (.t 120),none,[(120,some 11)],0,[(1,[])]⟩,⟨some 18,.mv (.t 121),none,[(121,some 12)],0,[(1,[])]⟩] [])<|sR [rM 122 18,v9 123 122,rM 124 123,kK 125 17 124,rG 126 (.bin .geq .int (.t 125) (rI 0)) 124 false,mw 127 124 126]<|cT 127 (sR [v8 6] <|.ret) .skip) .skip)) <|.region [rM 50 11,tG 51 50,rM 11 51]))<|sR [rM 129 8,rR 130 (rF fj [.t 129]),rM 128 130,v0 131 0 128,v0 132 1 128,rM 19 131,rM 20 132]<|sR [rM 133 20,Da 134 133,rM 135 134,kJ 136 19 135,kJ 137 8 135,Jn 138 136 137 135,q9 139 135 138,rM 6 139] <|.ret,none⟩
def ig:au:=⟨0,32,[(0,none)],sR [v8 0]<|sR [L4 2,Li 3 2,L3 4,Li 5 4,J8 6 3 5,L3 7,Li 8 7,L4 9,Li 10 9,J8 11 8 10,rR 12 (rF bP [(.c .nilSl),.t 6,(.c .nilSl),.t 11]),rM 1 12]<|sR [rM 13 1,rM 14 13,rG 15 (rF bH [rI 1,rI 1]) 14 true,rG 16 (rF bH [rI (-1),rI 1]) 14 true,MU 17 14,rG 18 (rF bP [(.c .nilSl),.t 15,.t 16,.t 17]) 14 true,q9 19 14 18,rM 20 19,rG 21 (rF bH [rI 0,rI 1]) 20 true,MU 22 20,MU 23 20,rG 24 (rF bP [.t 21,.t 22,(.c .nilSl),.t 23]) 20 true,q9 25 20 24,rM 26 25,rG 27 (.buildSlice dG 1 [(.int .i64 0),(.int .i64 0)] 2 [((0,1),(rI 1)),((1,1),(rI 2))]) 26 true,rG 28 (rF nM [.t 27]) 26 true,Fu 29 28 26,rG 30 (.bin .eql .int (.t 29) (rI 2)) 26 true,q9 31 26 30,rM 0 31] <|.ret,none⟩
def ic:au:=⟨3,14,[(6,none)],sR [v8 6]<|sR [rM 7 1,rM 8 2,rR 9 (rF cU [.t 7,.t 8]),rM 10 9,kK 11 0 10,rG 12 (.bin .gtr .int (.t 11) (rI 5)) 10 false,mw 13 10 12,rM 6 13] <|.ret,none⟩
def c_cone_Gens:au:=⟨3,100,[(6,none),(7,none),(8,none)],sR [v5 6,v5 7,v1 8] <|.seq (sR [rM 18 1,rM 19 2,rR 20 (rF fl [.t 18,.t 19]),rM 8 20]<|sR [rM 21 8,v9 22 21]<|cT 22 .ret .skip) <|.seq (sR [rM 23 1,rM 24 2,LZ 25 23 24,rR 26 (rF jl [.t 25]),rM 9 26] <|.block 0 (sR [rM 28 0,rR 29 (.bin .lss .int (.t 28) (rI 1)),rM 30 29,kK 31 0 30,rG 32 (.bin .gtr .int (.t 31) (rI 64)) 30 false,mw 33 30 32,rM 27 33]<|cT 27 (sR [v5 6,v5 7,rR 8 (.mv (rI 2))] <|.ret) (sR [rM 35 9,Jm 36 35,rM 37 36,kJ 38 9 37,kJ 39 0 37,ML 40 38 39 37,q9 41 37 40,rM 34 41]<|cT 34 (sR [v5 6,v5 7,J7 8] <|.ret) .skip)))<|sR [rM 42 0,rR 43 (rF mJ [.t 42]),rR 44 (.build [.nilSl,.nilSl,.nilSl] [((0,1),(.t 43))]),rR 45 (.box aF (.t 44)),rM 10 45]<|sR [rM 46 10,rR 47 (.mkfn (.func cq) [.t 46] []),rM 11 47] <|.seq (sR [rM 48 1,v3 49 48,v1 50]<|dF 1 2 50 49 51 57 (sR [fc 52 48 50,v2 53 52,rM 13 53] <|.region [rM 54 11,rM 55 13,rR 56 (.call (.t 54) [.t 55,(.c (.bool true))])])) <|.seq (sR [rM 58 2,v3 59 58,v1 60]<|dF 3 4 60 59 61 67 (sR [fc 62 58 60,v2 63 62,rM 15 63] <|.region [rM 64 11,rM 65 15,rR 66 (.call (.t 64) [.t 65,(.c (.bool false))])]))<|sR [rM 69 10,nC 70 69,v6 71 0 70,v2 72 71,rR 73 (rF fj [.t 72]),rM 68 73,v0 74 0 68,v0 75 1 68,rM 6 74] <|.seq (sR [rM 76 10,nC 77 76,v6 78 1 77,v2 79 78,v3 80 79,v1 81]<|dF 5 6 81 80 82 95 (sR [fc 83 79 81,v2 84 83,rM 17 84]<|sR [rM 86 17,rM 87 6,rR 88 (rF fQ [.t 86,.t 87]),rM 85 88,v0 89 0 85,v0 90 1 85,rM 17 89] <|.region [rM 91 7,rM 92 17,C9 93 92,C8 94 91 93,rM 7 94]))<|sR [rM 96 7,rR 97 (rF bY [.t 96,(.c (.fn (.func fm) [] []))])]<|sR [rM 98 6,rM 99 7,rM 6 98,rM 7 99,v1 8] <|.ret,none⟩
def iq:au:=⟨2,27,[(4,none)],sR [v8 4] <|.seq (sR [rM 6 0,v3 7 6,rM 8 1,v3 9 8,C6 10 7 9]<|cT 10 (sR [v8 4] <|.ret) .skip) <|.seq (sR [v1 5]<|il 0 (.seq (sR [rM 11 5,rM 12 0,v3 13 12,yB 14 11 13]<|cT 14 .skip (.exit 0)) <|.seq (.block 1 (.seq (.draw [v4 17 0 0,v4 18 5 5,q8 19 17 18 17 0 18 1,lv 20 19 19 2,v4 21 1 1,v4 22 5 5,q8 23 21 22 21 4 22 5,lv 24 23 23 6,rQ 25 (rF dA [.t 20,.t 24]) [(20,some 3),(24,some 7)] 2,⟨some 26,.un .not (.t 25),none,[(25,some 8)],0,[(1,[])]⟩] [])<|cT 26 (sR [v8 4] <|.ret) .skip)) <|.region [rM 15 5,tG 16 15,rM 5 16]))<|sR [yJ 4] <|.ret,none⟩
def wY:au:=⟨2,17,[(4,none),(5,none)],sR [LT 3 1,v5 4,v1 5] <|.seq (sR [rM 7 0,v2 8 3,J8 9 7 8,Lu 10 9,rM 6 10]<|sR [rM 11 6,v9 12 11]<|cT 12 (sR [rM 13 6,v5 4,rM 5 13] <|.ret) .skip)<|sR [rM 14 0,rR 15 (.mkfn (.func jF) [] [.t 3]),MK 16 14 15,rM 4 16,v1 5] <|.ret,none⟩
def uY:au:=⟨1,14,[(2,some (some 2))],sR [mz 2] <|.seq (sR [rM 3 0,LS 4 3]<|cT 4 (sR [rM 5 0,rR 6 (.conv .u64 (.t 5)),rR 7 (.un .neg (.t 6)),rR 8 (rF l9 [.t 7]),rR 9 (rF dL [(.c (.bool true)),.t 8]),kb 2 9] <|.ret) .skip)<|sR [rM 10 0,rR 11 (.conv .u64 (.t 10)),rR 12 (rF l9 [.t 11]),rR 13 (rF dL [(.c (.bool false)),.t 12]),kb 2 13] <|.ret,none⟩
def sI:au:=⟨2,18,[(4,none),(5,none)],sR [lK 3 1,v5 4,v1 5] <|.seq (sR [rM 6 0,C9 7 6,Lu 8 7,v9 9 8,rM 10 9,rG 11 (.load (some 2) (.t 3)) 10 false,rG 12 (rF dU [.t 11]) 10 false,J5 13 12 10,mw 14 10 13]<|cT 14 (sR [v5 4,Ie 5] <|.ret) .skip)<|sR [rM 15 0,rR 16 (.mkfn (.func gU) [] [.t 3]),MK 17 15 16,rM 4 17,v1 5] <|.ret,none⟩
def qV:au:=⟨3,20,[(6,none),(7,none)],sR [v8 6,v1 7] <|.seq (sR [rM 9 0,rM 10 1,rM 11 2,rR 12 (rF g8 [.t 9,.t 10,.t 11]),rM 8 12]<|sR [rM 13 8,v9 14 13]<|cT 14 (sR [rM 15 8,v8 6,rM 7 15] <|.ret) .skip)<|sR [rM 16 0,rM 17 1,rM 18 2,rR 19 (rF gZ [.t 16,.t 17,.t 18]),rM 6 19,v1 7] <|.ret,none⟩
def sU:au:=⟨3,32,[(6,none),(7,none)],sR [v8 6,v1 7] <|.seq (sR [rM 12 0,rM 13 1,rM 14 2,rR 15 (rF g8 [.t 12,.t 13,.t 14]),rM 8 15]<|sR [rM 16 8,v9 17 16]<|cT 17 (sR [rM 18 8,v8 6,rM 7 18] <|.ret) .skip)<|sR [rM 20 0,v3 21 20,rM 22 1,rM 23 2,Jp 24 21 22 23,rM 19 24,v0 25 0 19,v0 26 1 19,v0 27 2 19,rM 9 25,rM 10 26,rM 11 27]<|sR [rM 28 0,rM 29 9,rM 30 10,rR 31 (rF gZ [.t 28,.t 29,.t 30]),rM 6 31,v1 7] <|.ret,none⟩
def py:au:=⟨2,36,[(4,none),(5,none)],sR [v5 4,v1 5] <|.seq (sR [rM 8 1,Lt 9 8,rM 6 9]<|sR [rM 10 6,v9 11 10]<|cT 11 (sR [rM 12 6,v5 4,rM 5 12] <|.ret) .skip) <|.seq (sR [rM 13 0,C9 14 13,Lt 15 14,rM 7 15]<|sR [rM 16 7,v9 17 16]<|cT 17 (sR [rM 18 7,v5 4,rM 5 18] <|.ret) .skip) <|.seq (sR [rM 19 1,v3 20 19,AI 21 20,rM 22 21,kJ 23 1 22,rG 24 (.indexAddr 1 (.t 23) (rI 0)) 22 true,C7 25 24 22,Fu 26 25 22,kJ 27 0 22,Fu 28 27 22,ML 29 26 28 22,q9 30 22 29]<|cT 30 (sR [v5 4,J7 5] <|.ret) .skip)<|sR [rM 31 1,rR 32 (rF fP [.t 31]),rM 33 0,rR 34 (rF dq [.t 32,.t 33]),rR 35 (rF ko [.t 34]),rM 4 35,v1 5] <|.ret,none⟩
def u3:au:=⟨1,6,[(2,none)],sR [v8 2]<|sR [rM 3 0,rR 4 (rF aO [.t 3,(.c (.fn (.func lD) [] []))]),Hp 5 4,rM 2 5] <|.ret,none⟩
def vg:au:=⟨2,8,[(4,none)],sR [v8 4]<|sR [rM 5 0,rM 6 1,rR 7 (rF aR [.t 5,.t 6,(.c (.fn (.func mE) [] []))]),rM 4 7] <|.ret,none⟩
def wX:au:=⟨2,17,[(4,none),(5,none)],sR [v1 4,v1 5] <|.seq (sR [rM 7 0,rM 8 1,J8 9 7 8,Lu 10 9,rM 6 10]<|sR [rM 11 6,v9 12 11]<|cT 12 (sR [rM 13 6,v1 4,rM 5 13] <|.ret) .skip)<|sR [rM 14 0,rM 15 1,rR 16 (rF aA [.t 14,.t 15,(.c (.fn (.func jE) [] []))]),rM 4 16,v1 5] <|.ret,none⟩
def oj:au:=⟨1,15,[(2,none),(3,none)],sR [v5 2,v1 3] <|.seq (sR [rM 5 0,Lt 6 5,rM 4 6]<|sR [rM 7 4,v9 8 7]<|cT 8 (sR [rM 9 4,v5 2,rM 3 9] <|.ret) .skip)<|sR [rM 10 0,rR 11 (rF fP [.t 10]),nC 12 11,v6 13 0 12,v2 14 13,rM 2 14,v1 3] <|.ret,none⟩
def Ag:au:=⟨1,23,[(2,none)],sR [v5 2]<|sR [rM 6 0,v3 7 6,Kh 8 7 7,rM 3 8] <|.seq (sR [rM 9 0,v3 10 9,v1 11]<|dF 0 1 11 10 12 21 (sR [rM 13 11,fc 14 9 11,v2 15 14,rM 4 13,rM 5 15] <|.region [rM 16 3,rM 17 4,rM 18 5,rR 19 (rF eF [.t 18]),yK 20 16 17,kb 20 19]))<|sR [rM 22 3,rM 2 22] <|.ret,none⟩
def ie:au:=⟨4,31,[(8,none)],sR [v8 8]<|sR [rM 13 0,rM 14 1,rR 15 (rF eB [rI 2,.t 13,.t 14]),rM 12 15,v0 16 0 12,v0 17 1 12,v0 18 2 12,rM 9 16,rM 10 17,rM 11 18]<|sR [rM 19 11,Da 20 19,rM 21 20,kJ 22 9 21,kJ 23 2 21,Jn 24 22 23 21,q9 25 21 24,rM 26 25,kJ 27 10 26,kJ 28 3 26,Jn 29 27 28 26,q9 30 26 29,rM 8 30] <|.ret,none⟩
def jp:au:=⟨2,10,[(4,none)],sR [v5 4]<|sR [rM 5 0,rM 6 1,rR 7 (.buildSlice dG 1 [(.int .i64 0),(.int .i64 0)] 2 [((0,1),(.t 5)),((1,1),(.t 6))]),Li 8 7,C9 9 8,rM 4 9] <|.ret,none⟩
def h9:au:=⟨2,11,[(4,none)],sR [v8 4]<|sR [rM 5 0,rR 6 (rF cw [.t 5,rI 4,rI 5,rI 1]),rM 7 6,kK 8 1 7,rG 9 (rF cw [.t 8,rI 7,rI 5,rI 1]) 7 false,mw 10 7 9,rM 4 10] <|.ret,none⟩
def c_cone_checked:au:=⟨2,39,[(4,none)],sR [v1 4] <|.seq (sR [rM 8 0,rM 9 1,Kg 10 8 9,v1 11]<|il 0 (sR [rR 12 (.bin .lss .int (.t 11) (rI 2))] <|.seq (cT 12 .skip (.exit 0)) <|.seq (.block 1 (sR [rR 13 (.indexAgg 2 1 none (.t 10) (.t 11)),rM 6 13]<|sR [rM 14 6,Lt 15 14,rM 7 15]<|sR [rM 16 7,v9 17 16]<|cT 17 (sR [rM 18 7,rM 4 18] <|.ret) .skip)) <|.region [tG 19 11,rM 11 19])) <|.seq (.seq (.draw [v4 20 0 0,LX 21 20 20 0,rQ 22 (.bin .gtr .int (.t 21) (rI 0)) [(21,some 1)] 0,Ho 23 22 22 2,⟨some 24,.mv (.t 1),(some (23,true)),[(1,none),(23,some 3)],0,[(0,[])]⟩,⟨some 25,.len (.t 24),(some (23,true)),[(24,some 4),(23,some 3)],0,[(0,[])]⟩,⟨some 26,.bin .gtr .int (.t 25) (rI 0),(some (23,true)),[(25,some 5),(23,some 3)],0,[(0,[])]⟩,Kf 27 23 26 23 3 26 6,Ho 28 27 27 7,⟨some 29,.mv (.t 0),(some (28,true)),[(0,none),(28,some 8)],0,[(0,[])]⟩,⟨some 30,.indexAddr 1 (.t 29) (rI 0),(some (28,true)),[(29,some 9),(28,some 8)],0,[(0,[])]⟩,⟨some 31,.load none (.t 30),(some (28,true)),[(30,some 10),(28,some 8)],0,[(0,[])]⟩,⟨some 32,.len (.t 31),(some (28,true)),[(31,some 11),(28,some 8)],0,[(0,[])]⟩,⟨some 33,.mv (.t 1),(some (28,true)),[(1,none),(28,some 8)],0,[(0,[])]⟩,⟨some 34,.indexAddr 1 (.t 33) (rI 0),(some (28,true)),[(33,some 13),(28,some 8)],0,[(0,[])]⟩,⟨some 35,.load none (.t 34),(some (28,true)),[(34,some 14),(28,some 8)],0,[(0,[])]⟩,⟨some 36,.len (.t 35),(some (28,true)),[(35,some 15),(28,some 8)],0,[(0,[])]⟩,⟨some 37,.bin .neq .int (.t 32) (.t 36),(some (28,true)),[(32,some 12),(36,some 16),(28,some 8)],0,[(0,[])]⟩,Kf 38 28 37 28 8 37 17] [])<|cT 38 (sR [J7 4] <|.ret) .skip)<|sR [v1 4] <|.ret,none⟩
def sS:au:=⟨1,19,[(2,none)],sR [v1 2] <|.seq (sR [rM 5 0,v3 6 5,v1 7]<|dF 0 1 7 6 8 18 (sR [fc 9 5 7,v2 10 9,rM 4 10]<|sR [rM 11 4,v3 12 11,AI 13 12]<|cT 13 (sR [rM 14 4,LU 15 14,v2 16 15,v3 17 16,rM 2 17] <|.ret) .skip))<|sR [LQ 2] <|.ret,none⟩
def vF:au:=⟨1,20,[(2,none)],sR [v5 2] <|.seq (sR [rM 5 0,v1 6]<|dF 0 1 6 5 7 19 (sR [rM 8 6,rM 3 8]<|sR [rM 9 0,Kh 10 9 9,rM 4 10]<|sR [rM 11 4,rM 12 3,rR 13 (rF eF [rI 1]),yK 14 11 12,kb 14 13] <|.region [rM 15 2,rM 16 4,C9 17 16,C8 18 15 17,rM 2 18])) <|.ret,none⟩
def c_P_cone_under_add:au:=⟨3,48,[],sR [LT 4 1]<|sR [rM 8 0,nC 9 8,v6 10 0 9,v2 11 10,rR 12 (.mkfn (.func dE) [] [.t 4]),rR 13 (rF aN [.t 11,.t 12]),rM 6 13] <|.seq (sR [rM 14 6,LS 15 14]<|cT 15 (.region [rM 16 0,v2 17 4,rM 18 2,rR 19 (rF eG [.t 16,.t 17,.t 18])]) (sR [rM 20 0,v2 21 4,rM 22 6,rR 23 (rF dY [.t 20,.t 21,.t 22]),rM 7 23]<|sR [rM 24 2,Hp 25 24]<|cT 25 (.region [rM 26 0,rM 27 0,nC 28 27,v6 29 1 28,v2 30 29,rM 31 7,C9 32 31,C8 33 30 32,nC 34 26,v6 35 1 34,AH 35 33]) .skip))<|sR [rM 36 2,Hp 37 36]<|cT 37 (.draw [⟨some 38,.mv (.t 0),none,[(0,none)],0,[(0,[]),(1,[])]⟩,v4 39 0 0,Fs 40 39 39 1,Fq 41 2 40 40 2,lv 42 41 41 3,Lh 43 4 4,rQ 44 (.buildSlice ae 1 [.nilSl] 1 [((0,1),(.t 43))]) [(43,some 5)] 1,⟨some 45,.append 1 24 ae [.nilSl] (.t 42) (.t 44),none,[(42,some 4),(44,some 6)],2,[(0,[6])]⟩,⟨some 46,.nilCheck (.t 38),none,[(38,some 0)],0,[(1,[])]⟩,⟨some 47,.fieldAddr 2 (.t 46),none,[(46,some 8)],0,[(1,[])]⟩,⟨none,.store 1 (.t 47) (.t 45),none,[(47,some 9),(45,some 7)],2,[(1,[])]⟩] []) .skip,none⟩
def cS:au:=⟨2,2,[],.skip,(some (.sortF ae [fm]))⟩
def oo:au:=⟨2,14,[(4,none)],sR [v1 4]<|sR [rM 8 0,rM 9 1,rR 10 (rF l7 [.t 8,.t 9]),rM 7 10,v0 11 0 7,v0 12 1 7,rM 5 11,rM 6 12]<|sR [rM 13 5,rM 4 13] <|.ret,none⟩
def ir:au:=⟨2,27,[(4,none)],sR [v8 4] <|.seq (sR [rM 6 0,v3 7 6,rM 8 1,v3 9 8,C6 10 7 9]<|cT 10 (sR [v8 4] <|.ret) .skip) <|.seq (sR [v1 5]<|il 0 (.seq (sR [rM 11 5,rM 12 0,v3 13 12,yB 14 11 13]<|cT 14 .skip (.exit 0)) <|.seq (.block 1 (.seq (.draw [v4 17 0 0,v4 18 5 5,J4 19 17 18 17 0 18 1,Lr 20 19 19 2,v4 21 1 1,v4 22 5 5,J4 23 21 22 21 4 22 5,Lr 24 23 23 6,rQ 25 (rF dB [.t 20,.t 24]) [(20,some 3),(24,some 7)] 2,⟨some 26,.un .not (.t 25),none,[(25,some 8)],0,[(1,[])]⟩] [])<|cT 26 (sR [v8 4] <|.ret) .skip)) <|.region [rM 15 5,tG 16 15,rM 5 16]))<|sR [yJ 4] <|.ret,none⟩
def po:au:=⟨1,35,[(2,none)],sR [v1 2] <|.seq (sR [rM 8 0,v3 9 8,v1 10]<|dF 0 1 10 9 11 19 (sR [fc 12 8 10,v2 13 12,rM 4 13]<|sR [rM 14 4,rR 15 (rF fg [.t 14]),rM 5 15]<|sR [rM 16 5,v9 17 16]<|cT 17 (sR [rM 18 5,rM 2 18] <|.ret) .skip)) <|.seq (sR [rM 20 0,rR 21 (.slice 1 (.t 20) (some (rI 1)) none none),v3 22 21,v1 23]<|dF 2 3 23 22 24 34 (sR [fc 25 21 23,v2 26 25,rM 7 26]<|sR [rM 27 7,v3 28 27,rM 29 0,LU 30 29,v2 31 30,v3 32 31,C6 33 28 32]<|cT 33 (sR [J7 2] <|.ret) .skip))<|sR [v1 2] <|.ret,none⟩
def qO:au:=⟨3,12,[(5,some (some 2))],sR [lK 4 1,mz 5] <|.seq (.draw [J3 6 4 4,Lh 7 2 2,v4 8 0 0,J4 9 7 8 7 1 8 2,Lr 10 9 9 3,rQ 11 (rF jT [.t 6,.t 10]) [(6,some 0),(10,some 4)] 2,⟨none,.store 2 (.t 5) (.t 11),none,[(5,none),(11,some 5)],2,[(1,[])]⟩] []) <|.ret,none⟩
def uZ:au:=⟨2,27,[(4,none)],sR [v5 4]<|sR [rM 8 0,v3 9 8,Kh 10 9 9,rM 5 10] <|.seq (sR [rM 11 0,v3 12 11,v1 13]<|dF 0 1 13 12 14 25 (sR [rM 15 13,yK 16 11 13,v7 17 16,mz 7,rM 6 15,kb 7 17] <|.region [rM 18 5,rM 19 6,rM 20 1,rM 21 6,v7 22 7,Lq 23 20 21 22,yK 24 18 19,kb 24 23]))<|sR [rM 26 5,rM 4 26] <|.ret,none⟩
def Ai:au:=⟨1,6,[(2,none)],sR [v5 2]<|sR [rM 3 0,Ke 4 3,LP 5 4,rM 2 5] <|.ret,none⟩
def qJ:au:=⟨2,13,[(4,some (some 2))],sR [mz 4]<|sR [rM 5 0,rM 6 5,kJ 7 1 6,Fu 8 7 6,rG 9 (.bin .gtr .int (.t 8) (rI 0)) 6 true,q9 10 6 9,rM 11 1,rR 12 (.build [(.bool false),.nilSl] [((0,1),(.t 10)),((1,1),(.t 11))]),kb 4 12] <|.ret,none⟩
def pm:au:=⟨1,17,[(2,none)],sR [lK 1 0,v1 2] <|.seq (sR [v6 3 1 1,v2 4 3,J6 5 4,v9 6 5,rM 7 6,rG 8 (.fieldAddr 0 (.t 1)) 7 false,MM 9 8 7,kK 10 9 7,Lo 11 1 1 10,C7 12 11 10,Fu 13 12 10,MW 14 13 10,Kd 15 10 14 7,mw 16 7 15]<|cT 16 (sR [Ie 2] <|.ret) .skip)<|sR [v1 2] <|.ret,none⟩
def oe:au:=⟨3,9,[(5,some (some 2))],sR [lK 4 1,mz 5]<|sR [v7 6 4,v7 7 2,rR 8 (rF dV [.t 6,.t 7]),kb 5 8] <|.ret,none⟩
def qU:au:=⟨3,34,[(6,none)],sR [v1 6] <|.seq (sR [rM 10 1,rM 11 2,rR 12 (rF fl [.t 10,.t 11]),rM 7 12]<|sR [rM 13 7,v9 14 13]<|cT 14 (sR [rM 15 7,rM 6 15] <|.ret) .skip) <|.seq (sR [rM 16 0,C9 17 16,Lt 18 17,rM 8 18]<|sR [rM 19 8,v9 20 19]<|cT 20 (sR [rM 21 8,rM 6 21] <|.ret) .skip) <|.seq (sR [rM 22 1,rM 23 2,LZ 24 22 23,rR 25 (rF jl [.t 24]),rM 9 25]<|sR [rM 26 9,Jm 27 26,rM 28 27,kJ 29 9 28,kJ 30 0 28,Fu 31 30 28,ML 32 29 31 28,q9 33 28 32]<|cT 33 (sR [J7 6] <|.ret) .skip)<|sR [v1 6] <|.ret,none⟩
def qT:au:=⟨3,21,[(6,none)],sR [LT 3 0,v8 6]<|sR [rR 9 (.mkfn (.func gf) [] [.t 3]),rM 7 9]<|sR [rR 10 (.mkfn (.func gc) [] [.t 3]),rM 8 10]<|sR [rM 11 1,rM 12 7,rR 13 (rF aM [.t 11,.t 12]),Hp 14 13,rM 15 14,kJ 16 2 15,kJ 17 8 15,rG 18 (rF aM [.t 16,.t 17]) 15 true,rG 19 (.un .not (.t 18)) 15 true,q9 20 15 19,rM 6 20] <|.ret,none⟩
def qQ:au:=⟨1,39,[(2,none)],sR [v1 2] <|.seq (sR [rM 7 0,v3 8 7,rR 9 (.bin .gtr .int (.t 8) (rI 1024))]<|cT 9 (sR [rR 2 (.mv (rI 4))] <|.ret) .skip) <|.seq (sR [rM 10 0,v3 11 10,v1 12]<|dF 0 1 12 11 13 24 (sR [fc 14 10 12,v2 15 14,rM 4 15]<|sR [rM 16 4,rR 17 (rF fg [.t 16]),v9 18 17,rM 19 18,kK 20 4 19,LY 21 20 19,rG 22 (.bin .eql .int (.t 21) (rI 0)) 19 false,mw 23 19 22]<|cT 23 (sR [Ie 2] <|.ret) .skip)) <|.seq (sR [rM 25 0,v3 26 25,v1 27]<|dF 2 3 27 26 28 38 (sR [fc 29 25 27,v2 30 29,rM 6 30]<|sR [rM 31 6,v3 32 31,rM 33 0,LU 34 33,v2 35 34,v3 36 35,C6 37 32 36]<|cT 37 (sR [J7 2] <|.ret) .skip))<|sR [v1 2] <|.ret,none⟩
def pw:au:=⟨1,22,[(2,none)],sR [rC 2 .nilPtr]<|sR [rR 7 (.build [.nilSl] []),rR 8 (.box cY (.t 7)),rM 3 8]<|sR [rM 9 3,rR 10 (.mkfn (.func dN) [.t 9] []),rM 4 10] <|.seq (sR [rM 11 0,v3 12 11,v1 13]<|dF 0 1 13 12 14 20 (sR [fc 15 11 13,v2 16 15,rM 6 16] <|.region [rM 17 4,rM 18 6,rR 19 (.call (.t 17) [.t 18])]))<|sR [rM 21 3,rM 2 21] <|.ret,none⟩
def kE:au:=⟨2,28,[(4,none)],sR [v5 4]<|sR [rM 8 1,rR 9 (rF gF [.t 8]),rM 7 9,v0 10 0 7,v0 11 1 7,rM 1 10] <|.seq (sR [rM 12 0,nC 13 12,v6 14 0 13,v2 15 14,v3 16 15,v1 17]<|dF 0 1 17 16 18 26 (sR [fc 19 15 17,v2 20 19,rM 6 20] <|.region [rM 21 1,rM 22 6,rM 23 6,rR 24 (rF fF [.t 23]),rR 25 (rF fh [.t 21,.t 22,.t 24]),rM 1 25]))<|sR [rM 27 1,rM 4 27] <|.ret,none⟩
def ve:au:=⟨1,5,[(2,none)],sR [v5 2]<|sR [rM 3 0,rR 4 (rF iG [.t 3,(.c (.fn (.func iT) [] []))]),rM 2 4] <|.ret,none⟩
def cO:au:=⟨2,9,[(4,none)],sR [v8 4]<|sR [rM 5 0,rM 6 1,rR 7 (rF bj [.t 5,.t 6]),Jm 8 7,rM 4 8] <|.ret,none⟩
def pp:au:=⟨1,11,[(2,none)],sR [lK 1 0,v8 2]<|sR [v6 3 0 1,v2 4 3,rM 5 4,rG 6 (.fieldAddr 1 (.t 1)) 5 false,MM 7 6 5,LY 8 7 5,rG 9 (.bin .gtr .int (.t 8) (rI 0)) 5 false,mw 10 5 9,rM 2 10] <|.ret,none⟩
def bI:au:=⟨3,32,[(6,none)],sR [v8 6] <|.seq (sR [rM 10 0,v3 11 10,rM 12 1,v3 13 12,C6 14 11 13]<|cT 14 (sR [v8 6] <|.ret) .skip) <|.seq (sR [rM 15 0,v3 16 15,v1 17]<|dF 0 1 17 16 18 31 (sR [rM 19 17,yK 20 15 17,v7 21 20,mz 8,rM 7 19,kb 8 21]<|sR [rM 22 1,rM 23 7,yK 24 22 23,v7 25 24,mz 9,kb 9 25]<|sR [rM 26 2,v7 27 8,v7 28 9,Lq 29 26 27 28,Hp 30 29]<|cT 30 (sR [v8 6] <|.ret) .skip))<|sR [yJ 6] <|.ret,none⟩
def qL:au:=⟨2,17,[(4,none)],sR [lK 2 0,lK 3 1,v8 4]<|sR [v6 5 0 2,v2 6 5,v6 7 0 3,v2 8 7,rR 9 (.bin .eql .bool (.t 6) (.t 8)),rM 10 9,Lo 11 1 2 10,C7 12 11 10,Lo 13 1 3 10,C7 14 13 10,rG 15 (rF cI [.t 12,.t 14]) 10 true,q9 16 10 15,rM 4 16] <|.ret,none⟩
def bz:au:=⟨3,39,[(6,none)],sR [v1 6] <|.seq (sR [rM 11 0,v3 12 11,v1 13]<|dF 0 1 13 12 14 33 (sR [rM 15 13,yK 16 11 13,v7 17 16,mz 8,rM 7 15,kb 8 17] <|.seq (sR [rM 18 7,rM 19 1,v3 20 19,rR 21 (.bin .geq .int (.t 18) (.t 20))]<|cT 21 (sR [rR 6 (.mv (rI 1))] <|.ret) .skip)<|sR [rM 22 1,rM 23 7,yK 24 22 23,v7 25 24,mz 9,kb 9 25]<|sR [rM 26 2,v7 27 8,v7 28 9,Lq 29 26 27 28,rM 10 29]<|sR [rM 30 10,v9 31 30]<|cT 31 (sR [rM 32 10,rM 6 32] <|.ret) .skip)) <|.seq (sR [rM 34 0,v3 35 34,rM 36 1,v3 37 36,yB 38 35 37]<|cT 38 (sR [LQ 6] <|.ret) .skip)<|sR [v1 6] <|.ret,none⟩
def qN:au:=⟨2,14,[(4,none)],sR [lK 2 0,lK 3 1,v1 4]<|sR [v7 8 2,v7 9 3,rR 10 (rF kR [.t 8,.t 9]),rM 7 10,v0 11 0 7,v0 12 1 7,rM 5 11,rM 6 12]<|sR [rM 13 5,rM 4 13] <|.ret,none⟩
def ia:au:=⟨4,27,[(8,none)],sR [v8 8] <|.seq (sR [rM 10 0,v3 11 10,rM 12 1,rR 13 (.bin .gtr .int (.t 11) (.t 12))]<|cT 13 (sR [yJ 8] <|.ret) .skip) <|.seq (sR [v1 9]<|il 0 (.seq (sR [rM 14 9,rM 15 0,v3 16 15,yB 17 14 16]<|cT 17 .skip (.exit 0)) <|.seq (.block 1 (sR [rM 20 0,rM 21 9,fc 22 20 21,v2 23 22,rM 24 2,rM 25 3,rR 26 (rF cV [.t 23,.t 24,.t 25])]<|cT 26 (sR [yJ 8] <|.ret) .skip)) <|.region [rM 18 9,tG 19 18,rM 9 19]))<|sR [v8 8] <|.ret,none⟩
def iy:au:=⟨2,9,[(3,none)],sR [v8 3]<|sR [v2 4 1,rM 5 0,LO 6 4 5,rR 7 (rF cZ [.t 6]),v9 8 7,rM 3 8] <|.ret,none⟩
def cN:au:=⟨2,19,[(4,none)],sR [v1 4] <|.seq (sR [rM 6 0,v3 7 6,v1 8]<|dF 0 1 8 7 9 18 (sR [rM 10 8,rM 5 10]<|sR [rM 11 1,rM 12 0,rM 13 5,fc 14 12 13,v2 15 14,rR 16 (.call (.t 11) [.t 15])]<|cT 16 (sR [rM 17 5,rM 4 17] <|.ret) .skip))<|sR [LQ 4] <|.ret,none⟩
def c_P_cone_under_cut:au:=⟨3,135,[],sR [rR 19 .mkmap,rM 6 19]<|sR [v5 7]<|sR [v5 8] <|.seq (sR [rM 20 0,nC 21 20,v6 22 1 21,v2 23 22,v3 24 23,v1 25]<|dF 0 1 25 24 26 53 (sR [rM 27 25,fc 28 23 25,v2 29 28,rM 9 27,rM 10 29]<|sR [rM 30 1,rM 31 10,LO 32 30 31,mz 11,kb 11 32]<|sR [rM 33 8,v7 34 11,rR 35 (.buildSlice aa 2 [(.bool false),.nilSl] 1 [((0,2),(.t 34))]),rR 36 (.append 2 32 aa [(.bool false),.nilSl] (.t 33) (.t 35)),rM 37 7,rM 38 0,rM 39 10,rR 40 (rF cR [.t 38,.t 39]),rR 41 (.buildSlice cF 1 [.nilSl] 1 [((0,1),(.t 40))]),rR 42 (.append 1 24 cF [.nilSl] (.t 37) (.t 41)),rM 8 36,rM 7 42] <|.draw [⟨some 43,.mv (.t 6),none,[(6,none)],0,[(0,[]),(1,[]),(2,[]),(3,[])]⟩,J3 44 11 11,rQ 45 (rF cZ [.t 44]) [(44,some 1)] 2,⟨some 46,.mv (.t 6),none,[(6,none)],0,[(0,[]),(1,[]),(2,[])]⟩,⟨some 47,.load (some 2) (.t 11),none,[(11,none)],0,[(0,[]),(1,[])]⟩,⟨some 48,rF cZ [.t 47],none,[(47,some 4)],2,[(1,[])]⟩,⟨some 49,.lookup .int .nilSl (.t 46) (.t 48) false,none,[(46,some 3),(48,some 5)],0,[(2,[])]⟩,⟨some 50,.mv (.t 9),none,[(9,none)],0,[(0,[]),(1,[]),(2,[])]⟩,⟨some 51,.buildSlice dG 1 [(.int .i64 0)] 1 [((0,1),(.t 50))],none,[(50,some 7)],1,[(0,[]),(1,[]),(2,[])]⟩,⟨some 52,.append 1 8 dG [(.int .i64 0)] (.t 49) (.t 51),none,[(49,some 6),(51,some 8)],2,[(2,[8])]⟩,⟨none,.mapUpd .int (.t 43) (.t 45) (.t 52),none,[(43,some 0),(45,some 2),(52,some 9)],2,[(3,[])]⟩] []))<|sR [v5 12] <|.seq (sR [rM 54 6,rR 55 (.lookup .int .nilSl (.t 54) (rI 0) false),v3 56 55,v1 57]<|dF 2 3 57 56 58 71 (sR [fc 59 55 57,v2 60 59,rM 14 60] <|.region [rM 61 12,rM 62 0,nC 63 62,v6 64 1 63,v2 65 64,rM 66 14,fc 67 65 66,v2 68 67,C9 69 68,C8 70 61 69,rM 12 70])) <|.seq (sR [rM 72 6,rR 73 (.lookup .int .nilSl (.t 72) (rI 1) false),v3 74 73,v1 75]<|dF 4 5 75 74 76 130 (sR [fc 77 73 75,v2 78 77,rM 16 78] <|.seq (sR [rM 79 2,Hp 80 79]<|cT 80 (.region [rM 81 12,rM 82 0,nC 83 82,v6 84 1 83,v2 85 84,rM 86 16,fc 87 85 86,v2 88 87,C9 89 88,C8 90 81 89,rM 12 90]) .skip)<|sR [rM 91 6,rR 92 (.lookup .int .nilSl (.t 91) (rI (-1)) false),v3 93 92,v1 94]<|dF 6 7 94 93 95 129 (sR [fc 96 92 94,v2 97 96,rM 18 97]<|sR [rM 98 7,rM 99 16,rM 100 18,rR 101 (rF jk [.t 98,.t 99,.t 100])]<|cT 101 (.draw [⟨some 102,.mv (.t 12),none,[(12,none)],0,[(0,[]),(1,[]),(2,[])]⟩,v4 103 8 8,v4 104 18 18,J4 105 103 104 103 1 104 2,Lr 106 105 105 3,rQ 107 (rF gr [.t 106]) [(106,some 4)] 2,⟨some 108,.mv (.t 0),none,[(0,none)],0,[(0,[]),(1,[])]⟩,⟨some 109,.nilCheck (.t 108),none,[(108,some 6)],0,[(0,[]),(1,[])]⟩,⟨some 110,.fieldAddr 1 (.t 109),none,[(109,some 7)],0,[(0,[]),(1,[])]⟩,⟨some 111,.load none (.t 110),none,[(110,some 8)],0,[(0,[]),(1,[])]⟩,⟨some 112,.mv (.t 16),none,[(16,none)],0,[(0,[]),(1,[])]⟩,⟨some 113,.indexAddr 1 (.t 111) (.t 112),none,[(111,some 9),(112,some 10)],0,[(0,[]),(1,[])]⟩,⟨some 114,.load none (.t 113),none,[(113,some 11)],0,[(0,[]),(1,[])]⟩,⟨some 115,.mv (.t 8),none,[(8,none)],0,[(0,[]),(1,[])]⟩,⟨some 116,.mv (.t 16),none,[(16,none)],0,[(0,[]),(1,[])]⟩,⟨some 117,.indexAddr 2 (.t 115) (.t 116),none,[(115,some 13),(116,some 14)],0,[(0,[]),(1,[])]⟩,⟨some 118,.load (some 2) (.t 117),none,[(117,some 15)],0,[(0,[]),(1,[])]⟩,⟨some 119,.mv (.t 0),none,[(0,none)],0,[(0,[]),(1,[])]⟩,⟨some 120,.nilCheck (.t 119),none,[(119,some 17)],0,[(0,[]),(1,[])]⟩,⟨some 121,.fieldAddr 1 (.t 120),none,[(120,some 18)],0,[(0,[]),(1,[])]⟩,⟨some 122,.load none (.t 121),none,[(121,some 19)],0,[(0,[]),(1,[])]⟩,⟨some 123,.mv (.t 18),none,[(18,none)],0,[(0,[]),(1,[])]⟩,⟨some 124,.indexAddr 1 (.t 122) (.t 123),none,[(122,some 20),(123,some 21)],0,[(0,[]),(1,[])]⟩,⟨some 125,.load none (.t 124),none,[(124,some 22)],0,[(0,[]),(1,[])]⟩,⟨some 126,rF iH [.t 107,.t 114,.t 118,.t 125],none,[(107,some 5),(114,some 12),(118,some 16),(125,some 23)],2,[(1,[])]⟩,⟨some 127,.buildSlice ae 1 [.nilSl] 1 [((0,1),(.t 126))],none,[(126,some 24)],1,[(2,[])]⟩,⟨some 128,.append 1 24 ae [.nilSl] (.t 102) (.t 127),none,[(102,some 0),(127,some 25)],2,[(2,[25])]⟩,⟨some 12,.mv (.t 128),none,[(128,some 26)],0,[(3,[])]⟩] []) .skip))) <|.region [rM 131 0,rM 132 12,nC 133 131,v6 134 1 133,AH 134 132],none⟩
def c_P_cone_under_fold:au:=⟨3,81,[(6,none)],sR [v5 6]<|sR [rM 12 0,nC 13 12,v6 14 0 13,v2 15 14,rM 16 2,fc 17 15 16,v2 18 17,rM 6 18]<|sR [rM 19 1,rM 20 6,LO 21 19 20,mz 7,kb 7 21] <|.seq (sR [v6 22 0 7,v2 23 22]<|cT 23 (sR [rM 25 6,rR 26 (rF eF [rI (-1)]),rR 27 (rF eA [.t 25,.t 26]),rM 24 27,v0 28 0 24,v0 29 1 24,rM 6 28] <|.region [v7 30 7,rR 31 (rF gr [.t 30]),kb 7 31]) .skip)<|sR [rM 32 0,rM 33 0,nC 34 33,v6 35 0 34,v2 36 35,rR 37 (rF bo [.t 36]),rM 38 2,rM 39 2,tG 40 39,rR 41 (rF bk [.t 37,.t 38,.t 40]),nC 42 32,v6 43 0 42,AH 43 41] <|.seq (.seq (.draw [v4 44 0 0,Fs 45 44 44 0,Fq 46 0 45 45 1,v4 47 0 0,Fs 48 47 47 3,Fq 49 1 48 48 4,rQ 50 (.buildSlice gP 1 [.nilPtr,.nilPtr] 2 [((0,1),(.t 46)),((1,1),(.t 49))]) [(46,some 2),(49,some 5)] 1,⟨some 51,.len (.t 50),none,[(50,some 6)],0,[(0,[6])]⟩,rQ 52 (.mv (rI 0)) [] 0] [6])<|dF 0 1 52 51 53 79 (sR [fc 54 50 52,v2 55 54,rM 9 55]<|sR [rM 56 9,nC 57 56,v2 58 57,v3 59 58,v1 60]<|dF 2 3 60 59 61 78 (sR [rM 62 60,fc 63 58 60,v2 64 63,rM 10 62,rM 11 64] <|.draw [⟨some 65,.mv (.t 9),none,[(9,none)],0,[(0,[]),(1,[]),(2,[]),(3,[])]⟩,⟨some 66,.nilCheck (.t 65),none,[(65,some 0)],0,[(0,[]),(1,[]),(2,[]),(3,[])]⟩,⟨some 67,.load none (.t 66),none,[(66,some 1)],0,[(0,[]),(1,[]),(2,[]),(3,[])]⟩,⟨some 68,.mv (.t 10),none,[(10,none)],0,[(0,[]),(1,[]),(2,[]),(3,[])]⟩,⟨some 69,.load (some 2) (.t 7),none,[(7,none)],0,[(0,[]),(1,[]),(2,[])]⟩,⟨some 70,.mv (.t 11),none,[(11,none)],0,[(0,[]),(1,[]),(2,[])]⟩,v4 71 1 1,v4 72 11 11,rQ 73 (rF iI [.t 71,.t 72]) [(71,some 6),(72,some 7)] 2,⟨some 74,rF gr [.t 73],none,[(73,some 8)],2,[(1,[])]⟩,⟨some 75,.mv (.t 6),none,[(6,none)],0,[(0,[]),(1,[]),(2,[])]⟩,⟨some 76,rF iH [.t 69,.t 70,.t 74,.t 75],none,[(69,some 4),(70,some 5),(74,some 9),(75,some 10)],2,[(2,[])]⟩,⟨some 77,.indexAddr 1 (.t 67) (.t 68),none,[(67,some 2),(68,some 3)],0,[(3,[])]⟩,⟨none,.store 1 (.t 77) (.t 76),none,[(77,some 12),(76,some 11)],2,[(3,[])]⟩] [])))<|sR [rM 80 6,rM 6 80] <|.ret,none⟩
def iu:au:=⟨2,17,[(4,none)],sR [lK 2 0,lK 3 1,v8 4]<|sR [v6 5 0 2,v2 6 5,v6 7 0 3,v2 8 7,rR 9 (.bin .eql .bool (.t 6) (.t 8)),rM 10 9,Lo 11 1 2 10,C7 12 11 10,Lo 13 1 3 10,C7 14 13 10,rG 15 (rF dC [.t 12,.t 14]) 10 true,q9 16 10 15,rM 4 16] <|.ret,none⟩
def sK:au:=⟨1,10,[(2,none)],sR [v1 2] <|.seq (sR [rM 3 0,v3 4 3,rR 5 (.bin .gtr .int (.t 4) (rI 64)),rM 6 5,kK 7 0 6,rG 8 (rF aO [.t 7,(.c (.fn (.func gW) [] []))]) 6 false,mw 9 6 8]<|cT 9 (sR [Ie 2] <|.ret) .skip)<|sR [v1 2] <|.ret,none⟩
def wU:au:=⟨2,14,[(4,some (some 2))],sR [lK 2 0,lK 3 1,mz 4]<|sR [v7 8 2,v7 9 3,rR 10 (rF kS [.t 8,.t 9]),rM 7 10,v0 11 0 7,v0 12 1 7,mz 5,kb 5 11,rM 6 12]<|sR [v7 13 5,kb 4 13] <|.ret,none⟩
def vj:au:=⟨1,22,[(2,none)],sR [v5 2] <|.seq (il 0 (.seq (sR [rM 3 0,v3 4 3,AI 5 4,rM 6 5,kJ 7 0 6,kJ 8 0 6,Fu 9 8 6,MJ 10 9 6,LN 11 7 10 6,C7 12 11 6,MI 13 12 6,q9 14 6 13]<|cT 14 .skip (.exit 0)) <|.block 1 (.region [rM 15 0,rM 16 0,v3 17 16,Ft 18 17,MV 19 15 18,rM 0 19])))<|sR [rM 20 0,rR 21 (rF aW [.t 20]),rM 2 21] <|.ret,none⟩
def sN:au:=⟨1,16,[(2,none)],sR [v1 2] <|.seq (sR [rM 4 0,v3 5 4,rM 3 5]<|sR [rM 6 3,AI 7 6,rM 8 7,kJ 9 0 8,kJ 10 3 8,MJ 11 10 8,LN 12 9 11 8,C7 13 12 8,MI 14 13 8,q9 15 8 14]<|cT 15 (sR [Ie 2] <|.ret) .skip)<|sR [v1 2] <|.ret,none⟩
def pn:au:=⟨2,14,[(4,some (some 2))],sR [lK 2 0,lK 3 1,mz 4]<|sR [v7 8 2,v7 9 3,rR 10 (rF kQ [.t 8,.t 9]),rM 7 10,v0 11 0 7,v0 12 1 7,mz 5,kb 5 11,rM 6 12]<|sR [v7 13 5,kb 4 13] <|.ret,none⟩
def nt:au:=⟨2,9,[(3,none)],sR [v8 3]<|sR [v2 4 1,rM 5 0,LO 6 4 5,rR 7 (rF cZ [.t 6]),v9 8 7,rM 3 8] <|.ret,none⟩
def nr:au:=⟨2,9,[(3,none)],sR [v8 3]<|sR [v2 4 1,rM 5 0,LO 6 4 5,rR 7 (rF cZ [.t 6]),LS 8 7,rM 3 8] <|.ret,none⟩
def cz:au:=⟨2,9,[(4,none)],sR [v8 4]<|sR [rM 5 0,rM 6 1,rR 7 (rF aN [.t 5,.t 6]),Jm 8 7,rM 4 8] <|.ret,none⟩
def c_P_rows_form_put:au:=⟨2,79,[],sR [rM 8 0,rM 9 1,rR 10 (rF dq [.t 8,.t 9]),rM 1 10]<|sR [rM 11 1,rR 12 (rF fF [.t 11]),rM 4 12] <|.seq (sR [rM 13 4,LS 14 13]<|cT 14 .ret .skip) <|.seq (sR [rM 15 1,rM 16 4,yK 17 15 16,v6 18 0 17,v2 19 18]<|cT 19 (.region [rM 21 1,rR 22 (rF eF [rI (-1)]),rR 23 (rF eA [.t 21,.t 22]),rM 20 23,v0 24 0 20,v0 25 1 20,rM 1 24]) .skip) <|.seq (sR [rM 26 0,nC 27 26,v6 28 0 27,v2 29 28,v3 30 29,v1 31]<|dF 0 1 31 30 32 46 (sR [rM 33 31,fc 34 29 31,v2 35 34,rM 5 33,rM 6 35] <|.draw [⟨some 36,.mv (.t 0),none,[(0,none)],0,[(0,[]),(1,[])]⟩,⟨some 37,.nilCheck (.t 36),none,[(36,some 0)],0,[(0,[]),(1,[])]⟩,⟨some 38,.fieldAddr 0 (.t 37),none,[(37,some 1)],0,[(0,[]),(1,[])]⟩,⟨some 39,.load none (.t 38),none,[(38,some 2)],0,[(0,[]),(1,[])]⟩,⟨some 40,.mv (.t 5),none,[(5,none)],0,[(0,[]),(1,[])]⟩,v4 41 6 6,v4 42 1 1,v4 43 4 4,rQ 44 (rF fh [.t 41,.t 42,.t 43]) [(41,some 5),(42,some 6),(43,some 7)] 2,⟨some 45,.indexAddr 1 (.t 39) (.t 40),none,[(39,some 3),(40,some 4)],0,[(1,[])]⟩,⟨none,.store 1 (.t 45) (.t 44),none,[(45,some 9),(44,some 8)],2,[(1,[])]⟩] []))<|sR [v1 7] <|.seq (il 2 (.seq (sR [rM 47 7,rM 48 0,nC 49 48,v6 50 0 49,v2 51 50,v3 52 51,yB 53 47 52,rM 54 53,kJ 55 0 54,rG 56 (.nilCheck (.t 55)) 54 true,Lo 57 0 56 54,C7 58 57 54,kJ 59 7 54,LN 60 58 59 54,C7 61 60 54,rG 62 (rF fF [.t 61]) 54 true,kJ 63 4 54,rG 64 (rF iW [.t 62,.t 63]) 54 true,q9 65 54 64]<|cT 65 .skip (.exit 2)) <|.block 3 (.region [rM 66 7,tG 67 66,rM 7 67]))) <|.region [rM 68 0,rM 69 0,nC 70 69,v6 71 0 70,v2 72 71,rM 73 7,rM 74 1,C9 75 74,rR 76 (rF bi [.t 72,.t 73,.t 75]),nC 77 68,v6 78 0 77,AH 78 76],none⟩
def sJ:au:=⟨1,24,[(2,none),(3,none)],sR [v5 2,v1 3]<|sR [rM 7 0,rR 8 (rF iU [.t 7]),rM 6 8,v0 9 0 6,v0 10 1 6,rR 4 (.alloc ak [.nilSl]),AH 4 9,rM 5 10] <|.seq (.block 0 (sR [rM 12 5,v9 13 12,rM 11 13]<|cT 11 (sR [rM 14 5,v5 2,rM 3 14] <|.ret) (sR [v2 16 4,v3 17 16,Da 18 17,rM 15 18]<|cT 15 (sR [rM 19 0,rR 20 (rF ko [.t 19]),rM 2 20,v1 3] <|.ret) .skip)))<|sR [rM 21 0,rR 22 (.mkfn (.func gV) [] [.t 4]),MK 23 21 22,rM 2 23,v1 3] <|.ret,none⟩
def qP:au:=⟨1,16,[(2,some none)],sR [LT 1 0,rR 2 (.alloc dG [(.int .i64 0)])] <|.seq (sR [v2 4 1,v3 5 4,rR 6 (rF iV [.t 5])] <|.block 0 (.rangeFunc (.t 6) [7] (.region [rM 3 7]) (.block 1 (sR [v2 8 1,rM 9 3,yK 10 8 9,v6 11 1 10,v2 12 11,v3 13 12,AI 14 13]<|cT 14 (sR [rM 15 3,AH 2 15] <|.ret) .skip))))<|sR [rN (.store 1 (.t 2) (rI (-1)))] <|.ret,none⟩
def oi:au:=⟨3,44,[(6,none)],sR [v5 6] <|.seq (sR [rM 11 0,rM 12 2,yK 13 11 12,v6 14 1 13,v2 15 14,v3 16 15,Da 17 16]<|cT 17 (sR [rM 18 0,rM 6 18] <|.ret) .skip)<|sR [rM 20 0,rM 21 2,yK 22 20 21,v7 23 22,rR 24 (rF jh [.t 23]),rM 19 24,v0 25 0 19,v0 26 1 19,mz 7,kb 7 25,rM 8 26] <|.seq (.draw [v4 28 1 1,v4 29 2 2,J4 30 28 29 28 0 29 1,Lr 31 30 30 2,v4 32 0 0,J3 33 7 7,v4 34 1 1,rQ 35 (rF l5 [.t 31,.t 32,.t 33,.t 34]) [(31,some 3),(32,some 4),(33,some 5),(34,some 6)] 2,⟨some 27,.mv (.t 35),none,[(35,some 7)],0,[(1,[])]⟩,⟨some 36,.extract 0 (.t 27),none,[(27,some 8)],0,[(1,[])]⟩,⟨some 37,.extract 1 (.t 27),none,[(27,some 8)],0,[(1,[])]⟩,⟨some 9,.mv (.t 36),none,[(36,some 9)],0,[(1,[])]⟩,⟨some 10,.mv (.t 37),none,[(37,some 10)],0,[(1,[])]⟩] [])<|sR [rM 39 9,rR 40 (rF gF [.t 39]),rM 38 40,v0 41 0 38,v0 42 1 38,rM 9 41]<|sR [rM 43 9,rM 6 43] <|.ret,none⟩
def pq:au:=⟨2,11,[(4,some (some 2))],sR [lK 3 1,mz 4] <|.seq (.draw [⟨some 5,.fieldAddr 0 (.t 3),none,[(3,none)],0,[(0,[]),(1,[])]⟩,⟨some 6,.load none (.t 5),none,[(5,some 0)],0,[(0,[]),(1,[])]⟩,MH 7 1 3 3,lv 8 7 7 2,rQ 9 (rF aD [.t 8]) [(8,some 3)] 2,⟨some 10,.build [(.bool false),.nilSl] [((0,1),(.t 6)),((1,1),(.t 9))],none,[(6,some 1),(9,some 4)],0,[(1,[])]⟩,⟨none,.store 2 (.t 4) (.t 10),none,[(4,none),(10,some 5)],2,[(1,[])]⟩] []) <|.ret,none⟩
def dx:au:=⟨2,19,[(4,none)],sR [v1 4] <|.seq (sR [rM 6 0,v3 7 6,v1 8]<|dF 0 1 8 7 9 18 (sR [rM 10 8,rM 5 10]<|sR [rM 11 1,rM 12 0,rM 13 5,yK 14 12 13,v7 15 14,rR 16 (.call (.t 11) [.t 15])]<|cT 16 (sR [rM 17 5,rM 4 17] <|.ret) .skip))<|sR [LQ 4] <|.ret,none⟩
def eC:au:=⟨2,26,[(4,none)],sR [v8 4] <|.seq (sR [rM 6 0,v3 7 6,rM 8 1,v3 9 8,C6 10 7 9]<|cT 10 (sR [v8 4] <|.ret) .skip) <|.seq (sR [rM 11 0,v3 12 11,v1 13]<|dF 0 1 13 12 14 25 (sR [rM 15 13,rM 5 15] <|.seq (.draw [v4 16 0 0,v4 17 5 5,q8 18 16 17 16 0 17 1,lv 19 18 18 2,v4 20 1 1,v4 21 5 5,q8 22 20 21 20 4 21 5,lv 23 22 22 6,Kc 24 19 23 19 3 23 7] [])<|cT 24 (sR [v8 4] <|.ret) .skip))<|sR [yJ 4] <|.ret,none⟩
def sE:au:=⟨2,19,[(4,none),(5,none)],sR [lK 2 0,lK 3 1,v1 4,v1 5]<|sR [v7 9 2,v7 10 3,rR 11 (rF kP [.t 9,.t 10]),rM 8 11,v0 12 0 8,v0 13 1 8,mz 6,kb 6 12,rM 7 13] <|.seq (sR [rM 14 7,v9 15 14]<|cT 15 (sR [rM 16 7,v1 4,rM 5 16] <|.ret) .skip)<|sR [v7 17 6,rR 18 (rF gS [.t 17]),rM 4 18,v1 5] <|.ret,none⟩
def ib:au:=⟨3,26,[(6,none)],sR [v8 6] <|.seq (sR [rM 8 0,v3 9 8,rM 10 1,rR 11 (.bin .gtr .int (.t 9) (.t 10))]<|cT 11 (sR [yJ 6] <|.ret) .skip) <|.seq (sR [v1 7]<|il 0 (.seq (sR [rM 12 7,rM 13 0,v3 14 13,yB 15 12 14]<|cT 15 .skip (.exit 0)) <|.seq (.block 1 (sR [rM 18 0,rM 19 7,yK 20 18 19,v6 21 1 20,v2 22 21,v3 23 22,rM 24 2,rR 25 (.bin .gtr .int (.t 23) (.t 24))]<|cT 25 (sR [yJ 6] <|.ret) .skip)) <|.region [rM 16 7,tG 17 16,rM 7 17]))<|sR [v8 6] <|.ret,none⟩
def vE:au:=⟨2,14,[(4,some (some 2))],sR [mz 4]<|sR [rM 8 0,rM 9 1,rR 10 (rF jU [.t 8,.t 9]),rM 7 10,v0 11 0 7,v0 12 1 7,mz 5,kb 5 11,rM 6 12]<|sR [v7 13 5,kb 4 13] <|.ret,none⟩
def sP:au:=⟨1,11,[(2,none)],sR [lK 1 0,v1 2]<|sR [v7 6 1,rR 7 (rF gT [.t 6]),rM 5 7,v0 8 0 5,v0 9 1 5,rM 3 8,rM 4 9]<|sR [rM 10 3,rM 2 10] <|.ret,none⟩
def jy:au:=⟨2,48,[(4,none)],sR [v5 4]<|sR [rM 10 0,nC 11 10,v6 12 2 11,v2 13 12,v3 14 13,LM 15 14,tG 16 15,Ln 17 16 16,rM 5 17]<|sR [rM 19 1,rM 20 0,nC 21 20,v6 22 2 21,v2 23 22,rR 24 (rF kT [.t 19,.t 23]),rM 18 24,v0 25 0 18,v0 26 1 18,rM 6 25,rM 7 26] <|.seq (sR [rM 27 6,v3 28 27,v1 29]<|dF 0 1 29 28 30 46 (sR [rM 31 29,fc 32 27 29,v2 33 32,rM 8 31,rM 9 33]<|sR [rM 34 9,Da 35 34]<|cT 35 (.draw [v4 36 5 5,v4 37 8 8,rQ 38 (.bin .quo .int (.t 37) (rI 64)) [(37,some 1)] 0,q8 39 36 38 36 0 38 2,lv 40 39 39 3,v4 41 8 8,rQ 42 (.bin .rem .int (.t 41) (rI 64)) [(41,some 5)] 0,rQ 43 (.bin .shl .int (.c (.int .u64 1)) (.t 42)) [(42,some 6)] 0,rQ 44 (.bin .or .int (.t 40) (.t 43)) [(40,some 4),(43,some 7)] 0,q8 45 36 38 36 0 38 2,⟨none,.store 1 (.t 45) (.t 44),none,[(45,some 9),(44,some 8)],2,[(0,[])]⟩] []) .skip))<|sR [rM 47 5,rM 4 47] <|.ret,none⟩
def sQ:au:=⟨3,37,[(6,none)],sR [v8 6] <|.seq (sR [rM 9 0,v3 10 9,v1 11]<|dF 0 1 11 10 12 36 (sR [rM 13 11,fc 14 9 11,v2 15 14,rM 7 13,rM 8 15] <|.seq (.draw [v4 16 7 7,v4 17 1 1,Kc 18 16 17 16 0 17 1,Ho 19 18 18 2,⟨some 20,.mv (.t 7),(some (19,true)),[(7,none),(19,some 3)],0,[(0,[])]⟩,⟨some 21,.mv (.t 2),(some (19,true)),[(2,none),(19,some 3)],0,[(0,[])]⟩,⟨some 22,.bin .neq .int (.t 20) (.t 21),(some (19,true)),[(20,some 4),(21,some 5),(19,some 3)],0,[(0,[])]⟩,Kf 23 19 22 19 3 22 6,Ho 24 23 23 7,⟨some 25,.mv (.t 8),(some (24,true)),[(8,none),(24,some 8)],0,[(0,[])]⟩,⟨some 26,.mv (.t 0),(some (24,true)),[(0,none),(24,some 8)],0,[(0,[])]⟩,⟨some 27,.mv (.t 1),(some (24,true)),[(1,none),(24,some 8)],0,[(0,[])]⟩,⟨some 28,.indexAddr 1 (.t 26) (.t 27),(some (24,true)),[(26,some 10),(27,some 11),(24,some 8)],0,[(0,[])]⟩,⟨some 29,.load none (.t 28),(some (24,true)),[(28,some 12),(24,some 8)],0,[(0,[])]⟩,⟨some 30,.mv (.t 0),(some (24,true)),[(0,none),(24,some 8)],0,[(0,[])]⟩,⟨some 31,.mv (.t 2),(some (24,true)),[(2,none),(24,some 8)],0,[(0,[])]⟩,⟨some 32,.indexAddr 1 (.t 30) (.t 31),(some (24,true)),[(30,some 14),(31,some 15),(24,some 8)],0,[(0,[])]⟩,⟨some 33,.load none (.t 32),(some (24,true)),[(32,some 16),(24,some 8)],0,[(0,[])]⟩,⟨some 34,rF mI [.t 25,.t 29,.t 33],(some (24,true)),[(25,some 9),(29,some 13),(33,some 17),(24,some 8)],2,[(0,[])]⟩,⟨some 35,.pick (.t 24) (.t 34) (.c (.bool false)),none,[(24,some 8),(34,some 18)],0,[(1,[])]⟩] [])<|cT 35 (sR [v8 6] <|.ret) .skip))<|sR [yJ 6] <|.ret,none⟩
def vB:au:=⟨1,11,[(2,some (some 2))],sR [lK 1 0,mz 2]<|sR [v7 6 1,rR 7 (rF jh [.t 6]),rM 5 7,v0 8 0 5,v0 9 1 5,mz 3,kb 3 8,rM 4 9]<|sR [v7 10 3,kb 2 10] <|.ret,none⟩
def vC:au:=⟨4,25,[(8,none)],sR [lK 4 0,lK 6 2,v5 8]<|sR [v7 12 4,rM 13 1,v7 14 6,rM 15 3,rR 16 (rF l5 [.t 12,.t 13,.t 14,.t 15]),rM 11 16,v0 17 0 11,v0 18 1 11,rM 9 17,rM 10 18]<|sR [rM 20 9,rR 21 (rF gF [.t 20]),rM 19 21,v0 22 0 19,v0 23 1 19,rM 9 22]<|sR [rM 24 9,rM 8 24] <|.ret,none⟩
def dH:au:=⟨1,8,[(2,none)],sR [v5 2] <|.seq (sR [rM 3 0,rR 4 (.bin .eql .sl (.t 3) (.c .nilSl))]<|cT 4 (sR [v5 2] <|.ret) .skip)<|sR [rR 5 (.buildSlice ae 1 [] 0 []),rM 6 0,C8 7 5 6,rM 2 7] <|.ret,none⟩
def dy:au:=⟨3,33,[(6,none)],sR [v5 6]<|sR [rM 8 0,rM 9 1,rM 10 2,rM 11 0,v3 12 11,rR 13 (.slice 1 (.t 8) (some (.t 9)) (some (.t 10)) (some (.t 12)))] <|.seq (sR [rM 14 1,rM 15 2,rR 16 (.bin .eql .int (.t 14) (.t 15))]<|cT 16 (sR [rM 17 0,rM 6 17] <|.ret) .skip)<|sR [rM 18 0,v3 19 18,rM 7 19] <|.seq (.draw [v4 20 0 0,v4 21 1 1,rQ 22 (.slice 1 (.t 20) none (some (.t 21)) none) [(20,some 0),(21,some 1)] 0,v4 23 0 0,v4 24 2 2,rQ 25 (.slice 1 (.t 23) (some (.t 24)) none none) [(23,some 3),(24,some 4)] 0,rQ 26 (.append 1 24 ae [.nilSl] (.t 22) (.t 25)) [(22,some 2),(25,some 5)] 2,⟨some 0,.mv (.t 26),none,[(26,some 6)],0,[(1,[])]⟩] [])<|sR [rM 27 0,rM 28 0,v3 29 28,rM 30 7,rR 31 (.slice 1 (.t 27) (some (.t 29)) (some (.t 30)) none),rN (.clear 1 [.nilSl] (.t 31))]<|sR [rM 32 0,rM 6 32] <|.ret,none⟩
def iv:au:=⟨2,26,[(4,none)],sR [v8 4] <|.seq (sR [rM 6 0,v3 7 6,rM 8 1,v3 9 8,C6 10 7 9]<|cT 10 (sR [v8 4] <|.ret) .skip) <|.seq (sR [v1 5]<|il 0 (.seq (sR [rM 11 5,rM 12 0,v3 13 12,yB 14 11 13]<|cT 14 .skip (.exit 0)) <|.seq (.block 1 (.seq (.draw [v4 17 0 0,v4 18 5 5,q8 19 17 18 17 0 18 1,lv 20 19 19 2,v4 21 1 1,v4 22 5 5,q8 23 21 22 21 4 22 5,lv 24 23 23 6,Kc 25 20 24 20 3 24 7] [])<|cT 25 (sR [v8 4] <|.ret) .skip)) <|.region [rM 15 5,tG 16 15,rM 5 16]))<|sR [yJ 4] <|.ret,none⟩
def oh:au:=⟨1,6,[(2,none)],sR [lK 1 0,v8 2]<|sR [v7 3 1,LL 4 3,v9 5 4,rM 2 5] <|.ret,none⟩
def sF:au:=⟨2,18,[(4,some (some 2)),(5,none)],sR [lK 2 0,lK 3 1,mz 4,v1 5] <|.seq (sR [v7 7 2,v7 8 3,MG 9 7 8,MF 10 9,rM 6 10]<|sR [rM 11 6,v9 12 11]<|cT 12 (sR [Lm 13,rM 14 6,kb 4 13,rM 5 14] <|.ret) .skip)<|sR [v7 15 2,v7 16 3,rR 17 (rF jg [.t 15,.t 16]),kb 4 17,v1 5] <|.ret,none⟩
def eN:au:=⟨1,9,[(2,none)],sR [v5 2]<|sR [rM 3 0,rM 4 0,v3 5 4,rM 6 0,v3 7 6,rR 8 (.slice 1 (.t 3) none (some (.t 5)) (some (.t 7))),rM 2 8] <|.ret,none⟩
def sD:au:=⟨2,32,[(4,some (some 2)),(5,none)],sR [lK 2 0,lK 3 1,mz 4,v1 5] <|.seq (sR [v7 9 2,v7 10 3,MG 11 9 10,MF 12 11,rM 6 12]<|sR [rM 13 6,v9 14 13]<|cT 14 (sR [Lm 15,rM 16 6,kb 4 15,rM 5 16] <|.ret) .skip)<|sR [v6 18 1 2,v2 19 18,v6 20 1 3,v2 21 20,rR 22 (rF oL [.t 19,.t 21]),rM 17 22,v0 23 0 17,v0 24 1 17,rM 7 23,rM 8 24]<|sR [v6 25 0 2,v2 26 25,v6 27 0 3,v2 28 27,rR 29 (.bin .neq .bool (.t 26) (.t 28)),rM 30 7,Lg 31 29 30,kb 4 31,v1 5] <|.ret,none⟩
def px:au:=⟨2,21,[(4,none)],sR [v8 4]<|sR [rM 5 0,rM 6 1,C6 7 5 6,rM 8 7,kJ 9 0 8,rG 10 (.bin .neq .int (.t 9) (rI 0)) 8 true,q9 11 8 10,rM 12 11,kJ 13 1 12,MW 14 13 12,kJ 15 14 12,kK 16 0 15,kK 17 1 15,rG 18 (.bin .lss .int (.t 16) (.t 17)) 15 false,rG 19 (.pick (.t 15) (.c (.bool true)) (.t 18)) 12 true,q9 20 12 19,rM 4 20] <|.ret,none⟩
def dw:au:=⟨3,3,[],.skip,(some (.insert 1 24 ae))⟩
def pt:au:=⟨1,25,[(2,none),(3,none)],sR [v5 2,v1 3] <|.seq (sR [rM 6 0,C9 7 6,Lu 8 7,rM 3 8]<|sR [rM 9 3,v9 10 9]<|cT 10 .ret .skip) <|.seq (sR [rM 11 0,v3 12 11,v1 13]<|dF 0 1 13 12 14 24 (sR [yK 15 11 13,v7 16 15,mz 5,kb 5 16] <|.region [rM 18 2,v6 19 1 5,v2 20 19,rR 21 (rF oM [.t 18,.t 20]),rM 17 21,v0 22 0 17,v0 23 1 17,rM 2 22])) <|.ret,none⟩
def og:au:=⟨3,16,[(5,some (some 2))],sR [lK 4 1,mz 5]<|sR [v7 9 4,v2 10 2,rR 11 (.build [(.bool false),.nilSl] [((1,1),(.t 10))]),rR 12 (rF iR [.t 9,.t 11]),rM 8 12,v0 13 0 8,v0 14 1 8,mz 6,kb 6 13,rM 7 14]<|sR [v7 15 6,kb 5 15] <|.ret,none⟩
def pu:au:=⟨1,4,[(2,none)],sR [rR 1 (.box dG (.t 0)),rC 2 .nilFn]<|sR [rR 3 (.mkfn (.func de) [] [.t 1]),rM 2 3] <|.ret,none⟩
def sC:au:=⟨1,18,[(2,some (some 2)),(3,none)],sR [lK 1 0,mz 2,v1 3] <|.seq (sR [v7 5 1,LL 6 5,rM 4 6]<|sR [rM 7 4,v9 8 7]<|cT 8 (sR [Lm 9,rM 10 4,kb 2 9,rM 3 10] <|.ret) .skip) <|.seq (.draw [⟨some 11,.fieldAddr 0 (.t 1),none,[(1,none)],0,[(0,[]),(1,[])]⟩,⟨some 12,.load none (.t 11),none,[(11,some 0)],0,[(0,[]),(1,[])]⟩,⟨some 13,.un .not (.t 12),none,[(12,some 1)],0,[(0,[]),(1,[])]⟩,MH 14 1 1 1,lv 15 14 14 3,rQ 16 (rF aD [.t 15]) [(15,some 4)] 2,⟨some 17,rF dL [.t 13,.t 16],none,[(13,some 2),(16,some 5)],2,[(1,[])]⟩,⟨none,.store 2 (.t 2) (.t 17),none,[(2,none),(17,some 6)],2,[(2,[])]⟩,⟨some 3,.mv (rI 0),none,[],0,[(3,[])]⟩] []) <|.ret,none⟩
def wV:au:=⟨4,29,[(8,none),(9,none)],sR [lK 4 0,lK 6 2,LT 7 3,v5 8,v1 9] <|.seq (sR [v7 11 4,LL 12 11,v9 13 12,rM 14 13,rG 15 (.load (some 2) (.t 6)) 14 false,rG 16 (rF dU [.t 15]) 14 false,J5 17 16 14,mw 18 14 17]<|cT 18 (sR [v5 8,Ie 9] <|.ret) .skip) <|.seq (sR [rM 19 1,v2 20 7,J8 21 19 20,Lu 22 21,rM 10 22]<|sR [rM 23 10,v9 24 23]<|cT 24 (sR [rM 25 10,v5 8,rM 9 25] <|.ret) .skip)<|sR [rM 26 1,rR 27 (.mkfn (.func jD) [] [.t 4,.t 6,.t 7]),MK 28 26 27,rM 8 28,v1 9] <|.ret,none⟩
def eD:au:=⟨1,8,[(2,none)],sR [v5 2] <|.seq (sR [rM 3 0,rR 4 (.bin .eql .sl (.t 3) (.c .nilSl))]<|cT 4 (sR [v5 2] <|.ret) .skip)<|sR [rR 5 (.buildSlice ad 1 [] 0 []),rM 6 0,ME 7 5 6,rM 2 7] <|.ret,none⟩
def sB:au:=⟨2,23,[(4,some (some 2)),(5,none)],sR [lK 2 0,lK 3 1,mz 4,v1 5] <|.seq (sR [v7 7 2,v7 8 3,MG 9 7 8,MF 10 9,rM 6 10]<|sR [rM 11 6,v9 12 11]<|cT 12 (sR [Lm 13,rM 14 6,kb 4 13,rM 5 14] <|.ret) .skip) <|.seq (.draw [⟨some 15,.load (some 2) (.t 2),none,[(2,none)],0,[(0,[]),(1,[])]⟩,MH 16 0 3 3,lv 17 16 16 1,rQ 18 (.un .not (.t 17)) [(17,some 2)] 0,MH 19 1 3 3,lv 20 19 19 4,rQ 21 (rF dL [.t 18,.t 20]) [(18,some 3),(20,some 5)] 2,⟨some 22,rF jg [.t 15,.t 21],none,[(15,some 0),(21,some 6)],2,[(1,[])]⟩,⟨none,.store 2 (.t 4) (.t 22),none,[(4,none),(22,some 7)],2,[(2,[])]⟩,⟨some 5,.mv (rI 0),none,[],0,[(3,[])]⟩] []) <|.ret,none⟩
def qI:au:=⟨1,16,[(2,none)],sR [lK 1 0,v1 2]<|sR [v6 4 0 1,v2 5 4,v6 6 1 1,v2 7 6,v3 8 7,Da 9 8,rR 10 (.build [(.bool false),(.bool false)] [((0,1),(.t 5)),((1,1),(.t 9))]),rR 3 (.alloc FN [(.bool false),(.bool false)]),kb 3 10] <|.seq (sR [v7 11 3,rR 12 (.build [(.bool false),(.bool false)] [((0,1),(.c (.bool false))),((1,1),(.c (.bool true)))]),rR 13 (.eqAgg false 0 (.t 11) (.t 12))]<|cT 13 (sR [v1 2] <|.ret) .skip) <|.seq (sR [v6 14 0 1,v2 15 14]<|cT 15 (sR [LQ 2] <|.ret) .skip)<|sR [rR 2 (.mv (rI 1))] <|.ret,none⟩
def wW:au:=⟨2,30,[(4,some (some 2)),(5,none)],sR [mz 4,v1 5] <|.seq (sR [rM 8 0,rM 9 1,J8 10 8 9,Lu 11 10,rM 5 11]<|sR [rM 12 5,v9 13 12]<|cT 13 .ret .skip) <|.seq (sR [rM 14 0,v3 15 14,v1 16]<|dF 0 1 16 15 17 29 (sR [rM 18 16,yK 19 14 16,v7 20 19,mz 7,rM 6 18,kb 7 20] <|.draw [⟨some 21,.load (some 2) (.t 4),none,[(4,none)],0,[(0,[]),(1,[])]⟩,J3 22 7 7,v4 23 1 1,v4 24 6 6,J4 25 23 24 23 2 24 3,Lr 26 25 25 4,rQ 27 (rF dV [.t 22,.t 26]) [(22,some 1),(26,some 5)] 2,⟨some 28,rF jT [.t 21,.t 27],none,[(21,some 0),(27,some 6)],2,[(1,[])]⟩,⟨none,.store 2 (.t 4) (.t 28),none,[(4,none),(28,some 7)],2,[(2,[])]⟩] [])) <|.ret,none⟩
def qK:au:=⟨1,12,[(2,none),(3,none)],sR [lK 1 0,v1 2,v1 3] <|.seq (sR [v7 5 1,LL 6 5,rM 4 6]<|sR [rM 7 4,v9 8 7]<|cT 8 (sR [rM 9 4,v1 2,rM 3 9] <|.ret) .skip)<|sR [v7 10 1,rR 11 (rF gS [.t 10]),rM 2 11,v1 3] <|.ret,none⟩
def c_sat_Signs:au:=⟨2,55,[(4,none),(5,none)],sR [v5 4,v1 5] <|.seq (sR [rM 12 1,Lt 13 12,rM 5 13]<|sR [rM 14 5,v9 15 14]<|cT 15 .ret .skip) <|.seq (.block 0 (sR [rM 17 0,rR 18 (rF fg [.t 17]),v9 19 18,rM 16 19]<|cT 16 (sR [v5 4,Ie 5] <|.ret) (sR [rM 21 1,v3 22 21,AI 23 22,rM 24 23,kJ 25 1 24,rG 26 (.indexAddr 1 (.t 25) (rI 0)) 24 true,C7 27 26 24,Fu 28 27 24,kJ 29 0 24,Fu 30 29 24,ML 31 28 30 24,q9 32 24 31,rM 20 32]<|cT 20 (sR [v5 4,J7 5] <|.ret) .skip))) <|.seq (sR [rM 33 1,v3 34 33,v1 35]<|dF 1 2 35 34 36 54 (sR [fc 37 33 35,v2 38 37,rM 7 38]<|sR [rM 40 0,rM 41 7,rR 42 (rF jU [.t 40,.t 41]),rM 39 42,v0 43 0 39,v0 44 1 39,mz 8,kb 8 43,rM 9 44]<|sR [v7 46 8,rR 47 (rF gT [.t 46]),rM 45 47,v0 48 0 45,v0 49 1 45,rM 10 48,rM 11 49] <|.region [rM 50 4,rM 51 10,rR 52 (.buildSlice dG 1 [(.int .i64 0)] 1 [((0,1),(.t 51))]),rR 53 (.append 1 8 dG [(.int .i64 0)] (.t 50) (.t 52)),rM 4 53])) <|.ret,none⟩
def vD:au:=⟨3,29,[(6,none)],sR [v8 6] <|.seq (sR [rM 9 0,v3 10 9,v1 11]<|dF 0 1 11 10 12 28 (sR [rM 13 11,fc 14 9 11,v2 15 14,rM 7 13,rM 8 15] <|.seq (.draw [v4 16 1 1,v4 17 7 7,q8 18 16 17 16 0 17 1,lv 19 18 18 2,v4 20 2 2,v4 21 7 7,q8 22 20 21 20 4 21 5,lv 23 22 22 6,rQ 24 (.bin .and .int (.t 19) (.t 23)) [(19,some 3),(23,some 7)] 0,v4 25 8 8,rQ 26 (.bin .andNot .int (.t 24) (.t 25)) [(24,some 8),(25,some 9)] 0,rQ 27 (.bin .neq .int (.t 26) (.c (.int .u64 0))) [(26,some 10)] 0] [])<|cT 27 (sR [v8 6] <|.ret) .skip))<|sR [yJ 6] <|.ret,none⟩
def np:au:=⟨1,18,[(2,none)],sR [v1 2] <|.seq (sR [rM 6 0,v3 7 6,v1 8]<|dF 0 1 8 7 9 17 (sR [yK 10 6 8,v7 11 10,mz 4,kb 4 11]<|sR [v7 12 4,LL 13 12,rM 5 13]<|sR [rM 14 5,v9 15 14]<|cT 15 (sR [rM 16 5,rM 2 16] <|.ret) .skip))<|sR [v1 2] <|.ret,none⟩
def sA:au:=⟨2,54,[(4,some (some 2))],sR [lK 2 0,lK 3 1,mz 4] <|.seq (sR [v6 11 0 2,v2 12 11,v6 13 0 3,v2 14 13,rR 15 (.bin .eql .bool (.t 12) (.t 14))]<|cT 15 (sR [v6 17 1 2,v2 18 17,v6 19 1 3,v2 20 19,rR 21 (rF mc [.t 18,.t 20]),rM 16 21,v0 22 0 16,v0 23 1 16,rM 5 22,rM 6 23]<|sR [v6 24 0 2,v2 25 24,rM 26 5,Lg 27 25 26,kb 4 27] <|.ret) .skip) <|.seq (sR [v6 29 1 2,v2 30 29,v6 31 1 3,v2 32 31,rR 33 (rF jV [.t 30,.t 32]),rM 28 33,v0 34 0 28,v0 35 1 28,rM 7 34,rM 8 35]<|sR [rM 36 8,Da 37 36]<|cT 37 (sR [v6 38 0 2,v2 39 38,rM 40 7,Lg 41 39 40,kb 4 41] <|.ret) .skip)<|sR [v6 43 1 3,v2 44 43,v6 45 1 2,v2 46 45,rR 47 (rF jV [.t 44,.t 46]),rM 42 47,v0 48 0 42,v0 49 1 42,rM 9 48,rM 10 49]<|sR [v6 50 0 3,v2 51 50,rM 52 9,Lg 53 51 52,kb 4 53] <|.ret,none⟩
def xe:au:=⟨2,12,[(4,none),(5,none)],sR [v5 4,v1 5]<|sR [rM 6 0,rM 7 1,rR 8 (.mkfn (.func cQ) [rI 8] []),rR 9 (rF iX [.t 6,.t 7,.t 8]),v0 10 0 9,v0 11 1 9,rM 4 10,rM 5 11] <|.ret,none⟩
def xf:au:=⟨2,31,[(4,none),(5,none)],sR [v5 4,v1 5] <|.seq (sR [rM 10 0,rM 11 1,Lk 12 10 11,rR 13 (rF iY [.t 12]),rM 6 13]<|sR [rM 14 6,v9 15 14]<|cT 15 (sR [rM 16 6,v5 4,rM 5 16] <|.ret) .skip) <|.seq (il 0 (.seq (sR [rM 17 1,v3 18 17,AI 19 18]<|cT 19 .skip (.exit 0)) <|.block 1 (sR [rM 21 0,rM 22 1,rR 23 (rF mf [.t 21,.t 22]),rM 20 23,v0 24 0 20,v0 25 1 20,v0 26 2 20,rM 7 24,rM 8 25,rM 9 26] <|.region [rM 27 1,rM 28 8,rM 0 27,rM 1 28])))<|sR [rM 29 0,rR 30 (.append 1 8 ad [(.int .u64 0)] (.c .nilSl) (.t 29)),rM 4 30,v1 5] <|.ret,none⟩
def pk:au:=⟨2,27,[(4,some (some 2)),(5,none)],sR [lK 2 0,lK 3 1,mz 4,v1 5]<|sR [v7 11 2,v7 12 3,rR 13 (rF fE [.t 11,.t 12]),rM 10 13,v0 14 0 10,v0 15 1 10,v0 16 2 10,v0 17 3 10,mz 6,kb 6 14,rM 7 15,rM 8 16,rM 9 17] <|.seq (.block 0 (sR [rM 19 9,v9 20 19,rM 18 20]<|cT 18 (sR [Lm 21,rM 22 9,kb 4 21,rM 5 22] <|.ret) (sR [rM 24 7,rM 23 24]<|cT 23 (sR [Lm 25,kb 4 25,rR 5 (.mv (rI 6))] <|.ret) .skip)))<|sR [v7 26 6,kb 4 26,v1 5] <|.ret,none⟩
def mo:au:=⟨2,17,[],.seq (sR [rR 3 (.mv (rI 1))]<|il 0 (.seq (sR [rM 4 3,v2 5 1,yB 6 4 5]<|cT 6 .skip (.exit 0)) <|.seq (.block 1 (sR [rM 9 0,rM 10 3,rR 11 (.call (.t 9) [.t 10]),Hp 12 11]<|cT 12 .ret .skip)) <|.region [rM 7 3,tG 8 7,rM 3 8]))<|sR [v2 13 1,AI 14 13]<|cT 14 (.region [rM 15 0,rR 16 (.call (.t 15) [rI 0])]) .skip,none⟩
def qM:au:=⟨5,18,[(7,some (some 2))],sR [lK 6 1,mz 7] <|.seq (.draw [J3 8 2 2,J3 9 6 6,rQ 10 (rF dV [.t 8,.t 9]) [(8,some 0),(9,some 1)] 2,⟨some 11,.load (some 2) (.t 3),none,[(3,none)],0,[(0,[]),(1,[])]⟩,⟨some 12,.load none (.t 4),none,[(4,none)],0,[(0,[]),(1,[])]⟩,⟨some 13,.mv (.t 0),none,[(0,none)],0,[(0,[]),(1,[])]⟩,⟨some 14,.indexAddr 2 (.t 12) (.t 13),none,[(12,some 4),(13,some 5)],0,[(0,[]),(1,[])]⟩,⟨some 15,.load (some 2) (.t 14),none,[(14,some 6)],0,[(0,[]),(1,[])]⟩,⟨some 16,rF dV [.t 11,.t 15],none,[(11,some 3),(15,some 7)],2,[(1,[])]⟩,⟨some 17,rF jT [.t 10,.t 16],none,[(10,some 2),(16,some 8)],2,[(2,[])]⟩,⟨none,.store 2 (.t 7) (.t 17),none,[(7,none),(17,some 9)],2,[(3,[])]⟩] []) <|.ret,none⟩
def xc:au:=⟨2,27,[(4,none),(5,none)],sR [v5 4,v1 5] <|.seq (sR [rM 9 0,rM 10 1,Lk 11 9 10,rR 12 (rF fR [.t 11]),rM 6 12]<|sR [rM 13 6,v9 14 13]<|cT 14 (sR [rM 15 6,v5 4,rM 5 15] <|.ret) .skip)<|sR [rM 17 0,rM 18 1,rR 19 (rF gY [.t 17,.t 18,(.c (.fn (.func cu) [] []))]),rM 16 19,v0 20 0 16,v0 21 1 16,rM 7 20,rM 8 21]<|sR [rM 22 7,rM 23 8,Ke 24 23,ME 25 22 24,LP 26 25,rM 4 26,v1 5] <|.ret,none⟩
def wZ:au:=⟨2,26,[(4,none),(5,none)],sR [v5 4,v1 5] <|.seq (sR [rM 9 0,rM 10 1,Lk 11 9 10,rR 12 (rF fR [.t 11]),rM 6 12]<|sR [rM 13 6,v9 14 13]<|cT 14 (sR [rM 15 6,v5 4,rM 5 15] <|.ret) .skip)<|sR [rM 17 0,rM 18 1,rR 19 (rF gY [.t 17,.t 18,(.c (.fn (.func cL) [] []))]),rM 16 19,v0 20 0 16,v0 21 1 16,rM 7 20,rM 8 21] <|.seq (sR [rM 22 8,Kb 23 22]<|cT 23 (sR [v5 4,rR 5 (.mv (rI 10))] <|.ret) .skip)<|sR [rM 24 7,LP 25 24,rM 4 25,v1 5] <|.ret,none⟩
def jx:au:=⟨3,76,[(6,none)],sR [v5 6] <|.seq (sR [rM 15 1,v3 16 15,rM 17 2,v3 18 17,rR 19 (.min [.t 16,.t 18]),rM 20 0,rR 21 (.bin .leq .int (.t 19) (.t 20))]<|cT 21 (sR [rM 22 1,rM 23 2,rR 24 (rF jG [.t 22,.t 23]),rM 6 24] <|.ret) .skip)<|sR [rM 25 1,v3 26 25,rM 27 2,v3 28 27,rR 29 (.max [.t 26,.t 28]),tG 30 29,rR 31 (.bin .quo .int (.t 30) (rI 2)),rM 7 31]<|sR [rM 33 1,rM 34 7,rR 35 (rF jj [.t 33,.t 34]),rM 32 35,v0 36 0 32,v0 37 1 32,rM 8 36,rM 9 37]<|sR [rM 39 2,rM 40 7,rR 41 (rF jj [.t 39,.t 40]),rM 38 41,v0 42 0 38,v0 43 1 38,rM 10 42,rM 11 43]<|sR [rM 44 0,rM 45 8,rM 46 10,Ka 47 44 45 46,rM 48 0,rM 49 9,rM 50 11,Ka 51 48 49 50,rM 12 47,rM 13 51]<|sR [rM 52 0,rM 53 8,rM 54 9,Lk 55 53 54,rR 56 (rF jW [.t 55]),rM 57 10,rM 58 11,Lk 59 57 58,rR 60 (rF jW [.t 59]),Ka 61 52 56 60,rM 62 12,rM 63 13,Lk 64 62 63,rR 65 (rF mG [.t 61,.t 64]),rM 14 65]<|sR [rM 66 12,rM 67 14,rM 68 7,rR 69 (rF nO [.t 67,.t 68]),rM 70 13,rM 71 7,rR 72 (.bin .mul .int (rI 2) (.t 71)),rR 73 (rF nO [.t 70,.t 72]),rR 74 (.buildSlice ak 1 [.nilSl,.nilSl,.nilSl] 3 [((0,1),(.t 66)),((1,1),(.t 69)),((2,1),(.t 73))]),rR 75 (rF jW [.t 74]),rM 6 75] <|.ret,none⟩
def pA:au:=⟨3,27,[(6,none),(7,none)],sR [v5 6,v1 7] <|.seq (sR [rM 11 0,rM 12 1,Kg 13 11 12,v1 14]<|il 0 (sR [rR 15 (.bin .lss .int (.t 14) (rI 2))] <|.seq (cT 15 .skip (.exit 0)) <|.seq (.block 1 (sR [rR 16 (.indexAgg 2 1 none (.t 13) (.t 14)),rM 9 16]<|sR [rM 17 9,J6 18 17,rM 10 18]<|sR [rM 19 10,v9 20 19]<|cT 20 (sR [rM 21 10,v5 6,rM 7 21] <|.ret) .skip)) <|.region [tG 22 14,rM 14 22]))<|sR [rM 23 2,rM 24 0,rM 25 1,Lq 26 23 24 25,rM 6 26,v1 7] <|.ret,none⟩
def pB:au:=⟨1,18,[(2,none)],sR [v1 2] <|.seq (sR [rM 6 0,v3 7 6,v1 8]<|dF 0 1 8 7 9 17 (sR [fc 10 6 8,v2 11 10,rM 4 11]<|sR [rM 12 4,J6 13 12,rM 5 13]<|sR [rM 14 5,v9 15 14]<|cT 15 (sR [rM 16 5,rM 2 16] <|.ret) .skip))<|sR [v1 2] <|.ret,none⟩
def xg:au:=⟨2,123,[(4,none),(5,none),(6,none)],sR [v5 4,v5 5,v1 6] <|.seq (sR [rM 19 0,rM 20 1,rR 21 (rF iZ [.t 19,.t 20]),rM 6 21]<|sR [rM 22 6,v9 23 22]<|cT 23 .ret .skip) <|.seq (sR [rM 24 1,v3 25 24,rR 26 (.bin .eql .int (.t 25) (rI 1))]<|cT 26 (sR [rM 28 0,rM 29 1,LU 30 29,v2 31 30,rR 32 (rF mH [.t 28,.t 31]),rM 27 32,v0 33 0 27,v0 34 1 27,v0 35 2 27,rM 7 33,rM 8 34,rM 9 35]<|sR [rM 36 7,rM 37 8,rR 38 (rF l9 [.t 37]),rM 39 9,rM 4 36,rM 5 38,rM 6 39] <|.ret) .skip) <|.seq (sR [rM 40 0,v3 41 40,rM 42 1,v3 43 42,yB 44 41 43]<|cT 44 (sR [rM 45 0,rR 46 (rF aD [.t 45]),v5 4,rM 5 46,v1 6] <|.ret) .skip)<|sR [rM 47 1,rM 48 1,v3 49 48,Ft 50 49,fc 51 47 50,v2 52 51,rR 53 (rF bG [.t 52]),rM 10 53]<|sR [rM 55 0,rM 56 10,rR 57 (rF nN [.t 55,.t 56]),rM 54 57,v0 58 0 54,v0 59 1 54,rM 11 58,rM 12 59]<|sR [rM 61 1,rM 62 10,rR 63 (rF nN [.t 61,.t 62]),rM 60 63,v0 64 0 60,v0 65 1 60,rM 13 64,rM 14 65]<|sR [rM 66 11,rM 67 0,v3 68 67,tG 69 68,rM 70 11,v3 71 70,Lj 72 69 71,rR 73 (.appendZ 1 8 ad [(.int .u64 0)] (.t 66) (.t 72)),rM 74 13,Kg 75 73 74,rR 76 (.box dS (.t 75)),rM 15 76]<|sR [rM 77 0,v3 78 77,rM 79 1,v3 80 79,Lj 81 78 80,tG 82 81,Ln 83 82 82,rM 4 83] <|.seq (sR [rM 84 4,v3 85 84,Ft 86 85,rM 16 86]<|il 0 (.seq (sR [rM 87 16,Jm 88 87]<|cT 88 .skip (.exit 0)) <|.seq (.block 1 (sR [rM 91 15,rM 92 16,rR 93 (rF dD [.t 91,.t 92]),rM 17 93] <|.seq (sR [rM 94 15,rM 95 17,rM 96 16,rR 97 (rF dO [.t 94,.t 95,.t 96]),rM 18 97]<|il 2 (.seq (sR [rM 98 18]<|cT 98 .skip (.exit 2)) <|.seq (.block 3 (.region [rM 103 17,Lf 104 103,rM 17 104])) <|.region [rM 99 15,rM 100 16,rR 101 (rF dP [.t 99,.t 100]),Hp 102 101,rM 18 102])) <|.region [rM 105 4,rM 106 16,rM 107 17,fc 108 105 106,AH 108 107])) <|.region [rM 89 16,Ft 90 89,rM 16 90]))<|sR [rM 110 15,nC 111 110,v6 112 0 111,v2 113 112,rR 114 (rF gq [.t 113]),rM 115 10,rR 116 (rF mF [.t 114,.t 115]),rM 109 116,v0 117 0 109,v0 118 1 109,rM 5 117,rM 6 118]<|sR [rM 119 4,rR 120 (rF gq [.t 119]),rM 121 5,rM 122 6,rM 4 120,rM 5 121,rM 6 122] <|.ret,none⟩
def mm:au:=⟨2,38,[(4,some (some 2)),(5,none),(6,none),(7,none)],sR [lK 2 0,lK 3 1,mz 4,v8 5,v8 6,v1 7] <|.seq (sR [v7 10 2,v7 11 3,MG 12 10 11,MF 13 12,rM 7 13]<|sR [rM 14 7,v9 15 14]<|cT 15 .ret .skip)<|sR [v6 17 1 2,v2 18 17,v6 19 1 3,v2 20 19,rR 21 (rF mf [.t 18,.t 20]),rM 16 21,v0 22 0 16,v0 23 1 16,v0 24 2 16,rM 8 22,rM 9 23,rM 7 24]<|sR [v6 25 0 2,v2 26 25,v6 27 0 3,v2 28 27,rR 29 (.bin .neq .bool (.t 26) (.t 28)),rM 6 29]<|sR [rM 30 6,rM 31 8,Lg 32 30 31,rM 33 9,v3 34 33,AI 35 34,rM 36 6,rM 37 7,kb 4 32,rM 5 35,rM 6 36,rM 7 37] <|.ret,none⟩
def pz:au:=⟨1,18,[(2,none)],sR [v1 2] <|.seq (sR [rM 6 0,v3 7 6,v1 8]<|dF 0 1 8 7 9 17 (sR [fc 10 6 8,v2 11 10,rM 4 11]<|sR [rM 12 4,J6 13 12,rM 5 13]<|sR [rM 14 5,v9 15 14]<|cT 15 (sR [rM 16 5,rM 2 16] <|.ret) .skip))<|sR [v1 2] <|.ret,none⟩
def qR:au:=⟨3,28,[(6,some none),(7,some none)],sR [rR 5 (.box al (.t 2)),rR 6 (.alloc ak [.nilSl]),rR 7 (.alloc ad [(.int .u64 0)])] <|.seq (sR [rM 11 0,rM 12 1,rR 13 (rF kU [.t 11,.t 12])] <|.block 0 (.rangeFunc (.t 13) [14,15] (sR [rM 8 14] <|.region [rM 9 15]) (.block 1 (sR [yI 10]<|sR [v2 17 5,rM 18 8,rM 19 9,v2 20 7,rR 21 (.call (.t 17) [.t 18,.t 19,.t 20]),rM 16 21,v0 22 0 16,v0 23 1 16,rM 10 22,AH 7 23] <|.region [v2 24 6,rM 25 10,Ke 26 25,ME 27 24 26,AH 6 27])))) <|.ret,none⟩
def lh:au:=⟨3,3,[],.skip,(some .add64)⟩
def kZ:au:=⟨3,3,[],.skip,(some .sub64)⟩
def qS:au:=⟨2,80,[(4,none)],sR [v5 4]<|sR [rM 14 0,v3 15 14,rM 16 1,v3 17 16,tH 18 15 17,Ln 19 18 18,rM 5 19] <|.seq (sR [rM 20 0,v3 21 20,v1 22]<|dF 0 1 22 21 23 77 (sR [rM 24 22,fc 25 20 22,v2 26 25,rM 6 24,rM 7 26]<|sR [yI 8] <|.seq (sR [rM 27 1,v3 28 27,v1 29]<|dF 2 3 29 28 30 69 (sR [rM 31 29,fc 32 27 29,v2 33 32,rM 9 31,rM 10 33]<|sR [rM 35 7,rM 36 10,LK 37 35 36,rM 34 37,v0 38 0 34,v0 39 1 34,rM 11 38,rM 12 39]<|sR [rM 41 12,rM 42 5,rM 43 6,rM 44 9,tH 45 43 44,fc 46 42 45,v2 47 46,LJ 48 41 47,rM 40 48,v0 49 0 40,v0 50 1 40,rM 12 49,rM 13 50]<|sR [rM 51 11,rM 52 13,tH 53 51 52,rM 11 53]<|sR [rM 55 12,rM 56 8,LJ 57 55 56,rM 54 57,v0 58 0 54,v0 59 1 54,rM 12 58,rM 13 59] <|.region [rM 60 5,rM 61 6,rM 62 9,tH 63 61 62,rM 64 12,rM 65 11,rM 66 13,tH 67 65 66,fc 68 60 63,AH 68 64,rM 8 67])) <|.region [rM 70 5,rM 71 6,rM 72 1,v3 73 72,tH 74 71 73,rM 75 8,fc 76 70 74,AH 76 75]))<|sR [rM 78 5,rR 79 (rF kv [.t 78]),rM 4 79] <|.ret,none⟩
def sO:au:=⟨2,18,[(4,none),(5,none)],sR [v5 4,v5 5]<|sR [rM 6 1,rM 7 0,v3 8 7,rR 9 (.min [.t 6,.t 8]),rM 1 9] <|.seq (.draw [v4 10 0 0,v4 11 1 1,v4 12 1 1,rQ 13 (.slice 1 (.t 10) none (some (.t 11)) (some (.t 12))) [(10,some 0),(11,some 1),(12,some 2)] 0,rQ 14 (rF kv [.t 13]) [(13,some 3)] 2,⟨some 15,.mv (.t 0),none,[(0,none)],0,[(0,[]),(1,[])]⟩,⟨some 16,.mv (.t 1),none,[(1,none)],0,[(0,[]),(1,[])]⟩,⟨some 17,.slice 1 (.t 15) (some (.t 16)) none none,none,[(15,some 5),(16,some 6)],0,[(0,[]),(1,[])]⟩,⟨some 4,.mv (.t 14),none,[(14,some 4)],0,[(1,[])]⟩,⟨some 5,.mv (.t 17),none,[(17,some 7)],0,[(1,[])]⟩] []) <|.ret,none⟩
def xd:au:=⟨1,18,[(2,none)],sR [v5 2] <|.seq (sR [rM 5 0,v3 6 5,v1 7]<|dF 0 1 7 6 8 17 (sR [fc 9 5 7,v2 10 9,rM 4 10] <|.region [rM 12 2,rM 13 4,rR 14 (rF mc [.t 12,.t 13]),rM 11 14,v0 15 0 11,v0 16 1 11,rM 2 15])) <|.ret,none⟩
def vw:au:=⟨2,21,[(4,none)],sR [v5 4] <|.seq (sR [rM 7 1,v3 8 7,v1 9]<|dF 0 1 9 8 10 19 (sR [fc 11 7 9,v2 12 11,rM 6 12] <|.region [rM 14 0,rM 15 6,rR 16 (rF jV [.t 14,.t 15]),rM 13 16,v0 17 0 13,v0 18 1 13,rM 0 17]))<|sR [rM 20 0,rM 4 20] <|.ret,none⟩
def Aj:au:=⟨2,12,[(4,none)],sR [v5 4] <|.seq (sR [rM 5 0,v3 6 5,Da 7 6]<|cT 7 (sR [v5 4] <|.ret) .skip)<|sR [rM 8 1,Ln 9 8 8,rM 10 0,ME 11 9 10,rM 4 11] <|.ret,none⟩
def pC:au:=⟨2,18,[(4,none)],sR [v1 4] <|.seq (.block 0 (sR [rM 6 0,J6 7 6,v9 8 7,rM 9 8,kK 10 1 9,rG 11 (rF gG [.t 10]) 9 false,J5 12 11 9,mw 13 9 12,rM 5 13]<|cT 5 (sR [Ie 4] <|.ret) (sR [rM 15 1,v3 16 15,Da 17 16,rM 14 17]<|cT 14 (sR [rR 4 (.mv (rI 30))] <|.ret) .skip)))<|sR [v1 4] <|.ret,none⟩
def vA:au:=⟨2,36,[(4,some none),(5,some none),(6,none)],sR [rR 3 (.box ad (.t 1)),rR 4 (.alloc ak [.nilSl]),rR 5 (.alloc ad [(.int .u64 0)]),v1 6] <|.seq (.block 0 (sR [rM 10 0,J6 11 10,v9 12 11,rM 9 12]<|cT 9 (sR [rN (.store 1 (.t 4) (.c .nilSl)),rN (.store 1 (.t 5) (.c (.int .u64 0))),Ie 6] <|.ret) (sR [v2 14 3,LI 15 14,rM 13 15]<|cT 13 (sR [rN (.store 1 (.t 4) (.c .nilSl)),rN (.store 1 (.t 5) (.c (.int .u64 0))),rR 6 (.mv (rI 30))] <|.ret) .skip)))<|sR [rM 16 0,v3 17 16,Ln 18 17 17,AH 4 18] <|.seq (sR [rM 19 0,rR 20 (rF bw [.t 19])] <|.block 1 (.rangeFunc (.t 20) [21,22] (sR [rM 7 21] <|.region [rM 8 22]) (.block 2 (.draw [⟨some 24,.load none (.t 4),none,[(4,none)],0,[(0,[]),(1,[])]⟩,⟨some 25,.mv (.t 7),none,[(7,none)],0,[(0,[]),(1,[])]⟩,Lh 26 5 5,v4 27 8 8,Lh 28 3 3,rQ 29 (rF dM [.t 26,.t 27,.t 28]) [(26,some 2),(27,some 3),(28,some 4)] 2,⟨some 23,.mv (.t 29),none,[(29,some 5)],0,[(1,[])]⟩,⟨some 30,.extract 0 (.t 23),none,[(23,some 6)],0,[(1,[])]⟩,⟨some 31,.extract 1 (.t 23),none,[(23,some 6)],0,[(1,[]),(2,[])]⟩,⟨some 32,.indexAddr 1 (.t 24) (.t 25),none,[(24,some 0),(25,some 1)],0,[(1,[])]⟩,⟨none,.store 1 (.t 32) (.t 30),none,[(32,some 9),(30,some 7)],2,[(1,[])]⟩,⟨none,.store 1 (.t 5) (.t 31),none,[(5,none),(31,some 8)],2,[(2,[])]⟩] [])))) <|.seq (.draw [Lh 33 4 4,rQ 34 (rF gq [.t 33]) [(33,some 0)] 2,⟨some 35,.load none (.t 5),none,[(5,none)],0,[(0,[]),(1,[]),(2,[])]⟩,⟨none,.store 1 (.t 4) (.t 34),none,[(4,none),(34,some 1)],2,[(1,[])]⟩,⟨none,.store 1 (.t 5) (.t 35),none,[(5,none),(35,some 2)],2,[(2,[])]⟩,⟨some 6,.mv (rI 0),none,[],0,[(3,[])]⟩] []) <|.ret,none⟩
def fu:au:=⟨1,6,[(2,none)],sR [v1 2]<|sR [rM 3 0,rR 4 (rF eS [.t 3]),rR 5 (.bin .sub .int (rI 64) (.t 4)),rM 2 5] <|.ret,none⟩
def Ah:au:=⟨2,61,[(4,none),(5,none)],sR [v5 4,v1 5] <|.seq (sR [rM 12 0,rM 13 1,rR 14 (rF ji [.t 12,.t 13]),rM 6 14]<|sR [rM 15 6,v9 16 15]<|cT 16 (sR [rM 17 6,v5 4,rM 5 17] <|.ret) .skip)<|sR [rM 18 1,LM 19 18,rM 20 0,v3 21 20,tH 22 19 21,tG 23 22,Ln 24 23 23,rM 7 24] <|.seq (sR [rM 25 0,v3 26 25,v1 27]<|dF 0 1 27 26 28 58 (sR [rM 29 27,fc 30 25 27,v2 31 30,rM 8 29,rM 9 31]<|sR [rM 33 9,rM 34 1,rR 35 (.bin .rem .int (.t 34) (rI 64)),rR 36 (.bin .shl .int (.c (.int .u64 1)) (.t 35)),LK 37 33 36,rM 32 37,v0 38 0 32,v0 39 1 32,rM 10 38,rM 11 39]<|sR [rM 40 7,rM 41 1,LM 42 41,rM 43 8,tH 44 42 43,fc 45 40 44,v2 46 45,rM 47 11,rR 48 (.bin .or .int (.t 46) (.t 47)),fc 49 40 44,AH 49 48] <|.region [rM 50 7,rM 51 1,LM 52 51,rM 53 8,tH 54 52 53,tG 55 54,rM 56 10,fc 57 50 55,AH 57 56]))<|sR [rM 59 7,LP 60 59,rM 4 60,v1 5] <|.ret,none⟩
def iw:au:=⟨2,107,[(4,none)],sR [yI 4] <|.scopeL (sR [rM 16 0,nC 17 16,v6 18 1 17,v2 19 18,v3 20 19,rM 5 20] <|.seq (.draw [v4 21 0 0,Fs 22 21 21 0,Fq 23 0 22 22 1,lv 24 23 23 2,v4 25 1 1,v4 26 5 5,LH 27 25 26 25 4 26 5,q8 28 24 27 24 3 27 6,lv 29 28 28 7,v4 30 0 0,Fs 31 30 30 9,Fq 32 0 31 31 10,lv 33 32 32 11,v4 34 1 1,v4 35 5 5,LH 36 34 35 34 13 35 14,rQ 37 (.bin .sub .int (.t 36) (rI 1)) [(36,some 15)] 0,q8 38 33 37 33 12 37 16,lv 39 38 38 17,Ho 6 29 29 8,Ho 7 39 39 18] [])<|sR [rM 40 0,nC 41 40,v6 42 1 41,v2 43 42,rM 44 5,Ft 45 44,fc 46 43 45,v2 47 46,rM 8 47] <|.seq (sR [rM 48 6,rM 49 8,rR 50 (.bin .geq .int (.t 48) (.t 49))]<|cT 50 (sR [rC 4 (.int .u64 18446744073709551615)] <|.ret) .skip)<|sR [rM 52 6,rM 53 7,rM 54 8,rR 55 (rF dM [.t 52,.t 53,.t 54]),rM 51 55,v0 56 0 51,v0 57 1 51,rM 9 56,rM 10 57] <|.seq (.draw [v4 58 0 0,Fs 59 58 58 0,Fq 60 1 59 59 1,lv 61 60 60 2,v4 62 5 5,rQ 63 (.bin .sub .int (.t 62) (rI 2)) [(62,some 4)] 0,q8 64 61 63 61 3 63 5,lv 65 64 64 6,v4 66 0 0,Fs 67 66 66 8,Fq 68 0 67 67 9,lv 69 68 68 10,v4 70 1 1,v4 71 5 5,LH 72 70 71 70 12 71 13,rQ 73 (.bin .sub .int (.t 72) (rI 2)) [(72,some 14)] 0,q8 74 69 73 69 11 73 15,lv 75 74 74 16,Ho 11 65 65 7,Ho 12 75 75 17] []) <|.seq (.scopeL .skip 0 .skip)<|il 0 (.block 1 (sR [rM 77 9,rM 78 11,LK 79 77 78,rM 76 79,v0 80 0 76,v0 81 1 76,rM 13 80,rM 14 81] <|.seq (sR [rM 82 13,rM 83 10,yB 84 82 83,rM 85 84,kK 86 13 85,kK 87 10 85,rG 88 (.bin .eql .int (.t 86) (.t 87)) 85 false,kK 89 88 85,kJ 90 14 89,kJ 91 12 89,rG 92 (.bin .leq .int (.t 90) (.t 91)) 89 true,Kd 93 89 92 85,mw 94 85 93]<|cT 94 (sR [rM 95 9,rM 4 95] <|.ret) .skip)<|sR [rM 96 9,Lf 97 96,rM 9 97]<|sR [yI 15] <|.seq (sR [rM 99 10,rM 100 8,LJ 101 99 100,rM 98 101,v0 102 0 98,v0 103 1 98,rM 10 102,rM 15 103]<|sR [rM 104 15,LI 105 104]<|cT 105 (.exit 1) .skip)<|sR [rM 106 9,rM 4 106] <|.ret))) 0 (.seq .skip<|il 0 (.block 1 (sR [rM 77 9,rM 78 11,LK 79 77 78,rM 76 79,v0 80 0 76,v0 81 1 76,rM 13 80,rM 14 81] <|.seq (sR [rM 82 13,rM 83 10,yB 84 82 83,rM 85 84,kK 86 13 85,kK 87 10 85,rG 88 (.bin .eql .int (.t 86) (.t 87)) 85 false,kK 89 88 85,kJ 90 14 89,kJ 91 12 89,rG 92 (.bin .leq .int (.t 90) (.t 91)) 89 true,Kd 93 89 92 85,mw 94 85 93]<|cT 94 (sR [rM 95 9,rM 4 95] <|.ret) .skip)<|sR [rM 96 9,Lf 97 96,rM 9 97]<|sR [yI 15] <|.seq (sR [rM 99 10,rM 100 8,LJ 101 99 100,rM 98 101,v0 102 0 98,v0 103 1 98,rM 10 102,rM 15 103]<|sR [rM 104 15,LI 105 104]<|cT 105 (.exit 1) .skip)<|sR [rM 106 9,rM 4 106] <|.ret))),none⟩
def jq:au:=⟨3,92,[(6,none)],sR [v8 6]<|sR [yI 7,yI 8] <|.seq (sR [rM 15 0,nC 16 15,v6 17 1 16,v2 18 17,v3 19 18,v1 20]<|dF 0 1 20 19 21 63 (sR [rM 22 20,fc 23 18 20,v2 24 23,rM 9 22,rM 10 24]<|sR [rM 26 1,rM 27 10,LK 28 26 27,rM 25 28,v0 29 0 25,v0 30 1 25,rM 11 29,rM 12 30]<|sR [yI 13]<|sR [rM 32 12,rM 33 7,LJ 34 32 33,rM 31 34,v0 35 0 31,v0 36 1 31,rM 12 35,rM 13 36]<|sR [rM 37 11,rM 38 13,tH 39 37 38,rM 7 39] <|.draw [⟨some 41,.mv (.t 0),none,[(0,none)],0,[(0,[]),(1,[])]⟩,⟨some 42,.nilCheck (.t 41),none,[(41,some 0)],0,[(0,[]),(1,[])]⟩,⟨some 43,.fieldAddr 0 (.t 42),none,[(42,some 1)],0,[(0,[]),(1,[])]⟩,⟨some 44,.load none (.t 43),none,[(43,some 2)],0,[(0,[]),(1,[])]⟩,⟨some 45,.mv (.t 2),none,[(2,none)],0,[(0,[]),(1,[])]⟩,⟨some 46,.mv (.t 9),none,[(9,none)],0,[(0,[]),(1,[])]⟩,⟨some 47,.bin .add .int (.t 45) (.t 46),none,[(45,some 4),(46,some 5)],0,[(0,[]),(1,[])]⟩,v4 48 0 0,Fs 49 48 48 7,Fq 50 0 49 49 8,lv 51 50 50 9,v4 52 2 2,v4 53 9 9,LH 54 52 53 52 11 53 12,q8 55 51 54 51 10 54 13,lv 56 55 55 14,v4 57 12 12,v4 58 8 8,rQ 59 (rF cL [.t 56,.t 57,.t 58]) [(56,some 15),(57,some 16),(58,some 17)] 2,⟨some 40,.mv (.t 59),none,[(59,some 18)],0,[(1,[])]⟩,⟨some 60,.extract 0 (.t 40),none,[(40,some 19)],0,[(1,[])]⟩,⟨some 61,.extract 1 (.t 40),none,[(40,some 19)],0,[(1,[]),(2,[])]⟩,⟨some 62,.indexAddr 1 (.t 44) (.t 47),none,[(44,some 3),(47,some 6)],0,[(1,[])]⟩,⟨none,.store 1 (.t 62) (.t 60),none,[(62,some 22),(60,some 20)],2,[(1,[])]⟩,⟨some 8,.mv (.t 61),none,[(61,some 21)],0,[(2,[])]⟩] []))<|sR [rM 64 2,rM 65 0,nC 66 65,v6 67 1 66,v2 68 67,v3 69 68,tH 70 64 69,rM 14 70] <|.seq (.draw [⟨some 72,.mv (.t 0),none,[(0,none)],0,[(0,[]),(1,[])]⟩,⟨some 73,.nilCheck (.t 72),none,[(72,some 0)],0,[(0,[]),(1,[])]⟩,⟨some 74,.fieldAddr 0 (.t 73),none,[(73,some 1)],0,[(0,[]),(1,[])]⟩,⟨some 75,.load none (.t 74),none,[(74,some 2)],0,[(0,[]),(1,[])]⟩,⟨some 76,.mv (.t 14),none,[(14,none)],0,[(0,[]),(1,[])]⟩,v4 77 0 0,Fs 78 77 77 5,Fq 79 0 78 78 6,lv 80 79 79 7,v4 81 14 14,q8 82 80 81 80 8 81 9,lv 83 82 82 10,v4 84 7 7,v4 85 8 8,rQ 86 (rF cL [.t 83,.t 84,.t 85]) [(83,some 11),(84,some 12),(85,some 13)] 2,⟨some 71,.mv (.t 86),none,[(86,some 14)],0,[(1,[])]⟩,⟨some 87,.extract 0 (.t 71),none,[(71,some 15)],0,[(1,[])]⟩,⟨some 88,.extract 1 (.t 71),none,[(71,some 15)],0,[(1,[]),(2,[])]⟩,⟨some 89,.indexAddr 1 (.t 75) (.t 76),none,[(75,some 3),(76,some 4)],0,[(1,[])]⟩,⟨none,.store 1 (.t 89) (.t 87),none,[(89,some 18),(87,some 16)],2,[(1,[])]⟩,⟨some 8,.mv (.t 88),none,[(88,some 17)],0,[(2,[])]⟩] [])<|sR [rM 90 8,Kb 91 90,rM 6 91] <|.ret,none⟩
def jr:au:=⟨2,70,[(4,none)],sR [v8 4]<|sR [yI 5] <|.seq (sR [rM 9 0,nC 10 9,v6 11 1 10,v2 12 11,v3 13 12,v1 14]<|dF 0 1 14 13 15 42 (sR [rM 16 14,fc 17 12 14,v2 18 17,rM 6 16,rM 7 18] <|.draw [⟨some 20,.mv (.t 0),none,[(0,none)],0,[(0,[]),(1,[])]⟩,⟨some 21,.nilCheck (.t 20),none,[(20,some 0)],0,[(0,[]),(1,[])]⟩,⟨some 22,.fieldAddr 0 (.t 21),none,[(21,some 1)],0,[(0,[]),(1,[])]⟩,⟨some 23,.load none (.t 22),none,[(22,some 2)],0,[(0,[]),(1,[])]⟩,⟨some 24,.mv (.t 1),none,[(1,none)],0,[(0,[]),(1,[])]⟩,⟨some 25,.mv (.t 6),none,[(6,none)],0,[(0,[]),(1,[])]⟩,⟨some 26,.bin .add .int (.t 24) (.t 25),none,[(24,some 4),(25,some 5)],0,[(0,[]),(1,[])]⟩,v4 27 0 0,Fs 28 27 27 7,Fq 29 0 28 28 8,lv 30 29 29 9,v4 31 1 1,v4 32 6 6,LH 33 31 32 31 11 32 12,q8 34 30 33 30 10 33 13,lv 35 34 34 14,v4 36 7 7,v4 37 5 5,rQ 38 (rF cu [.t 35,.t 36,.t 37]) [(35,some 15),(36,some 16),(37,some 17)] 2,⟨some 19,.mv (.t 38),none,[(38,some 18)],0,[(1,[])]⟩,⟨some 39,.extract 0 (.t 19),none,[(19,some 19)],0,[(1,[])]⟩,⟨some 40,.extract 1 (.t 19),none,[(19,some 19)],0,[(1,[]),(2,[])]⟩,⟨some 41,.indexAddr 1 (.t 23) (.t 26),none,[(23,some 3),(26,some 6)],0,[(1,[])]⟩,⟨none,.store 1 (.t 41) (.t 39),none,[(41,some 22),(39,some 20)],2,[(1,[])]⟩,⟨some 5,.mv (.t 40),none,[(40,some 21)],0,[(2,[])]⟩] []))<|sR [rM 43 1,rM 44 0,nC 45 44,v6 46 1 45,v2 47 46,v3 48 47,tH 49 43 48,rM 8 49] <|.seq (.draw [⟨some 51,.mv (.t 0),none,[(0,none)],0,[(0,[]),(1,[])]⟩,⟨some 52,.nilCheck (.t 51),none,[(51,some 0)],0,[(0,[]),(1,[])]⟩,⟨some 53,.fieldAddr 0 (.t 52),none,[(52,some 1)],0,[(0,[]),(1,[])]⟩,⟨some 54,.load none (.t 53),none,[(53,some 2)],0,[(0,[]),(1,[])]⟩,⟨some 55,.mv (.t 8),none,[(8,none)],0,[(0,[]),(1,[])]⟩,v4 56 0 0,Fs 57 56 56 5,Fq 58 0 57 57 6,lv 59 58 58 7,v4 60 8 8,q8 61 59 60 59 8 60 9,lv 62 61 61 10,v4 63 5 5,rQ 64 (rF cu [.t 62,(.c (.int .u64 0)),.t 63]) [(62,some 11),(63,some 12)] 2,⟨some 50,.mv (.t 64),none,[(64,some 13)],0,[(1,[])]⟩,⟨some 65,.extract 0 (.t 50),none,[(50,some 14)],0,[(1,[])]⟩,⟨some 66,.extract 1 (.t 50),none,[(50,some 14)],0,[(1,[]),(2,[])]⟩,⟨some 67,.indexAddr 1 (.t 54) (.t 55),none,[(54,some 3),(55,some 4)],0,[(1,[])]⟩,⟨none,.store 1 (.t 67) (.t 65),none,[(67,some 17),(65,some 15)],2,[(1,[])]⟩,⟨some 5,.mv (.t 66),none,[(66,some 16)],0,[(2,[])]⟩] [])<|sR [rM 68 5,Kb 69 68,rM 4 69] <|.ret,none⟩
def vz:au:=⟨1,22,[(2,none)],sR [v5 2] <|.seq (il 0 (.seq (sR [rM 3 0,v3 4 3,AI 5 4,rM 6 5,kJ 7 0 6,kJ 8 0 6,Fu 9 8 6,MJ 10 9 6,LN 11 7 10 6,C7 12 11 6,MI 13 12 6,q9 14 6 13]<|cT 14 .skip (.exit 0)) <|.block 1 (.region [rM 15 0,rM 16 0,v3 17 16,Ft 18 17,MV 19 15 18,rM 0 19])))<|sR [rM 20 0,rR 21 (rF aW [.t 20]),rM 2 21] <|.ret,none⟩
def vp:au:=⟨2,59,[(4,none),(5,none)],sR [v5 4,v1 5] <|.seq (sR [rM 9 0,rM 10 1,rR 11 (rF ji [.t 9,.t 10]),rM 6 11]<|sR [rM 12 6,v9 13 12]<|cT 13 (sR [rM 14 6,v5 4,rM 5 14] <|.ret) .skip)<|sR [rM 15 0,rM 16 1,LM 17 16,rM 18 0,v3 19 18,rR 20 (.min [.t 17,.t 19]),rR 21 (.slice 1 (.t 15) (some (.t 20)) none none),rR 22 (rF aD [.t 21]),rM 7 22] <|.seq (sR [rM 23 7,v3 24 23,v1 25]<|dF 0 1 25 24 26 56 (sR [rM 27 25,rM 8 27]<|sR [rM 28 7,rM 29 8,fc 30 28 29,v2 31 30,rM 32 1,rR 33 (.bin .rem .int (.t 32) (rI 64)),rR 34 (.bin .shr .int (.t 31) (.t 33)),fc 35 28 29,AH 35 34]<|sR [rM 36 8,tG 37 36,rM 38 7,v3 39 38,yB 40 37 39]<|cT 40 (.draw [v4 41 7 7,v4 42 8 8,q8 43 41 42 41 0 42 1,lv 44 43 43 2,v4 45 7 7,v4 46 8 8,rQ 47 (.bin .add .int (.t 46) (rI 1)) [(46,some 5)] 0,q8 48 45 47 45 4 47 6,lv 49 48 48 7,v4 50 1 1,rQ 51 (.bin .rem .int (.t 50) (rI 64)) [(50,some 9)] 0,rQ 52 (.bin .sub .int (rI 64) (.t 51)) [(51,some 10)] 0,rQ 53 (.bin .shl .int (.t 49) (.t 52)) [(49,some 8),(52,some 11)] 0,rQ 54 (.bin .or .int (.t 44) (.t 53)) [(44,some 3),(53,some 12)] 0,q8 55 41 42 41 0 42 1,⟨none,.store 1 (.t 55) (.t 54),none,[(55,some 14),(54,some 13)],2,[(0,[])]⟩] []) .skip))<|sR [rM 57 7,LP 58 57,rM 4 58,v1 5] <|.ret,none⟩
def sL:au:=⟨2,6,[(4,none)],sR [rR 2 (.box ak (.t 0)),rR 3 (.box ak (.t 1)),rC 4 .nilFn]<|sR [rR 5 (.mkfn (.func ee) [] [.t 2,.t 3]),rM 4 5] <|.ret,none⟩
def lc:au:=⟨2,51,[(4,none),(5,none)],sR [yI 4,yI 5]<|sR [rM 14 0,LG 15 14,rM 6 15]<|sR [rM 16 0,Jo 17 16,rM 7 17]<|sR [rM 18 1,LG 19 18,rM 8 19]<|sR [rM 20 1,Jo 21 20,rM 9 21]<|sR [rM 22 6,rM 23 8,Id 24 22 23,rM 10 24]<|sR [rM 25 7,rM 26 8,Id 27 25 26,rM 28 10,Jo 29 28,tH 30 27 29,rM 11 30]<|sR [rM 31 11,LG 32 31,rM 12 32]<|sR [rM 33 11,Jo 34 33,rM 13 34]<|sR [rM 35 12,rM 36 6,rM 37 9,Id 38 36 37,tH 39 35 38,rM 12 39]<|sR [rM 40 7,rM 41 9,Id 42 40 41,rM 43 13,tH 44 42 43,rM 45 12,Jo 46 45,tH 47 44 46,rM 4 47]<|sR [rM 48 0,rM 49 1,Id 50 48 49,rM 5 50] <|.ret,none⟩
def vu:au:=⟨1,22,[(2,none)],sR [v5 2]<|sR [rM 4 0,v3 5 4,rM 3 5] <|.seq (il 0 (.seq (sR [rM 6 3,AI 7 6,rM 8 7,kJ 9 0 8,kJ 10 3 8,MJ 11 10 8,LN 12 9 11 8,C7 13 12 8,MI 14 13 8,q9 15 8 14]<|cT 15 .skip (.exit 0)) <|.block 1 (.region [rM 16 3,Ft 17 16,rM 3 17])))<|sR [rM 18 0,rM 19 3,rM 20 3,rR 21 (.slice 1 (.t 18) none (some (.t 19)) (some (.t 20))),rM 2 21] <|.ret,none⟩
def dQ:au:=⟨1,4,[(2,none)],sR [rR 1 (.box ak (.t 0)),rC 2 .nilFn]<|sR [rR 3 (.mkfn (.func aL) [] [.t 1]),rM 2 3] <|.ret,none⟩
def lg:au:=⟨3,135,[(6,none),(7,none)],sR [yI 6,yI 7] <|.seq (sR [rM 19 2,LI 20 19]<|cT 20 (.region [rR 21 .bad,rN (.panic (.t 21))]) .skip) <|.seq (sR [rM 22 2,rM 23 0,rR 24 (.bin .leq .int (.t 22) (.t 23))]<|cT 24 (.region [rR 25 .bad,rN (.panic (.t 25))]) .skip) <|.seq (sR [rM 26 0,LI 27 26]<|cT 27 (.seq (.draw [v4 28 1 1,v4 29 2 2,rQ 30 (.bin .quo .int (.t 28) (.t 29)) [(28,some 0),(29,some 1)] 0,v4 31 1 1,v4 32 2 2,LW 33 31 32 31 3 32 4,Ho 6 30 30 2,Ho 7 33 33 5] []) <|.ret) .skip)<|sR [rM 34 2,rR 35 (rF bG [.t 34]),rR 36 (.conv .u64 (.t 35)),rM 8 36]<|sR [rM 37 2,rM 38 8,rR 39 (.bin .shl .int (.t 37) (.t 38)),rM 2 39]<|sR [rM 40 2,Jo 41 40,rM 9 41]<|sR [rM 42 2,LG 43 42,rM 10 43]<|sR [rM 44 0,rM 45 8,rR 46 (.bin .shl .int (.t 44) (.t 45)),rM 47 1,rM 48 8,rR 49 (.bin .sub .int (.c (.int .u64 64)) (.t 48)),rR 50 (.bin .shr .int (.t 47) (.t 49)),rR 51 (.bin .or .int (.t 46) (.t 50)),rM 11 51]<|sR [rM 52 1,rM 53 8,rR 54 (.bin .shl .int (.t 52) (.t 53)),rM 12 54]<|sR [rM 55 12,Jo 56 55,rM 13 56]<|sR [rM 57 12,LG 58 57,rM 14 58]<|sR [rM 59 11,rM 60 9,rR 61 (.bin .quo .int (.t 59) (.t 60)),rM 15 61]<|sR [rM 62 11,rM 63 15,rM 64 9,Id 65 63 64,Lj 66 62 65,rM 16 66] <|.seq (il 0 (.seq (sR [rM 67 15,LF 68 67,rM 69 68,kK 70 15 69,kK 71 10 69,rG 72 (.bin .mul .int (.t 70) (.t 71)) 69 false,kK 73 16 69,rG 74 (.bin .mul .int (.c (.int .u64 4294967296)) (.t 73)) 69 false,kK 75 13 69,rG 76 (.bin .add .int (.t 74) (.t 75)) 69 false,rG 77 (.bin .gtr .int (.t 72) (.t 76)) 69 false,mw 78 69 77]<|cT 78 .skip (.exit 0)) <|.block 1 (sR [rM 79 15,Lf 80 79,rM 15 80]<|sR [rM 81 16,rM 82 9,tH 83 81 82,rM 16 83]<|sR [rM 84 16,LF 85 84]<|cT 85 (.exit 0) .skip)))<|sR [rM 86 11,J9 87 86,rM 88 13,tH 89 87 88,rM 90 15,rM 91 2,Id 92 90 91,Lj 93 89 92,rM 17 93]<|sR [rM 94 17,rM 95 9,rR 96 (.bin .quo .int (.t 94) (.t 95)),rM 18 96]<|sR [rM 97 17,rM 98 18,rM 99 9,Id 100 98 99,Lj 101 97 100,rM 16 101] <|.seq (il 2 (.seq (sR [rM 102 18,LF 103 102,rM 104 103,kK 105 18 104,kK 106 10 104,rG 107 (.bin .mul .int (.t 105) (.t 106)) 104 false,kK 108 16 104,rG 109 (.bin .mul .int (.c (.int .u64 4294967296)) (.t 108)) 104 false,kK 110 14 104,rG 111 (.bin .add .int (.t 109) (.t 110)) 104 false,rG 112 (.bin .gtr .int (.t 107) (.t 111)) 104 false,mw 113 104 112]<|cT 113 .skip (.exit 2)) <|.block 3 (sR [rM 114 18,Lf 115 114,rM 18 115]<|sR [rM 116 16,rM 117 9,tH 118 116 117,rM 16 118]<|sR [rM 119 16,LF 120 119]<|cT 120 (.exit 2) .skip)))<|sR [rM 121 15,J9 122 121,rM 123 18,tH 124 122 123,rM 125 17,J9 126 125,rM 127 14,tH 128 126 127,rM 129 18,rM 130 2,Id 131 129 130,Lj 132 128 131,rM 133 8,rR 134 (.bin .shr .int (.t 132) (.t 133)),rM 6 124,rM 7 134] <|.ret,none⟩
def lf:au:=⟨1,25,[(2,none)],sR [v1 2] <|.seq (sR [rM 3 0,LF 4 3]<|cT 4 (sR [rM 5 0,Jo 6 5,rM 0 6] <|.region [rR 2 (.mv (rI 32))]) .skip) <|.seq (sR [rM 7 0,rR 8 (.bin .geq .int (.t 7) (.c (.int .u64 65536)))]<|cT 8 (sR [rM 9 0,rR 10 (.bin .shr .int (.t 9) (.c (.int .u64 16))),rM 0 10] <|.region [rM 11 2,rR 12 (.bin .add .int (.t 11) (rI 16)),rM 2 12]) .skip) <|.seq (sR [rM 13 0,rR 14 (.bin .geq .int (.t 13) (.c (.int .u64 256)))]<|cT 14 (sR [rM 15 0,rR 16 (.bin .shr .int (.t 15) (.c (.int .u64 8))),rM 0 16] <|.region [rM 17 2,rR 18 (.bin .add .int (.t 17) (rI 8)),rM 2 18]) .skip)<|sR [rM 19 2,rM 20 0,rR 21 (.conv .u8 (.t 20)),rR 22 (.indexStr (.c (.str ⟨#[0,1,2,2,3,3,3,3,4,4,4,4,4,4,4,4,5,5,5,5,5,5,5,5,5,5,5,5,5,5,5,5,6,6,6,6,6,6,6,6,6,6,6,6,6,6,6,6,6,6,6,6,6,6,6,6,6,6,6,6,6,6,6,6,7,7,7,7,7,7,7,7,7,7,7,7,7,7,7,7,7,7,7,7,7,7,7,7,7,7,7,7,7,7,7,7,7,7,7,7,7,7,7,7,7,7,7,7,7,7,7,7,7,7,7,7,7,7,7,7,7,7,7,7,7,7,7,7,8,8,8,8,8,8,8,8,8,8,8,8,8,8,8,8,8,8,8,8,8,8,8,8,8,8,8,8,8,8,8,8,8,8,8,8,8,8,8,8,8,8,8,8,8,8,8,8,8,8,8,8,8,8,8,8,8,8,8,8,8,8,8,8,8,8,8,8,8,8,8,8,8,8,8,8,8,8,8,8,8,8,8,8,8,8,8,8,8,8,8,8,8,8,8,8,8,8,8,8,8,8,8,8,8,8,8,8,8,8,8,8,8,8,8,8,8,8,8,8,8,8,8,8,8,8,8,8]⟩)) (.t 21)),rR 23 (.conv .i64 (.t 22)),tH 24 19 23,rM 2 24] <|.ret,none⟩
def sM:au:=⟨2,17,[(4,none)],sR [v1 4] <|.seq (sR [rM 6 0,J6 7 6,rM 5 7]<|sR [rM 8 5,v9 9 8]<|cT 9 (sR [rM 10 5,rM 4 10] <|.ret) .skip) <|.seq (sR [rM 11 1,LS 12 11,rM 13 12,kK 14 1 13,rG 15 (.bin .gtr .int (.t 14) (rI 65536)) 13 false,mw 16 13 15]<|cT 16 (sR [rR 4 (.mv (rI 2))] <|.ret) .skip)<|sR [v1 4] <|.ret,none⟩
def ol:au:=⟨3,37,[],sR [v2 7 1,v3 8 7,v2 9 2,v3 10 9,rR 11 (.max [.t 8,.t 10]),v1 12]<|dF 0 1 12 11 13 36 (sR [rM 14 12,rM 4 14]<|sR [yI 5,yI 6] <|.seq (sR [rM 15 4,v2 16 1,v3 17 16,yB 18 15 17]<|cT 18 (.region [v2 19 1,rM 20 4,fc 21 19 20,v2 22 21,rM 5 22]) .skip) <|.seq (sR [rM 23 4,v2 24 2,v3 25 24,yB 26 23 25]<|cT 26 (.region [v2 27 2,rM 28 4,fc 29 27 28,v2 30 29,rM 6 30]) .skip)<|sR [rM 31 0,rM 32 5,rM 33 6,Lq 34 31 32 33,Hp 35 34]<|cT 35 .ret .skip),none⟩
def db:au:=⟨2,19,[],sR [v2 4 1,v3 5 4,Ft 6 5,rM 3 6]<|il 0 (.seq (sR [rM 7 3,Jm 8 7]<|cT 8 .skip (.exit 0)) <|.seq (.block 1 (sR [rM 11 0,rM 12 3,v2 13 1,rM 14 3,fc 15 13 14,v2 16 15,Lq 17 11 12 16,Hp 18 17]<|cT 18 .ret .skip)) <|.region [rM 9 3,Ft 10 9,rM 3 10]),none⟩
structure Code (tab:Nat->Option au):Prop where
 facetroomlaw20_ConeDual:tab fJ=some fK
 facetroomlaw20_ConeOrder:tab dm=some c_facetroomlaw20_ConeOrder
 facetroomlaw20_ConeKeeps:tab fk=some fw
 facetroomlaw20_ConeFew:tab fS=some fV
 facetroomlaw20_alive:tab cX=some ig
 facetroomlaw20_great:tab cW=some ic
 cone_Gens:tab eB=some c_cone_Gens
 facetroomref18_Same:tab dz=some iq
 vec_Add:tab l8=some wY
 whole_Of:tab eF=some uY
 vec_Scale:tab eA=some sI
 cone_Keeps:tab jH=some qV
 cone_Made:tab gH=some sU
 rows_Reduce:tab fQ=some py
 vec_Zero:tab pJ=some u3
 vec_Same:tab pK=some vg
 vec_Cmp:tab l7=some wX
 rows_Echelon:tab fj=some oj
 vec_Of:tab nM=some Ag
 facetroomlaw20_gives:tab bP=some ie
 facetroomlaw20_one:tab bH=some jp
 facetroomref20_Great:tab cU=some h9
 cone_checked:tab fl=some c_cone_checked
 cone_long:tab jl=some sS
 cone_all:tab mJ=some vF
 P_cone_under_add:tab cq=some c_P_cone_under_add
 slices_SortFunc_Sl_api_Vec_api_Vec:tab bY=some cS
 cone_Gens_f1:tab fm=some oo
 facetroomref07_Same:tab dA=some ir
 vec_checked:tab iS=some po
 vec_Add_f1:tab jF=some qO
 vec_each:tab iG=some uZ
 nat_Of:tab l9=some Ai
 whole_made:tab dL=some qJ
 whole_Check:tab dU=some pm
 vec_Scale_f1:tab gU=some oe
 cone_asked:tab g8=some qU
 cone_keeps:tab gZ=some qT
 rows_Check:tab gX=some qQ
 rows_formed:tab fP=some pw
 P_rows_form_rest:tab dq=some kE
 vec_Twin:tab ko=some ve
 slices_ContainsFunc_api_Vec_api_Int:tab aO=some cO
 vec_Zero_f1:tab lD=some pp
 slices_EqualFunc_api_Vec_api_Vec_api_Int_api_Int:tab aR=some bI
 whole_Same:tab mE=some qL
 slices_CompareFunc_api_Vec_api_Vec_api_Int_api_Int:tab aA=some bz
 vec_Cmp_f1:tab jE=some qN
 facetroomref18_Great:tab cw=some ia
 P_cone_under_add_f1:tab dE=some iy
 slices_IndexFunc_Sl_api_Vec_api_Vec:tab aN=some cN
 P_cone_under_cut:tab eG=some c_P_cone_under_cut
 P_cone_under_fold:tab dY=some c_P_cone_under_fold
 facetroomref05_Same:tab dB=some iu
 vec_Check:tab fg=some sK
 vec_sum:tab jT=some wU
 nat_trim:tab kr=some vj
 nat_Check:tab gG=some sN
 vec_product:tab dV=some pn
 cone_keeps_f1:tab gf=some nt
 cone_keeps_f2:tab gc=some nr
 slices_ContainsFunc_Sl_api_Vec_api_Vec:tab aM=some cz
 P_rows_form_put:tab dN=some c_P_rows_form_put
 vec_Prime:tab gF=some sJ
 rows_pivot:tab fF=some qP
 rows_without:tab fh=some oi
 vec_Twin_f1:tab iT=some pq
 slices_IndexFunc_api_Vec_api_Int:tab bj=some dx
 slices_Equal_api_Nat_uint64:tab cI=some eC
 whole_Cmp:tab kR=some sE
 facetroomref07_Great:tab cV=some ib
 cone_dot:tab iI=some vE
 cone_sign:tab cZ=some sP
 P_cone_under_mask:tab cR=some jy
 cone_near:tab jk=some sQ
 cone_neg:tab gr=some vB
 cone_mix:tab iH=some vC
 slices_Clone_Sl_api_Vec_api_Vec:tab bo=some dH
 slices_Delete_Sl_api_Vec_api_Vec:tab bk=some dy
 facetroomref01_Same:tab dC=some iv
 vec_Check_f1:tab gW=some oh
 whole_Add:tab kS=some sF
 slices_Clip_api_Nat_uint64:tab aW=some eN
 whole_Mul:tab kQ=some sD
 rows_before:tab iW=some px
 slices_Insert_Sl_api_Vec_api_Vec:tab bi=some dw
 vec_Content:tab iU=some pt
 vec_Prime_f1:tab gV=some og
 rows_places:tab iV=some pu
 whole_Neg:tab jh=some sC
 vec_Mix:tab l5=some wV
 slices_Clone_api_Nat_uint64:tab aD=some eD
 whole_Sub:tab kP=some sB
 whole_sign:tab gS=some qI
 vec_Dot:tab jU=some wW
 whole_Sign:tab gT=some qK
 sat_Signs:tab kT=some c_sat_Signs
 cone_has:tab mI=some vD
 whole_checked:tab fZ=some np
 whole_sum:tab jg=some sA
 mul_Mul:tab oL=some xe
 gcd_Gcd:tab oM=some xf
 whole_Exact:tab iR=some pk
 rows_places_f1:tab de=some mo
 vec_Mix_f1:tab jD=some qM
 nat_Add:tab mc=some xc
 nat_Sub:tab jV=some wZ
 mul_splitter_make:tab cQ=some jx
 mul_checked:tab iX=some pA
 gcd_checked:tab iY=some pB
 div_Div:tab mf=some xg
 whole_quotient:tab fE=some mm
 nat_checked:tab fR=some pz
 nat_joined:tab gY=some qR
 math_bits_Add64:tab cu=some lh
 math_bits_Sub64:tab cL=some kZ
 mul_school:tab jG=some qS
 mul_parts:tab jj=some sO
 mul_sum:tab jW=some xd
 mul_rest:tab mG=some vw
 mul_up:tab nO=some Aj
 div_checked:tab iZ=some pC
 div_Word:tab mH=some vA
 math_bits_LeadingZeros64:tab bG=some fu
 nat_Up:tab nN=some Ah
 P_div_divider_guess:tab dD=some iw
 P_div_divider_take:tab dO=some jq
 P_div_divider_back:tab dP=some jr
 div_trim:tab gq=some vz
 nat_Down:tab mF=some vp
 nat_pairs:tab kU=some sL
 math_bits_Mul64:tab eR=some lc
 mul_trim:tab kv=some vu
 slices_Backward_api_Nat_uint64:tab bw=some dQ
 math_bits_Div64:tab dM=some lg
 math_bits_Len64:tab eS=some lf
 nat_asked:tab ji=some sM
 nat_pairs_f1:tab ee=some ol
 slices_Backward_api_Nat_uint64_f1:tab aL=some db
end Go.Proofs.YtichbdepocojaaaGreat.Ev
/- A part. -/
namespace Go.Proofs.YtichbdepocojaaaGreat.Nn
set_option linter.all false
abbrev B:Nat:=18446744073709551616
def val:List Nat->Nat
 | []=>0
 | a :: l=>a+B*val l
def Lim (l:List Nat):Prop:=∀ a∈l,a<B
def ET (l:List Nat):Prop:=l.getLast? ≠ some 0
theorem Lim.nil:Lim []:=fun a h=>by cases h
theorem Lim.cons {a:Nat} {l:List Nat} (h:a<B) (hl:Lim l):Lim (a :: l):=fun b hb=>by
 rcases List.mem_cons.1 hb with rfl | hb
 ·exact h
 ·exact hl b hb
theorem Lim.head {a:Nat} {l:List Nat} (h:Lim (a :: l)):a<B:=h a (List.mem_cons_self ..)
theorem Lim.tail {a:Nat} {l:List Nat} (h:Lim (a :: l)):Lim l:=fun b hb=>h b (List.mem_cons_of_mem _ hb)
theorem Lim.append {l m:List Nat} (h:Lim l) (h':Lim m):Lim (l++m):=fun b hb=>by
 rcases List.mem_append.1 hb with hb | hb
 ·exact h b hb
 ·exact h' b hb
theorem Lim.take {l:List Nat} (h:Lim l) (n:Nat):Lim (l.take n):=fun b hb=>h b (List.mem_of_mem_take hb)
theorem Lim.drop {l:List Nat} (h:Lim l) (n:Nat):Lim (l.drop n):=fun b hb=>h b (List.mem_of_mem_drop hb)
theorem Lim.replicate (n:Nat):Lim (List.replicate n 0):=fun b hb=>by
 rw [List.eq_of_mem_replicate hb]; decide
theorem Lim.at {l:List Nat} (h:Lim l) (i:Nat):l.getD i 0<B:=by
 rw [List.getD_eq_getElem?_getD]
 cases hi:l[i]? with
 | none=>show 0<B; decide
 | some a=>exact h a (List.mem_of_getElem? hi)
theorem my:∀ (l m:List Nat),val (l++m)=val l+B^l.length*val m
 | [],m=>by simp [val]
 | a :: l,m=>by
  simp only [List.cons_append,val,my l m,List.length_cons,Nat.pow_succ]
  rw [Nat.mul_add,<- Nat.mul_assoc,Nat.mul_comm (B^l.length) B]
  omega
theorem qZ:∀ {l:List Nat},Lim l->val l<B^l.length
 | [],_=>by simp [val]
 | a :: l,h=>by
  have ih:=qZ h.tail
  have ha:=h.head
  simp only [val,List.length_cons,Nat.pow_succ]
  have:B*(val l+1)<=B*B^l.length:=Nat.mul_le_mul_left B ih
  rw [Nat.mul_comm (B^l.length) B]
  rw [Nat.mul_add] at this
  omega
theorem eO (n:Nat):val (List.replicate n 0)=0:=by
 induction n with
 | zero=>rfl
 | succ n ih=>simp [List.replicate_succ,val,ih]
theorem iA (l:List Nat) (a:Nat):val (l++[a])=val l+B^l.length*a:=by
 rw [my]; simp [val]
theorem BY:∀ {l m:List Nat},Lim l->Lim m->l.length=m.length->val l=val m->l=m
 | [],[],_,_,_,_=>rfl
 | [],_ :: _,_,_,h,_=>by simp at h
 | _ :: _,[],_,_,h,_=>by simp at h
 | a :: l,b :: m,h1,h2,h,e=>by
  have ha:=h1.head
  have hb:=h2.head
  simp only [val] at e
  have e1:a=b:=by
   have:(a+B*val l) % B=(b+B*val m) % B:=by rw [e]
   rw [Nat.add_mul_mod_self_left,Nat.add_mul_mod_self_left,Nat.mod_eq_of_lt ha,Nat.mod_eq_of_lt hb] at this
   exact this
  subst e1
  have e2:val l=val m:=Nat.eq_of_mul_eq_mul_left (by decide) (Nat.add_left_cancel e)
  rw [BY h1.tail h2.tail (by simpa using h) e2]
theorem tl {l:List Nat} (hn:ET l) (hne:l≠[]):B^(l.length-1)<=val l:=by
 rcases List.eq_nil_or_concat l with rfl | ⟨l',a,rfl⟩
 ·exact absurd rfl hne
 ·rw [List.concat_eq_append] at *
  rw [iA]
  have ha:a≠0:=fun e=>hn (by rw [e]; simp)
  have:B^l'.length*1<=B^l'.length*a:=Nat.mul_le_mul_left _ (by omega)
  simp only [List.length_append,List.length_singleton,Nat.add_sub_cancel]
  omega
theorem IA {l m:List Nat} (h1:Lim l) (h2:Lim m) (n1:ET l) (n2:ET m) (e:val l=val m):l=m:=by
 have key:∀ {l m:List Nat},Lim l->ET m->val l=val m->m.length<=l.length:=by
  intro l m h1 n2 e
  by_cases hm:m=[]
  ·subst hm; simp
  ·have g1:=qZ h1
   have g2:=tl n2 hm
   apply Nat.le_of_not_lt
   intro hlt
   have:B^l.length<=B^(m.length-1):=Nat.pow_le_pow_right (by decide) (by omega)
   omega
 exact BY h1 h2 (Nat.le_antisymm (key h2 n1 e.symm) (key h1 n2 e)) e
def ag (n:Nat):List Nat:=if h:n=0 then [] else n % B :: ag (n / B)
 termination_by n
 decreasing_by exact Nat.div_lt_self (by omega) (by decide)
theorem cx:ag 0=[]:=by unfold ag; rfl
theorem iK {n:Nat} (h:n≠0):ag n=n % B :: ag (n / B):=by rw [ag,dif_neg h]
theorem bD (n:Nat):val (ag n)=n:=by
 induction n using Nat.strongRecOn with
 | _ n ih =>
  by_cases h:n=0
  ·subst h; rw [cx]; rfl
  ·rw [iK h]
   simp only [val]
   rw [ih _ (Nat.div_lt_self (by omega) (by decide))]
   have:=Nat.mod_add_div n B
   omega
theorem bp (n:Nat):Lim (ag n):=by
 induction n using Nat.strongRecOn with
 | _ n ih =>
  by_cases h:n=0
  ·subst h; rw [cx]; exact Lim.nil
  ·rw [iK h]
   exact Lim.cons (Nat.mod_lt _ (by decide)) (ih _ (Nat.div_lt_self (by omega) (by decide)))
theorem dg (n:Nat):ET (ag n):=by
 induction n using Nat.strongRecOn with
 | _ n ih =>
  by_cases h:n=0
  ·subst h; rw [cx]; simp [ET]
  ·rw [iK h]
   have ih:=ih _ (Nat.div_lt_self (by omega) (by decide:1<B))
   unfold ET at ih ⊢
   by_cases h2:n / B=0
   ·rw [h2,cx]
    have:n % B=n:=Nat.mod_eq_of_lt (by
     rcases Nat.lt_or_ge n B with h | h
     ·exact h
     ·have:=Nat.div_pos h (by decide:0<B); omega)
    rw [this]
    simp [h]
   ·rw [iK h2] at ih ⊢
    rw [List.getLast?_cons_cons]; exact ih
theorem rr {l:List Nat} (h:Lim l) (n:ET l):ag (val l)=l:=IA (bp _) h (dg _) n (bD _)
theorem bf {n k:Nat} (h:n<B^k):(ag n).length<=k:=by
 by_cases h0:ag n=[]
 ·rw [h0]; simp
 ·have g:=tl (dg n) h0
  rw [bD] at g
  apply Nat.le_of_not_lt
  intro hlt
  have:B^k<=B^((ag n).length-1):=Nat.pow_le_pow_right (by decide) (by omega)
  omega
theorem fT (n:Nat):n<B^(ag n).length:=by
 have:=qZ (bp n)
 rw [bD] at this; exact this
theorem limbs_nil {n:Nat}:ag n=[] ↔ n=0:=by
 constructor
 ·intro h
  have:=bD n
  rw [h] at this
  simpa [val] using this.symm
 ·rintro rfl; exact cx
def dl (l:List Nat):List Nat:=(l.reverse.dropWhile (· == 0)).reverse
theorem cK (l:List Nat):dl (l++[0])=dl l:=by simp [dl]
theorem fz {l:List Nat} {a:Nat} (h:a≠0):dl (l++[a])=l++[a]:=by simp [dl,h]
theorem rc:dl []=[]:=rfl
theorem tK:∀ (n:Nat) (l:List Nat),l.length=n->Lim l->dl l=ag (val l)
 | 0,l,hl,_=>by
  have:l=[]:=List.eq_nil_of_length_eq_zero hl
  subst this
  rw [rc]; show []=ag 0; rw [cx]
 | n+1,l,hl,h=>by
  rcases List.eq_nil_or_concat l with rfl | ⟨l',a,rfl⟩
  ·simp at hl
  ·rw [List.concat_eq_append] at *
   have hl':l'.length=n:=by simpa using hl
   have hlim:Lim l':=fun x hx=>h x (List.mem_append_left _ hx)
   by_cases ha:a=0
   ·subst ha
    rw [cK,tK n l' hl' hlim,iA]; simp
   ·rw [fz ha,rr h]
    unfold ET
    simp [ha]
theorem dR {l:List Nat} (h:Lim l):dl l=ag (val l):=tK _ l rfl h
end Go.Proofs.YtichbdepocojaaaGreat.Nn
namespace Go.Proofs.YtichbdepocojaaaGreat.Ev
open Go Nn
set_option linter.all false
abbrev Lb (H:Heap) (v:AV) (l:List Nat):Prop:=tx bT ad H v l
abbrev cp (H:Heap) (v:AV) (n:Nat):Prop:=Lb H v (ag n)
def Sm (n:Nat):Prop:=(ag n).length<1099511627776
section
variable {tab:Nat->Option au} {H:Heap} {s:AV} {l:List Nat}
theorem dZ (hs:Lb H s l) {i:Nat} (hi:i<l.length):cm H none (aV s i)=some (.int .u64 (l.getD i 0:Nat)):=by
 obtain ⟨c,hc,h⟩:=SlV.at1 hs (i:=i) (a:=l.getD i 0) (by simp [hi,List.getD_eq_getElem?_getD])
 rw [h,hc]
theorem nat_Check (C:Code tab) (hw:Wf H) (hs:Lb H s l) (hbig:l.length<4611686018427387904) :
  Ans tab (.fn gG [s]) H fun v H'=>v=.int .i64 (if l.getLast? = some 0 then 8 else 0)/\Kp H H':=by
 refine eh C.nat_Check (by decide) fun T hl g0=>?_
 rcases List.eq_nil_or_concat l with rfl | ⟨l',a,rfl⟩
 ·have hle:lenV s=some (.int .i64 0):=hs.lenV
  refine zW (aH hl g0 hle) ?_
  exact ⟨rfl,zK⟩
 ·rw [List.concat_eq_append] at *
  have hle:lenV s=some (.int .i64 ((l'.length:Int)+1)):=by have:=hs.lenV; simpa using this
  have hwr:IntKind.i64.wrap ((l'.length:Int)+1-1)=(l'.length:Int):=by rw [wrap_i64] <;> simp at hbig <;> omega
  have hpos:(0:Int)<(l'.length:Int)+1:=by omega
  have hi:=SlV.idx1 hs .i64 l'.length (by simp)
  have hld:cm H none (aV s l'.length)=some (.int .u64 (a:Nat)):=by rw [dZ hs (by simp)]; simp
  refine zW (mr hl g0 hle hwr hpos hi hld) ?_
  refine iteH.split (fun h=>?_) fun h=>?_
  ·refine zW (az hl g0) ?_
   exact ⟨by rw [if_pos]; simp; omega,zK⟩
  ·refine zW (az hl g0) ?_
   exact ⟨by rw [if_neg]; simp; omega,zK⟩
theorem nL (C:Code tab) (hw:Wf H) {ls:List (List Nat)} {ty:Nat} (hs:tx (oG (bC bT) ad) ty H s ls) (hbig:ls.length<4611686018427387904) (hc:∀ c∈ls,c.length<4611686018427387904/\c.getLast? ≠ some 0) :
  Ans tab (.fn fR [s]) H fun v H'=>v=.int .i64 0/\Kp H H':=by
 refine eh C.nat_checked (by decide) fun T hl g0=>?_
 refine zW (aH hl g0 hs.lenV) ?_
 refine am H [] (fun _ _ _=>True) (a:=0) (N:=ls.length) rfl (by refine zW (az hl g0) ?_; rfl) (zV (az hl g0)) (Nat.zero_le _) (by omega) (by simp only [List.length_set,hl]; rfl) rfl (fun _ _ _ _ h=>h) zK trivial ?_ ?_
 ·intro j T1 H1 _ hj hl1 hi1 hs1 hk1 _
  have w1:=hk1.wf
  have le_hk1:=hk1.le
  have t6:af T1 6=s:=(hs1.at_ 6 (by decide)).trans (zV (az hl g0))
  obtain ⟨c,hcr,hld⟩:=SlV.at1 (hs.mono hk1.sub) (List.getElem?_eq_getElem hj)
  have hix:=SlV.idx1 hs .i64 j hj
  have hcc:=hc _ (List.getElem_mem hj)
  simp only [List.length_set,hl] at hl1
  refine zW (dI hl1 t6 hi1 hix hld) ?_
  refine AnsH.eq (nat_Check C zF hcr hcc.1) fun H2 h2=>?_
  rw [if_neg hcc.2]
  refine zW hl1 ?_
  have k2:Kp H H2:=Kp.trans zK h2
  have le_k2:=k2.le
  exact zK
 ·intro T1 H1 hl1 hs1 hk1 _
  simp only [List.length_set,hl] at hl1
  refine zW hl1 ?_
  exact zK
theorem fX (C:Code tab) (hw:Wf H) (hs:Lb H s l):Ans tab (.fn aW [s]) H fun v H'=>Lb H' v l/\Kp H H':=by
 refine eh C.slices_Clip_api_Nat_uint64 (by decide) fun T hl g0=>?_
 obtain ⟨v',e,hr⟩:=hs.clip .i64 .i64
 have e':bX 1 s none (some (.int .i64 (l.length:Int))) (some (.int .i64 (l.length:Int)))=some v':=e
 refine zW (aU hl g0 hs.lenV e') ?_
 exact ⟨hr.mono (Sub.bump H _),zK⟩
theorem nat_trim (C:Code tab) (hw:Wf H) (hs:Lb H s l) (hbig:l.length<4611686018427387904) :
  Ans tab (.fn kr [s]) H fun v H'=>Lb H' v (dl l)/\Kp H H':=by
 refine eh C.nat_trim (by decide) fun T hl g0=>?_
 refine zW (az hl g0) ?_
 refine bV H [0] (fun k vs H'=>∃ v,vs=[v]/\Lb H' v (l.take k)/\dl (l.take k)=dl l/\k<=l.length) l.length (by simp only [List.length_set]; exact hl) rfl zK ⟨s,by exact zV (az hl g0),by rw [List.take_length]; exact hs,by rw [List.take_length],Nat.le_refl _⟩ ?_
 rintro k T1 H1 hl1 hs1 hk1 ⟨v,hv,hr,ht,hk⟩
 have w1:=hk1.wf
 have le_hk1:=hk1.le
 simp only [List.map_cons,List.map_nil,List.cons.injEq,and_true] at hv
 rcases List.eq_nil_or_concat (l.take k) with h0 | ⟨l',a,h0⟩
 ·rw [h0] at hr ht
  have hle:lenV v=some (.int .i64 0):=hr.lenV
  refine zW (aH hl1 hv hle) ?_
  refine AnsH.use (fX C zF (hr.mono (Sub.bump H1 _))) ?_
  rintro v2 H2 ⟨h1,h2⟩
  have k2:Kp H H2:=Kp.trans zK h2
  have le_k2:=k2.le
  rw [<- ht]
  refine zW hl1 ?_
  exact ⟨h1,zK⟩
 ·rw [List.concat_eq_append] at h0
  have hk1':k=l'.length+1:=by have:=congrArg List.length h0; simp at this; omega
  have hl':l.take l'.length=l':=by
   have:=congrArg (List.take l'.length) h0
   rw [List.take_take,Nat.min_eq_left (by omega)] at this
   simpa using this
  rw [h0] at hr ht
  have hle:lenV v=some (.int .i64 ((l'.length:Int)+1)):=by have:=hr.lenV; simpa using this
  have hpos:(0:Int)<(l'.length:Int)+1:=by omega
  have hix:=SlV.idx1 hr .i64 l'.length (by simp)
  have hld:cm H1 none (aV v l'.length)=some (.int .u64 (a:Nat)):=by rw [dZ hr (by simp)]; simp
  have hwr:IntKind.i64.wrap ((l'.length:Int)+1-1)=(l'.length:Int):=by rw [wrap_i64] <;> omega
  refine zW (mr hl1 hv hle hpos hix hld hwr) ?_
  refine iteH.split (fun ha=>?_) fun ha=>?_
  ·obtain ⟨v',e,hr'⟩:=hr.hi .i64 l'.length (by simp)
   have e':bX 1 v none (some (.int .i64 (l'.length:Int))) none=some v':=e
   have ha0:a=0:=by omega
   subst ha0
   refine zW (dI hl1 hv hle hwr e') ?_
   refine ⟨zK,l'.length,by omega,v',rfl,?_,?_,by omega⟩
   ·rw [hl']
    have h3:Lb H1 v' l':=by simpa using hr'
    exact h3.mono (Sub.bump H1 _)
   ·rw [hl',<- ht,cK]
  ·have ha':a≠0:=by omega
   refine zW (az hl1 hv) ?_
   refine AnsH.use (fX C zF (hr.mono (Sub.bump H1 _))) ?_
   rintro v2 H2 ⟨h1,h2⟩
   have k2:Kp H H2:=Kp.trans zK h2
   have le_k2:=k2.le
   rw [fz ha'] at ht
   rw [<- ht]
   refine zW hl1 ?_
   exact ⟨h1,zK⟩
theorem nat_Of (C:Code tab) (hw:Wf H) {n:Nat} (hn:n<B):Ans tab (.fn l9 [.int .u64 (n:Int)]) H fun v H'=>cp H' v n/\Sm n/\Kp H H':=by
 refine eh C.nat_Of (by decide) fun T hl g0=>?_
 refine zW (az hl g0) ?_
 have k1:Kp H ((H.up 5).put (H.next+2) (.cells [.int .u64 (n:Int)] ad true)):=zK
 have le_k1:=k1.le
 have hs:Lb ((H.up 5).put (H.next+2) (.cells [.int .u64 (n:Int)] ad true)) (.own (H.next+2) 0 1 1 1 true) [n] :=
  (show Own (bC bT) ad H _ _ true _ [n] from ⟨_,rfl,aI _ _ _,Cells.one ⟨_,rfl,rfl⟩,by omega⟩).sl
 refine AnsH.use (nat_trim C k1.wf hs (by simp)) ?_
 rintro v H2 ⟨h1,h2⟩
 have e:dl [n]=ag n:=by rw [dR (Lim.cons hn Lim.nil)]; simp [val]
 rw [e] at h1
 refine zW (az hl g0) ?_
 refine ⟨h1,?_,k1.trans h2⟩
 have:=bf (n:=n) (k:=1) (by simpa using hn)
 unfold Sm; omega
theorem whole_made (C:Code tab) (hw:Wf H) (hs:Lb H s l) (b:Bool) :
  Ans tab (.fn dL [.bool b,s]) H fun v H'=>v=.agg [.bool (b && decide (0<l.length)),s]/\Kp H H':=by
 refine cC C.whole_made (by decide) fun T hl g0 g1=>?_
 have o1:=hs.one
 cases b
 ·refine zW (aU hl g0 g1 hs.lenV) ?_
  exact zK
 ·refine zW (aU hl g0 g1 hs.lenV) ?_
  exact zK
end
def da (f:Nat->Nat->Nat->Nat × Nat) (a b:List Nat):Nat->List Nat × Nat
 | 0=>([],0)
 | k+1=>((da f a b k).1++[(f (a.getD k 0) (b.getD k 0) (da f a b k).2).1],(f (a.getD k 0) (b.getD k 0) (da f a b k).2).2)
theorem fI (f:Nat->Nat->Nat->Nat × Nat) (a b:List Nat):∀ k,(da f a b k).1.length=k
 | 0=>rfl
 | k+1=>by simp [da,fI f a b k]
section
variable {tab:Nat->Option au} {H:Heap}
theorem nat_pairs (C:Code tab) (hw:Wf H) {sa sb:AV} (ha:One sa) (hb:One sb) :
  Ans tab (.fn kU [sa,sb]) H fun v H'=>v=.fn (.func ee) [] [.ptr H.next 0,.ptr (H.next+1) 0]/\H'.get H.next=some (.cells [sa] ak true)/\H'.get (H.next+1)=some (.cells [sb] ak true)/\H.next+2<=H'.next/\Kp H H':=by
 refine cC C.nat_pairs (by decide) fun T hl g0 g1=>?_
 refine zW (aH hl g0 g1) ?_
 exact ⟨by omega,zK⟩
theorem vT (C:Code tab) {H0:Heap} {lb ba bb:Nat} {a b:List Nat} {sa sb:AV} (J:Nat->Heap->Prop) (hla:a.length<4611686018427387904) (hlb:b.length<4611686018427387904) {M:Nat} (hM:M=max a.length b.length)
  (hk:Kp H0 H) (h0:J 0 H) (hup:∀ k H m,J k H->J k (H.up m)) (hA:∀ k H,J k H->H.get ba=some (.cells [sa] ak true)/\Lb H sa a/\H.get bb=some (.cells [sb] ak true)/\Lb H sb b)
  (hr:∀ k H,k<M->Kp H0 H->J k H->Ans tab (.round lb [.int .u64 (a.getD k 0:Nat),.int .u64 (b.getD k 0:Nat)]) H fun v H'=>v=.bool true/\Kp H0 H'/\J (k+1) H') :
  Ans tab (.ent ee [.loopv lb,.ptr ba 0,.ptr bb 0]) H fun _ H'=>Kp H0 H'/\J M H':=by
 refine Nf C.nat_pairs_f1 (by decide) fun T hl g0 g1 g2=>?_
 obtain ⟨q1,q2,q3,q4⟩:=hA _ _ h0
 have hmax:DG (.int .i64 (a.length:Int)) (.int .i64 (b.length:Int))=some (.int .i64 (M:Int)):=by rw [xU]; congr 2; split <;> omega
 refine zW (ny hl g0 g1 g2 q1 q3 q2.lenV q4.lenV hmax) ?_
 refine am H0 [] (fun j _ H'=>J j H') (a:=0) (N:=M) rfl (by refine zW (aU hl g0 g1 g2) ?_; rfl) (zV (aU hl g0 g1 g2)) (Nat.zero_le _) (by omega) (by simp only [List.length_set,hl]; rfl) rfl (fun j _ H' m h=>hup _ _ _ h) zK (hup _ _ _ h0) ?_ ?_
 ·intro j T1 H1 _ hj hl1 hi1 hs1 hk1 hJ
  simp only [List.length_set,hl] at hl1
  have t0:af T1 0=.loopv lb:=(hs1.at_ 0 (by decide)).trans (zV (az hl g0))
  have t1:af T1 1=.ptr ba 0:=(hs1.at_ 1 (by decide)).trans (zV (dI hl g0 g1 g2 g1))
  have t2:af T1 2=.ptr bb 0:=(hs1.at_ 2 (by decide)).trans (zV (dI hl g0 g1 g2 g2))
  obtain ⟨q1,q2,q3,q4⟩:=hA _ _ hJ
  have gz:∀ (l:List Nat),¬ j<l.length->l.getD j 0=0:=fun l h=>by rw [List.getD_eq_getElem?_getD,List.getElem?_eq_none (by omega)]; rfl
  have hround:∀ m,Ans tab (.round lb [.int .u64 (a.getD j 0:Nat),.int .u64 (b.getD j 0:Nat)]) (H1.up m) fun v H'=>v=.bool true/\Kp H0 H'/\J (j+1) H':=fun m=>hr j _ hj (hk1.up m) (hup _ _ _ hJ)
  refine zW (ny hl1 t0 t1 t2 hi1 q1 q3 q2.lenV q4.lenV) ?_
  refine iteH.split (fun h1=>?_) fun h1=>?_
  ·have x1:=SlV.idx1 q2 .i64 j h1
   have d1:=dZ q2 h1
   refine zW (sY hl1 t0 t1 t2 hi1 q1 q3 q2.lenV q4.lenV x1 d1) ?_
   refine iteH.split (fun h2=>?_) fun h2=>?_
   ·have x2:=SlV.idx1 q4 .i64 j h2
    have d2:=dZ q4 h2
    refine zW (sY hl1 t0 t1 t2 hi1 q1 q3 q2.lenV q4.lenV x2 d2) ?_
    refine AnsH.eq (hround _) fun H2 ⟨k2,j2⟩=>?_
    refine zW hl1 ?_
    exact ⟨zK,j2⟩
   ·rw [gz b h2] at hround
    refine zW (mr hl1 t0 t1 t2 hi1 q1 q3) ?_
    refine AnsH.eq (hround _) fun H2 ⟨k2,j2⟩=>?_
    refine zW hl1 ?_
    exact ⟨zK,j2⟩
  ·rw [gz a h1] at hround
   refine zW (ny hl1 t0 t1 t2 hi1 q1 q3 q2.lenV q4.lenV) ?_
   refine iteH.split (fun h2=>?_) fun h2=>?_
   ·have x2:=SlV.idx1 q4 .i64 j h2
    have d2:=dZ q4 h2
    refine zW (sY hl1 t0 t1 t2 hi1 q1 q3 q2.lenV q4.lenV x2 d2) ?_
    refine AnsH.eq (hround _) fun H2 ⟨k2,j2⟩=>?_
    refine zW hl1 ?_
    exact ⟨zK,j2⟩
   ·rw [gz b h2] at hround
    refine zW (mr hl1 t0 t1 t2 hi1 q1 q3) ?_
    refine AnsH.eq (hround _) fun H2 ⟨k2,j2⟩=>?_
    refine zW hl1 ?_
    exact ⟨zK,j2⟩
 ·intro T1 H1 hl1 hs1 hk1 hJ
  refine zW hl1 ?_
  exact ⟨hk1,hJ⟩
theorem pH {f:Src} {ps:List Nat} {asg body:ACode} {T:Tm} {Q:Ex->Tm->Heap->Prop} {fi:Nat} {args:List AV} (hf:gh (f.ev T) [.loopv H.next]=some (.fn fi args))
  (h:Ans tab (.ent fi args) ((H.up 1).put H.next (.loop T ps asg body .ready none)) fun _ H2 =>
   (H2.get H.next=some (.loop T ps asg body .ready none)/\Q .nrm T (H2.kill H.next))\/(H2.get H.next=some (.loop T ps asg body .done (some .ret))/\Q .ret T (H2.kill H.next)) \/
   (∃ id,H2.get H.next=some (.loop T ps asg body .done (some (.exit id)))/\Q (.exit id) T (H2.kill H.next))):rangeH tab f ps asg body () () T H Q ():=rangeH.use hf h
theorem nat_joined (C:Code tab) (hw:Wf H) {sa sb:AV} {a b:List Nat} (ha:Lb H sa a) (hb:Lb H sb b) (hla:a.length<4398046511104) (hlb:b.length<4398046511104) (la:Lim a) (lmb:Lim b) {fi:Nat} {f:Nat->Nat->Nat->Nat × Nat}
  (hg:∀ H x y c,x<B->y<B->c<=1->Ans tab (.fn fi [.int .u64 (x:Nat),.int .u64 (y:Nat),.int .u64 (c:Nat)]) H fun v H'=>v=.tup [.int .u64 ((f x y c).1:Nat),.int .u64 ((f x y c).2:Nat)]/\H'=H) (hc1:∀ x y c,x<B->y<B->c<=1->(f x y c).2<=1) :
  Ans tab (.fn gY [sa,sb,.fn (.func fi) [] []]) H fun v H'=>∃ o,v=.tup [o,.int .u64 ((da f a b (max a.length b.length)).2:Nat)]/\Bl (bC bT) ad H H' o (da f a b (max a.length b.length)).1/\Kp H H':=by
 refine lG C.nat_joined (by decide) fun T hl g0 g1 g2=>?_
 refine zW (aU hl g0 g1 g2) ?_
 have k1:Kp H ((((H.up 6).put H.next (.cells [.fn (.func fi) [] []] al true)).put (H.next+1) (.cells [.nilSl] ak true)).put (H.next+1+1) (.cells [.int .u64 0] ad true)):=zK
 have le_k1:=k1.le
 refine AnsH.use (nat_pairs C k1.wf ha.one hb.one) ?_
 rintro v H2 ⟨rfl,b1,b2,hn2,hk2⟩
 have k2:=k1.trans hk2
 have p5:H2.get H.next=some (.cells [.fn (.func fi) [] []] al true):=hk2.get (d8)
 have p6:H2.get (H.next+1)=some (.cells [.nilSl] ak true):=hk2.get (d8)
 have p7:H2.get (H.next+1+1)=some (.cells [.int .u64 0] ad true):=hk2.get (d8)
 have hn1:((((H.up 6).put H.next (.cells [.fn (.func fi) [] []] al true)).put (H.next+1) (.cells [.nilSl] ak true)).put (H.next+1+1) (.cells [.int .u64 0] ad true)).next=H.next+6:=rfl
 rw [hn1] at b1 b2 hn2 ⊢
 refine zW (aU hl g0 g1 g2) ?_
 refine pH (fi:=ee) (args:=[.loopv H2.next,.ptr (H.next+6) 0,.ptr (H.next+6+1) 0]) (by refine zW (aU hl g0 g1 g2) ?_; rfl) ?_
 generalize he:Ent.loop _ _ _ _ _ _=e0
 have k3:Kp H ((H2.up 1).put H2.next e0):=zK
 have le_k3:=k3.le
 refine (vT C (H0:=H) (a:=a) (b:=b) (sa:=sa) (sb:=sb) (M:=max a.length b.length) (fun k H'=>H'.get H2.next=some e0/\H'.get H.next=some (.cells [.fn (.func fi) [] []] al true) /\
   (∃ o,H'.get (H.next+1)=some (.cells [o] ak true)/\Bl (bC bT) ad H H' o (da f a b k).1/\∀ n,o ≠ .own (H.next+1+1) 0 n n 1 false)/\H'.get (H.next+1+1)=some (.cells [.int .u64 ((da f a b k).2:Nat)] ad true)/\(da f a b k).2<=1 /\
   H'.get (H.next+6)=some (.cells [sa] ak true)/\H'.get (H.next+6+1)=some (.cells [sb] ak true)/\Lb H' sa a/\Lb H' sb b) (by omega) (by omega) rfl k3
  ⟨by exact d8,by exact zV p5,⟨.nilSl,by exact zV p6,Bl.nil,fun n h=>by cases h⟩,by refine zW p7 ?_; rfl,Nat.zero_le _,by exact zV b1,by exact zV b2,ha.mono k3.sub,hb.mono k3.sub⟩ (fun _ _ _ h=>h) (fun k H' h=>⟨h.2.2.2.2.2.1,h.2.2.2.2.2.2.2.1,h.2.2.2.2.2.2.1,h.2.2.2.2.2.2.2.2⟩) ?_).mono ?_
 ·rintro k H1 hk hk1 ⟨j0,j5,⟨o,j6,jo,jn⟩,j7,j7',ja,jb,-,-⟩
  rw [<- he] at j0
  refine pU j0 rfl ?_
  refine zW (ng hl g0 g1 g2 j0 j5 j6 j7) ?_
  refine AnsH.eq (hg _ _ _ _ (la.at k) (lmb.at k) j7') fun H3 e3=>?_
  subst e3
  have hlt:=hk1.wf _ _ j0
  have hle:=hk1.le
  have hz:=hc1 _ _ _ (la.at k) (lmb.at k) j7'
  refine zW (ng hl g0 g1 g2 j0 j5 j6 j7) ?_
  generalize he2:Ent.loop _ _ _ _ LoopState.busy none=e2
  generalize hzz:f (a.getD k 0) (b.getD k 0) (da f a b k).2=z
  have k4:Kp H (((H1.up 13).put H2.next e2).put (H.next+2) (.cells [.int .u64 (z.2:Nat)] ad true)):=zK
  have le_k4:=k4.le
  have q1:Bl (bC bT) ad H (((H1.up 13).put H2.next e2).put (H.next+2) (.cells [.int .u64 (z.2:Nat)] ad true)) o (da f a b k).1 :=
   (Bl.put (show Bl _ _ _ (H1.up 13) _ _ from jo) (jo.ne j0 fun cs h=>by cases h) (SubT.nil _ _)).put jn (SubT.nil _ _)
  have hlen:=fI f a b k
  obtain ⟨n,H4,e1,q2,k5,hn4,hp⟩:=q1.push (ty2:=ad) (bytes:=8) (id:=H1.next+16) (id2:=H1.next+15) (k:=5) (cs:=[.int .u64 (z.1:Nat)]) (a:=z.1) (fun h=>by cases h) k4 ⟨_,rfl,rfl⟩
   (by show H1.next+13<=_; omega) (by show _<H1.next+13+5; omega) (by show H1.next+13<=_; omega) (by show _<H1.next+13+5; omega) (by omega) (by omega) (by omega)
  have e1':eY ((((H1.up 18).put H2.next e2).put (H.next+2) (.cells [.int .u64 (z.2:Nat)] ad true)).put (H1.next+15) (.cells [.int .u64 (z.1:Nat)] ad true)) (H1.next+16) 1 8 ad o (.own (H1.next+15) 0 1 1 1 true)=some (.own (H1.next+16) 0 n n 1 false,H4):=e1
  have r6:H4.get (H.next+1)=some (.cells [o] ak true):=hp (H.next+1) (.cells [o] ak true) (zV j6) (q1.ne (e:=.cells [o] ak true) (zV j6) fun cs h=>by injection h with _ h2; exact absurd h2 (by decide))
  refine zW (i9 hl g0 g1 g2 e1' r6) ?_
  have ty1:∀ {o':AV} {cs:List AV},Ent.cells [o'] ak true ≠ .cells cs ad true:=fun h=>by injection h with _ h2; exact absurd h2 (by decide)
  have r0:H4.get H2.next=some e2:=hp H2.next e2 (d8) (q1.ne (e:=e2) (d8) fun cs h=>by rw [<- he2] at h; cases h)
  have r5:H4.get H.next=some (.cells [.fn (.func fi) [] []] al true):=hp H.next _ (zV j5) (q1.ne (e:=.cells [.fn (.func fi) [] []] al true) (zV j5) fun cs h=>by injection h with _ h2; exact absurd h2 (by decide))
  have r7:H4.get (H.next+2)=some (.cells [.int .u64 (z.2:Nat)] ad true):=hp (H.next+2) _ (d8) jn
  have ra:H4.get (H.next+6)=some (.cells [sa] ak true):=hp (H.next+6) (.cells [sa] ak true) (zV ja) (q1.ne (e:=.cells [sa] ak true) (zV ja) fun cs=>ty1)
  have rb:H4.get (H.next+7)=some (.cells [sb] ak true):=hp (H.next+7) (.cells [sb] ak true) (zV jb) (q1.ne (e:=.cells [sb] ak true) (zV jb) fun cs=>ty1)
  have hn4':H4.next=H1.next+18:=hn4
  have k6:Kp H ((H4.put (H.next+1) (.cells [.own (H1.next+16) 0 n n 1 false] ak true)).put H2.next e0):=zK
  have le_k6:=k6.le
  rw [um]
  refine zW (mr he2 he r0 r5 r7 ra rb) ?_
  refine ⟨k6,⟨_,rfl,?_,fun n' h=>by injection h; omega⟩,?_,?_,ha.mono k6.sub,hb.mono k6.sub⟩
  ·have:(da f a b (k+1)).1=(da f a b k).1++[z.1]:=by rw [<- hzz]; rfl
   rw [this]
   exact (q2.put (fun n' h=>by injection h; omega) (SubT.nil _ _)).put (fun n' h=>by injection h; omega) (SubT.nil _ _)
  ·rw [<- hzz]; rfl
  ·have:(da f a b (k+1)).2=z.2:=by rw [<- hzz]; rfl
   rw [this,<- hzz]; exact hz
 ·rintro _ H' ⟨hk',j0,j5,⟨o,j6,jo,jn⟩,j7,j7',-⟩
  have hlt:=hk'.wf _ _ j0
  refine .inl ⟨j0,?_⟩
  refine zW (i9 hl g0 g1 g2 j6 j7) ?_
  exact ⟨o,rfl,jo.kill (jo.ne j0 fun cs h=>by rw [<- he] at h; cases h) (SubT.nil _ _),zK⟩
end
theorem cA (l:List Nat) (k:Nat):val (l.take (k+1))=val (l.take k)+B^k*l.getD k 0:=by
 by_cases h:k<l.length
 ·rw [List.take_succ_eq_append_getElem h,iA,List.length_take,Nat.min_eq_left (Nat.le_of_lt h)]
  simp [List.getD_eq_getElem?_getD,h]
 ·rw [List.take_of_length_le (by omega),List.take_of_length_le (by omega),List.getD_eq_getElem?_getD,List.getElem?_eq_none (by omega)]
  simp
def ej (x y c:Nat):Nat × Nat:=((x+y+c) % B,(x+y+c) / B)
def hZ (x y c:Nat):Nat × Nat:=((x+B-y-c) % B,if x<y+c then 1 else 0)
theorem ts (x y c:Nat) (hx:x<B) (hy:y<B) (hc:c<=1):(ej x y c).2<=1:=by
 simp only [ej,B] at *; omega
theorem qE (x y c:Nat):(hZ x y c).2<=1:=by
 unfold hZ; simp only; split <;> omega
theorem tp {f:Nat->Nat->Nat->Nat × Nat} {a b:List Nat} (la:Lim a) (lb:Lim b) (h:∀ x y c,x<B->y<B->c<=1->(f x y c).2<=1):∀ k,(da f a b k).2<=1
 | 0=>Nat.zero_le _
 | k+1=>h _ _ _ (la.at k) (lb.at k) (tp la lb h k)
theorem uE {f:Nat->Nat->Nat->Nat × Nat} {a b:List Nat} (h:∀ x y c,(f x y c).1<B):∀ k,Lim (da f a b k).1
 | 0=>Lim.nil
 | k+1=>(uE h k).append (Lim.cons (h _ _ _) Lim.nil)
theorem CQ {a b:List Nat}:∀ k,val (da ej a b k).1+B^k*(da ej a b k).2=val (a.take k)+val (b.take k)
 | 0=>by simp [da,val]
 | k+1=>by
  have ih:=CQ (a:=a) (b:=b) k
  rw [cA,cA]
  simp only [da,iA,fI]
  generalize da ej a b k=r at ih ⊢
  generalize a.getD k 0=x
  generalize b.getD k 0=y
  simp only [ej]
  have e:=Nat.div_add_mod (x+y+r.2) B
  have:B^(k+1)*((x+y+r.2) / B)=B^k*(B*((x+y+r.2) / B)):=by rw [Nat.pow_succ,Nat.mul_assoc]
  rw [this]
  generalize B*((x+y+r.2) / B)=q at *
  generalize (x+y+r.2) % B=m at *
  have:B^k*(x+y+r.2)=B^k*q+B^k*m:=by rw [<- e,Nat.mul_add]
  rw [Nat.mul_add,Nat.mul_add] at this
  omega
theorem B3 {a b:List Nat} (la:Lim a) (lb:Lim b):∀ k,val (da hZ a b k).1+val (b.take k)=val (a.take k)+B^k*(da hZ a b k).2
 | 0=>by simp [da,val]
 | k+1=>by
  have ih:=B3 la lb k
  have hc:(da hZ a b k).2<=1:=tp la lb (fun x y c _ _ _=>qE x y c) k
  rw [cA,cA]
  simp only [da,iA,fI]
  have hx:=la.at k
  have hy:=lb.at k
  generalize da hZ a b k=r at ih hc ⊢
  generalize a.getD k 0=x at *
  generalize b.getD k 0=y at *
  have key:(hZ x y r.2).1+y+r.2=x+B*(hZ x y r.2).2:=by
   clear ih
   simp only [hZ,B] at *
   split <;> omega
  have:B^(k+1)*(hZ x y r.2).2=B^k*(B*(hZ x y r.2).2):=by rw [Nat.pow_succ,Nat.mul_assoc]
  rw [this]
  have:=congrArg (B^k * ·) key
  simp only [Nat.mul_add] at this
  generalize B^k*(B*(hZ x y r.2).2)=q at *
  generalize B^k*(hZ x y r.2).1=m at *
  omega
section
variable {tab:Nat->Option au} {H:Heap}
theorem gK (C:Code tab) (H:Heap) (x y c:Nat) (_:x<B) (_:y<B) (hc:c<=1):Ans tab (.fn cu [.int .u64 (x:Nat),.int .u64 (y:Nat),.int .u64 (c:Nat)]) H fun v H'=>v=.tup [.int .u64 ((ej x y c).1:Nat),.int .u64 ((ej x y c).2:Nat)]/\H'=H :=
 tt C.math_bits_Add64 rfl rfl (v:=.tup [.int .u64 ((ej x y c).1:Nat),.int .u64 ((ej x y c).2:Nat)]) (H':=H) (by
  show (if c<=1 then _ else _)=_
  rw [if_pos hc]; rfl) ⟨rfl,rfl⟩
theorem rK (C:Code tab) (H:Heap) (x y c:Nat) (_:x<B) (_:y<B) (hc:c<=1):Ans tab (.fn cL [.int .u64 (x:Nat),.int .u64 (y:Nat),.int .u64 (c:Nat)]) H fun v H'=>v=.tup [.int .u64 ((hZ x y c).1:Nat),.int .u64 ((hZ x y c).2:Nat)]/\H'=H :=
 tt C.math_bits_Sub64 rfl rfl (v:=.tup [.int .u64 ((hZ x y c).1:Nat),.int .u64 ((hZ x y c).2:Nat)]) (H':=H) (by
  show (if c<=1 then _ else _)=_
  rw [if_pos hc]; rfl) ⟨rfl,rfl⟩
theorem pd {H H1:Heap} {b ty t1:Nat} {α:Type} {E:gM α} {x y:AV} {l m:List α} (hx:SlV E t1 H x l) (hy:SlV E t1 H y m) (hs:Sub H H1) (hg:H1.get b=some (.cells [x,y] ty true)):tx (oG E t1) ty H1 (.own b 0 2 2 1 true) [l,m] :=
 ⟨[x,y],Rd.own hg rfl (Nat.le_refl _),fun _ _ _ _ _ _ e=>by cases e; exact ⟨_,_,hg⟩,rfl,fun i a hi=>by
  match i with
  | 0=>simp at hi; subst hi; exact ⟨x,rfl,hx.mono hs⟩
  | 1=>simp at hi; subst hi; exact ⟨y,rfl,hy.mono hs⟩
  | i+2=>simp at hi⟩
theorem Gt {H H1:Heap} {b ty t1:Nat} {α:Type} {E:gM α} {x:AV} {l:List α} (hx:SlV E t1 H x l) (hs:Sub H H1) (hg:H1.get b=some (.cells [x] ty true)):tx (oG E t1) ty H1 (.own b 0 1 1 1 true) [l] :=
 ⟨[x],Rd.own hg rfl (Nat.le_refl _),fun _ _ _ _ _ _ e=>by cases e; exact ⟨_,_,hg⟩,rfl,fun i a hi=>by
  match i with
  | 0=>simp at hi; subst hi; exact ⟨x,rfl,hx.mono hs⟩
  | i+1=>simp at hi⟩
theorem pf (a b:List Nat):a.take (max a.length b.length)=a:=List.take_of_length_le (by omega)
theorem nD (a b:List Nat):b.take (max a.length b.length)=b:=List.take_of_length_le (by omega)
theorem nat_Add (C:Code tab) (hw:Wf H) {sa sb:AV} {x y:Nat} (ha:cp H sa x) (hb:cp H sb y) (hx:Sm x) (hy:Sm y) :
  Ans tab (.fn mc [sa,sb]) H fun v H'=>∃ o,v=.tup [o,.int .i64 0]/\cp H' o (x+y)/\Kp H H':=by
 refine cC C.nat_Add (by decide) fun T hl g0 g1=>?_
 have oa:=ha.one
 have ob:=hb.one
 unfold Sm at hx hy
 refine zW (aH hl g0 g1) ?_
 have k1:Kp H ((H.up 7).put (H.next+4) (.cells [sa,sb] ak true)):=zK
 have le_k1:=k1.le
 refine AnsH.eq (nL C k1.wf (pd ha hb k1.sub (aI _ _ _)) (by simp) fun c hc=>?_) fun H2 hk2=>?_
 ·simp at hc
  rcases hc with rfl | rfl
  ·exact ⟨by omega,dg x⟩
  ·exact ⟨by omega,dg y⟩
 have k2:=k1.trans hk2
 have w2:=k2.wf
 refine zW (aH hl g0 g1) ?_
 refine AnsH.use (nat_joined C zF (ha.mono (k2.up _).sub) (hb.mono (k2.up _).sub) (by omega) (by omega) (bp x) (bp y) (f:=ej) (gK C) ts) ?_
 rintro v H3 ⟨o,rfl,ho,hk3⟩
 obtain ⟨k3,_,w3⟩:=zT H zK hk3
 have hlen:=fI ej (ag x) (ag y) (max (ag x).length (ag y).length)
 have hval:=CQ (a:=ag x) (b:=ag y) (max (ag x).length (ag y).length)
 rw [pf,nD,bD,bD] at hval
 have hlim:Lim (da ej (ag x) (ag y) (max (ag x).length (ag y).length)).1:=uE (fun x y c=>Nat.mod_lt _ (by decide)) _
 have hle:=tp (bp x) (bp y) ts (max (ag x).length (ag y).length)
 generalize da ej (ag x) (ag y) (max (ag x).length (ag y).length)=r at *
 refine zW (aH hl g0 g1) ?_
 obtain ⟨n,H4,e1,q2,k5,hn4,-⟩:=ho.push (ty2:=ad) (bytes:=8) (id:=H3.next+3) (id2:=H3.next+2) (k:=7) (cs:=[.int .u64 (r.2:Nat)]) (a:=r.2) (fun h=>by cases h) hk3 ⟨_,rfl,rfl⟩ (by omega) (by omega) (by omega) (by omega) (by omega) (by omega) (by omega)
 have e1':eY ((H3.up 7).put (H3.next+2) (.cells [.int .u64 (r.2:Nat)] ad true)) (H3.next+3) 1 8 ad o (.own (H3.next+2) 0 1 1 1 true)=some (.own (H3.next+3) 0 n n 1 false,H4):=e1
 refine zW (aU hl g0 g1 e1') ?_
 have w4:=k5.wf
 refine AnsH.use (nat_trim C zF q2.sl (by simp; omega)) ?_
 rintro v H5 ⟨h5,hk5⟩
 have k7:Kp H H5:=((k2.up _).trans k5).trans hk5
 have le_k7:=k7.le
 have e:dl (r.1++[r.2])=ag (x+y):=by
  rw [dR (hlim.append (Lim.cons (by unfold B; omega) Lim.nil)),iA,hlen,hval]
 rw [e] at h5
 refine zW (aH hl g0 g1) ?_
 exact ⟨v,rfl,h5,k7⟩
theorem nat_Sub (C:Code tab) (hw:Wf H) {sa sb:AV} {x y:Nat} (ha:cp H sa x) (hb:cp H sb y) (hx:Sm x) (hy:Sm y) :
  Ans tab (.fn jV [sa,sb]) H fun v H'=>Kp H H'/\if y<=x then ∃ o,v=.tup [o,.int .i64 0]/\cp H' o (x-y) else v=.tup [.nilSl,.int .i64 10]:=by
 refine cC C.nat_Sub (by decide) fun T hl g0 g1=>?_
 have oa:=ha.one
 have ob:=hb.one
 unfold Sm at hx hy
 refine zW (aH hl g0 g1) ?_
 have k1:Kp H ((H.up 7).put (H.next+4) (.cells [sa,sb] ak true)):=zK
 have le_k1:=k1.le
 refine AnsH.eq (nL C k1.wf (pd ha hb k1.sub (aI _ _ _)) (by simp) fun c hc=>?_) fun H2 hk2=>?_
 ·simp at hc
  rcases hc with rfl | rfl
  ·exact ⟨by omega,dg x⟩
  ·exact ⟨by omega,dg y⟩
 have k2:=k1.trans hk2
 have w2:=k2.wf
 refine zW (aH hl g0 g1) ?_
 refine AnsH.use (nat_joined C zF (ha.mono (k2.up _).sub) (hb.mono (k2.up _).sub) (by omega) (by omega) (bp x) (bp y) (f:=hZ) (rK C) fun x y c _ _ _=>qE x y c) ?_
 rintro v H3 ⟨o,rfl,ho,hk3⟩
 obtain ⟨k3,_,w3⟩:=zT H zK hk3
 have hlen:=fI hZ (ag x) (ag y) (max (ag x).length (ag y).length)
 have hval:=B3 (bp x) (bp y) (max (ag x).length (ag y).length)
 rw [pf,nD,bD,bD] at hval
 have hlim:Lim (da hZ (ag x) (ag y) (max (ag x).length (ag y).length)).1:=uE (fun x y c=>Nat.mod_lt _ (by decide)) _
 have hle:=tp (bp x) (bp y) (fun x y c _ _ _=>qE x y c) (max (ag x).length (ag y).length)
 have hlt:=qZ hlim
 rw [hlen] at hlt
 generalize da hZ (ag x) (ag y) (max (ag x).length (ag y).length)=r at *
 refine zW (aH hl g0 g1) ?_
 refine iteH.split (fun h=>?_) fun h=>?_
 ·have h1:r.2=1:=by omega
  rw [h1] at hval
  have:¬ y<=x:=by omega
  refine zW (aU hl g0 g1 this) ?_
  exact zK
 ·have h1:r.2=0:=by omega
  rw [h1] at hval
  have hyx:y<=x:=by omega
  refine zW (aH hl g0 g1) ?_
  refine AnsH.use (nat_trim C zF (ho.sl.mono (Sub.bump H3 _)) (by omega)) ?_
  rintro v H5 ⟨h5,hk5⟩
  obtain ⟨k7,_,_⟩:=zT H zK hk5
  have e:dl r.1=ag (x-y):=by
   rw [dR hlim]; congr 1; omega
  rw [e] at h5
  refine zW (aH hl g0 g1) ?_
  exact ⟨k7,by rw [if_pos hyx]; exact ⟨v,rfl,h5⟩⟩
end
section
variable {tab:Nat->Option au} {H:Heap} {s:AV} {l:List Nat}
theorem iB (C:Code tab) (hw:Wf H) (hs:Lb H s l) (hbig:l.length<1099511627776):Ans tab (.fn aD [s]) H fun v H'=>Lb H' v l/\Kp H H':=by
 refine eh C.slices_Clone_api_Nat_uint64 (by decide) fun T hl g0=>?_
 rcases hs.nilcase with ⟨rfl,rfl⟩ | hne
 ·have e:bJ .eql .sl .nilSl .nilSl=some (.bool true):=rfl
  refine zW (aH hl g0 e) ?_
  exact ⟨SlV.nil _ _ _,zK⟩
 ·have ef:dt ([]:List AV) []=some []:=rfl
  refine zW (aU hl g0 hne ef) ?_
  have k1:Kp H ((H.up 7).put (H.next+3) (.cells [] ad true)):=zK
  have le_k1:=k1.le
  have h0:SlV (bC bT) ad ((H.up 7).put (H.next+3) (.cells [] ad true)) (.own (H.next+3) 0 0 0 1 true) ([]:List Nat) :=
   (show Own (bC bT) ad H _ (H.next+3) true _ [] from ⟨_,rfl,aI _ _ _,Cells.nil _ _,by omega⟩).sl
  obtain ⟨v',H2,e1,h2,hk2,hn2,hs2,-⟩:=SlV.app (l:=[]) (id:=H.next+5) (bytes:=8) h0 k1 (hs.mono k1.sub) (by omega) (by show _<H.next+7; omega) (by rw [aw (by omega)]; exact hw.fresh (b:=H.next+5) (by omega)) (by simp; omega) (by simp; omega)
  have e1':eY ((H.up 7).put (H.next+3) (.cells [] ad true)) (H.next+5) 1 8 ad (.own (H.next+3) 0 0 0 1 true) s=some (v',H2):=e1
  refine zW (aH hl g0 e1') ?_
  exact ⟨h2,hk2⟩
def intE:gM Int where
 sz:=2
 tys:=[ad]
 R H cs z:=∃ v,cs=[.bool (decide (z<0)),v]/\cp H v z.natAbs
 pos:=by omega
 len:=by rintro H cs z ⟨v,rfl,h⟩; exact ⟨rfl,by simp [h.one.2]; rfl⟩
 mono:=by rintro H H' cs z hs ⟨v,rfl,h⟩; exact ⟨v,rfl,h.monoT hs⟩
def IntV (H:Heap) (v:AV) (z:Int):Prop:=∃ w,v=.agg [.bool (decide (z<0)),w]/\cp H w z.natAbs
def fL (z:Int):Prop:=Sm z.natAbs
theorem IntV.mono {H H':Heap} (hs:Sub H H') {v:AV} {z:Int} (h:IntV H v z):IntV H' v z:=by
 obtain ⟨w,rfl,h⟩:=h; exact ⟨w,rfl,h.mono hs⟩
theorem bK (n:Nat):(0<(ag n).length) ↔ n≠0:=by
 rw [List.length_pos_iff]
 exact not_congr limbs_nil
theorem d9 (C:Code tab) (hw:Wf H) {v:AV} {z:Int} (hv:IntV H v z) (hz:fL z):Ans tab (.fn dU [v]) H fun v H'=>v=.int .i64 0/\Kp H H':=by
 obtain ⟨w,rfl,hn⟩:=hv
 unfold fL Sm at hz
 have ow:=hn.one
 refine eh C.whole_Check (by decide) fun T hl g0=>?_
 refine zW (az hl g0) ?_
 have k1:Kp H ((H.up 16).put H.next (.cells [.bool (decide (z<0)),w] aa true)):=zK
 have le_k1:=k1.le
 refine AnsH.eq (nat_Check C k1.wf (hn.mono k1.sub) (by omega)) fun H2 hk2=>?_
 rw [if_neg (dg _)]
 have k2:=k1.trans hk2
 have b0:H2.get H.next=some (.cells [.bool (decide (z<0)),w] aa true):=hk2.get (aI _ _ _)
 refine zW (aH hl g0 @b0) ?_
 refine iteH.split (fun h=>?_) fun h=>?_
 ·have:¬ (ag z.natAbs).length=0:=by have:=(bK z.natAbs).2 (by omega); omega
  have e:decide (((ag z.natAbs).length:Int)=0)=false:=by simp; intro h; rw [h] at this; exact this rfl
  refine zW (i9 hl g0 @b0 hn.lenV h e) ?_
  exact zK
 ·refine zW (aU hl g0 @b0 h) ?_
  exact zK
theorem kC {ty:Nat} {v:AV} {l:List Int} (hs:SlV intE ty H v l) {i:Nat} (hi:i<l.length):∃ w,cp H w (l[i]).natAbs/\cm H (some 2) (aV v (i*2))=some (.agg [.bool (decide (l[i]<0)),w])/\cm H none (aV v (i*2))=some (.bool (decide (l[i]<0)))/\cm H none (aV v (i*2+1))=some w:=by
 obtain ⟨cs,⟨w,rfl,hn⟩,-,h1,h2⟩:=hs.at (List.getElem?_eq_getElem hi)
 exact ⟨w,hn,h2,h1 0 _ rfl,h1 1 _ rfl⟩
theorem Cm {H1:Heap} {b ty:Nat} {x y:Int} {p q:AV} (hx:cp H p x.natAbs) (hy:cp H q y.natAbs) (hs:Sub H H1) (hg:H1.get b=some (.cells [.bool (decide (x<0)),p,.bool (decide (y<0)),q] ty true)):SlV intE ty H1 (.own b 0 2 2 2 true) [x,y] :=
 ⟨_,Rd.own hg rfl (Nat.le_refl _),fun _ _ _ _ _ _ e=>by cases e; exact ⟨_,_,hg⟩,rfl,fun i a hi=>by
  match i with
  | 0=>simp at hi; subst hi; exact ⟨p,rfl,hx.mono hs⟩
  | 1=>simp at hi; subst hi; exact ⟨q,rfl,hy.mono hs⟩
  | i+2=>simp at hi⟩
theorem fy (C:Code tab) (hw:Wf H) {v:AV} {ls:List Int} {ty:Nat} (hs:SlV intE ty H v ls) (hbig:ls.length<4611686018427387904) (hc:∀ z∈ls,fL z) :
  Ans tab (.fn fZ [v]) H fun v H'=>v=.int .i64 0/\Kp H H':=by
 refine eh C.whole_checked (by decide) fun T hl g0=>?_
 refine zW (aH hl g0 hs.lenV) ?_
 refine am H [] (fun _ _ _=>True) (a:=0) (N:=ls.length) rfl (by refine zW (az hl g0) ?_; rfl) (zV (az hl g0)) (Nat.zero_le _) (by omega) (by simp only [List.length_set,hl]; rfl) rfl (fun _ _ _ _ h=>h) zK trivial ?_ ?_
 ·intro j T1 H1 _ hj hl1 hi1 hs1 hk1 _
  have w1:=hk1.wf
  have le_hk1:=hk1.le
  have t6:af T1 6=v:=(hs1.at_ 6 (by decide)).trans (zV (az hl g0))
  obtain ⟨w,hn,hld,-,-⟩:=kC (hs.mono hk1.sub) hj
  have hix:fq 2 v (.int .i64 (j:Int))=some (aV v (j*2)):=SlV.idx hs .i64 j hj
  have hcc:=hc _ (List.getElem_mem hj)
  have ow:=hn.one
  simp only [List.length_set,hl] at hl1
  refine zW (dI hl1 t6 hi1 hix hld) ?_
  have hle:=hk1.le
  refine AnsH.eq (d9 C zF ⟨w,rfl,hn.mono (Kp.sub (H:=H1) zK)⟩ hcc) fun H2 hk2=>?_
  obtain ⟨k2,_,_⟩:=zT H zK hk2
  refine zW hl1 ?_
  exact zK
 ·intro T1 H1 hl1 hs1 hk1 _
  simp only [List.length_set,hl] at hl1
  refine zW hl1 ?_
  exact zK
theorem mg {w:AV} {n:Nat} (b:Bool) (h:cp H w n):IntV H (.agg [.bool (b && decide (0<(ag n).length)),w]) (if b then -(n:Int) else n):=by
 refine ⟨w,?_,?_⟩
 ·have:=bK n
  congr 3
  cases b
  ·simp
  ·simp only [Bool.true_and,if_true]
   by_cases h0:n=0
   ·simp [h0,cx]
   ·have h1:=this.2 h0
    simp [h1]; omega
 ·cases b
  ·simpa using h
  ·simpa using h
theorem whole_Neg (C:Code tab) (hw:Wf H) {v:AV} {z:Int} (hv:IntV H v z) (hz:fL z):Ans tab (.fn jh [v]) H fun v H'=>∃ r,v=.tup [r,.int .i64 0]/\IntV H' r (-z)/\Kp H H':=by
 obtain ⟨w,rfl,hn⟩:=hv
 have ow:=hn.one
 refine eh C.whole_Neg (by decide) fun T hl g0=>?_
 refine zW (az hl g0) ?_
 refine AnsH.eq (d9 C zF ⟨w,rfl,hn.mono (Kp.sub (H:=H) zK)⟩ hz) fun H2 hk2=>?_
 obtain ⟨k2,_,_⟩:=zT H zK hk2
 have b0:H2.get H.next=some (.cells [.bool (decide (z<0)),w] aa true):=hk2.get (d8)
 have b1:H2.get (H.next+1)=some (.cells [.bool false,.nilSl] aa true):=hk2.get (d8)
 refine zW (az hl g0) ?_
 refine aS ?_
 refine zD (aU hl g0 @b0 b1) ?_
 unfold fL Sm at hz
 have w2:=k2.wf
 refine AnsH.use (iB C zF (hn.mono (Kp.sub (H:=H) zK)) (by omega)) ?_
 rintro v3 H3 ⟨h3,hk3⟩
 obtain ⟨k3,_,w3⟩:=zT H zK hk3
 refine zD (aU hl g0 @b0 b1) ?_
 refine AnsH.use (whole_made C zF h3 _) ?_
 rintro v4 H4 ⟨rfl,hk4⟩
 obtain ⟨k4,_,_⟩:=zT H zK hk4
 have o3:=h3.one
 have c0:H3.get H.next=some (.cells [.bool (decide (z<0)),w] aa true):=hk3.get b0
 have d1:H4.get (H.next+1)=some (.cells [.bool false,.nilSl] aa true):=hk4.get (hk3.get b1)
 refine zD (i9 hl g0 @b0 b1 c0 d1) ?_
 have lt1:=k4.wf _ _ d1
 refine ⟨_,rfl,?_,zK⟩
 have hm:=mg (!decide (z<0)) ((h3.mono (Kp.sub (H:=H3) (Kp.trans zK hk4))).monoT (SubT.put_ty (e:=.cells [.bool (!decide (z<0) && decide (0<(ag z.natAbs).length)),v3] aa true) d1 (by decide)))
 have e:(if (!decide (z<0))=true then -((z.natAbs:Nat):Int) else ((z.natAbs:Nat):Int)) = -z:=by
  by_cases h:z<0 <;> simp [h] <;> omega
 rw [e] at hm
 exact hm
end
section
variable {tab:Nat->Option au} {H:Heap}
theorem GN (x y:Int):(decide (x<0) == decide (y<0))=decide ((x<0)=(y<0)):=by
 by_cases hx:x<0 <;> by_cases hy:y<0 <;> simp [hx,hy]
theorem whole_sum (C:Code tab) (hw:Wf H) {a b:AV} {x y:Int} (ha:IntV H a x) (hb:IntV H b y) (hx:fL x) (hy:fL y):Ans tab (.fn jg [a,b]) H fun v H'=>IntV H' v (x+y)/\Kp H H':=by
 obtain ⟨p,rfl,hp⟩:=ha
 obtain ⟨q,rfl,hq⟩:=hb
 have op:=hp.one
 have oq:=hq.one
 refine cC C.whole_sum (by decide) fun T hl g0 g1=>?_
 refine zW (aH hl g0 g1) ?_
 have fin:∀ (H3:Heap) (k3:Kp H H3) (bb:Bool) (o:AV) (n:Nat) (z:Int),H3.get (H.next+2)=some (.cells [.bool false,.nilSl] aa true)->Lb H3 o (ag n)->(if bb then -(n:Int) else n)=z ->
   IntV (H3.put (H.next+2) (.cells [.bool (bb && decide (0<(ag n).length)),o] aa true)) (.agg [.bool (bb && decide (0<(ag n).length)),o]) z/\Kp H (H3.put (H.next+2) (.cells [.bool (bb && decide (0<(ag n).length)),o] aa true)):=by
  intro H3 k3 bb o n z d1 ho hz
  have lt1:=k3.wf _ _ d1
  refine ⟨?_,zK⟩
  rw [<- hz]
  exact mg bb (ho.monoT (SubT.put_ty d1 (by decide)))
 refine iteH.split (fun h=>?_) fun h=>?_
 ·rw [GN] at h
  simp only [decide_eq_true_eq,eq_iff_iff] at h
  refine zW (aH hl g0 g1) ?_
  refine AnsH.use (nat_Add C zF (hp.mono (Kp.sub (H:=H) zK)) (hq.mono (Kp.sub (H:=H) zK)) hx hy) ?_
  rintro v H2 ⟨o,rfl,ho,hk2⟩
  obtain ⟨k2,_,w2⟩:=zT H zK hk2
  have b0:H2.get H.next=some (.cells [.bool (decide (x<0)),p] aa true):=hk2.get (d8)
  have b2:H2.get (H.next+2)=some (.cells [.bool false,.nilSl] aa true):=hk2.get (d8)
  refine zW (aU hl g0 g1 @b0) ?_
  refine AnsH.use (whole_made C zF (ho.mono (Kp.sub (H:=H2) zK)) _) ?_
  rintro v3 H3 ⟨rfl,hk3⟩
  obtain ⟨k3,_,_⟩:=zT H zK hk3
  have o3:=ho.one
  have d1:=hk3.get (b:=H.next+2) b2
  refine zW (aU hl g0 g1 d1) ?_
  refine fin H3 k3 _ _ _ _ d1 (ho.mono (Kp.sub (H:=H2) (Kp.trans zK hk3))) ?_
  by_cases h1:x<0 <;> simp [h1] <;> omega
 ·rw [GN] at h
  simp only [decide_eq_true_eq,eq_iff_iff] at h
  refine zW (aH hl g0 g1) ?_
  refine AnsH.use (nat_Sub C zF (hp.mono (Kp.sub (H:=H) zK)) (hq.mono (Kp.sub (H:=H) zK)) hx hy) ?_
  rintro v H2 ⟨hk2,hr⟩
  obtain ⟨k2,_,w2⟩:=zT H zK hk2
  have b0:H2.get H.next=some (.cells [.bool (decide (x<0)),p] aa true):=hk2.get (d8)
  have b1:H2.get (H.next+1)=some (.cells [.bool (decide (y<0)),q] aa true):=hk2.get (d8)
  have b2:H2.get (H.next+2)=some (.cells [.bool false,.nilSl] aa true):=hk2.get (d8)
  by_cases hle:y.natAbs<=x.natAbs
  ·rw [if_pos hle] at hr
   obtain ⟨o,rfl,ho⟩:=hr
   refine zW (aU hl g0 g1 @b0) ?_
   refine AnsH.use (whole_made C zF (ho.mono (Kp.sub (H:=H2) zK)) _) ?_
   rintro v3 H3 ⟨rfl,hk3⟩
   obtain ⟨k3,_,_⟩:=zT H zK hk3
   have o3:=ho.one
   have d1:=hk3.get (b:=H.next+2) b2
   refine zW (aU hl g0 g1 d1) ?_
   refine fin H3 k3 _ _ _ _ d1 (ho.mono (Kp.sub (H:=H2) (Kp.trans zK hk3))) ?_
   by_cases h1:x<0 <;> simp [h1] <;> omega
  ·rw [if_neg hle] at hr
   subst hr
   refine zW (dI hl g0 g1 @b0 b1) ?_
   refine AnsH.use (nat_Sub C zF (hq.mono (Kp.sub (H:=H) zK)) (hp.mono (Kp.sub (H:=H) zK)) hy hx) ?_
   rintro v H3 ⟨hk3,hr⟩
   rw [if_pos (by omega)] at hr
   obtain ⟨o,rfl,ho⟩:=hr
   obtain ⟨k3,_,w3⟩:=zT H zK hk3
   have c1:=hk3.get (b:=H.next+1) b1
   have c2:=hk3.get (b:=H.next+2) b2
   refine zW (aU hl g0 g1 @c1) ?_
   refine AnsH.use (whole_made C zF (ho.mono (Kp.sub (H:=H3) zK)) _) ?_
   rintro v4 H4 ⟨rfl,hk4⟩
   obtain ⟨k4,_,_⟩:=zT H zK hk4
   have o3:=ho.one
   have d1:=hk4.get (b:=H.next+2) c2
   refine zW (aU hl g0 g1 d1) ?_
   refine fin H4 k4 _ _ _ _ d1 (ho.mono (Kp.sub (H:=H3) (Kp.trans zK hk4))) ?_
   by_cases h1:y<0 <;> simp [h1] <;> omega
end
section
variable {tab:Nat->Option au} {H:Heap}
def iO (x:Int):Int:=if x<0 then -1 else if x=0 then 0 else 1
theorem whole_sign (C:Code tab) (hw:Wf H) {a:AV} {x:Int} (ha:IntV H a x):Ans tab (.fn gS [a]) H fun v H'=>v=.int .i64 (iO x)/\Kp H H':=by
 obtain ⟨p,rfl,hp⟩:=ha
 have op:=hp.one
 refine eh C.whole_sign (by decide) fun T hl g0=>?_
 have hlen:decide (((ag x.natAbs).length:Int)=0)=decide (x=0):=by
  have:=bK x.natAbs
  by_cases h:x=0
  ·subst h; simp [cx]
  ·have h1:=this.2 (by omega); simp [h]; intro h2; rw [h2] at h1; simp at h1
 refine zW (aU hl g0 hp.lenV hlen) ?_
 refine iteH.split (fun h=>?_) fun h=>?_
 ·have hx:x=0:=by
   by_cases h1:x=0
   ·exact h1
   ·simp [h1] at h
  subst hx
  refine zW (az hl g0) ?_
  exact ⟨rfl,zK⟩
 ·have hx:x≠0:=fun h1=>by subst h1; simp at h
  refine zW (az hl g0) ?_
  refine iteH.split (fun h=>?_) fun h=>?_
  ·refine zW (az hl g0) ?_
   exact ⟨by simp [iO,h],zK⟩
  ·refine zW (az hl g0) ?_
   exact ⟨by simp [iO,h,hx],zK⟩
theorem whole_Sign (C:Code tab) (hw:Wf H) {a:AV} {x:Int} (ha:IntV H a x) (hx:fL x):Ans tab (.fn gT [a]) H fun v H'=>v=.tup [.int .i64 (iO x),.int .i64 0]/\Kp H H':=by
 obtain ⟨p,rfl,hp⟩:=ha
 have op:=hp.one
 refine eh C.whole_Sign (by decide) fun T hl g0=>?_
 refine zW (az hl g0) ?_
 refine AnsH.eq (d9 C zF ⟨p,rfl,hp.mono (Kp.sub (H:=H) zK)⟩ hx) fun H2 hk2=>?_
 obtain ⟨k2,_,w2⟩:=zT H zK hk2
 have b0:=hk2.get (b:=H.next) (e:=.cells [.bool (decide (x<0)),p] aa true) (d8)
 refine zW (aH hl g0 @b0) ?_
 refine AnsH.eq (whole_sign C zF ⟨p,rfl,hp.mono (Kp.sub (H:=H) zK)⟩) fun H3 hk3=>?_
 obtain ⟨k3,_,_⟩:=zT H zK hk3
 refine zW (az hl g0) ?_
 exact zK
theorem whole_Add (C:Code tab) (hw:Wf H) {a b:AV} {x y:Int} (ha:IntV H a x) (hb:IntV H b y) (hx:fL x) (hy:fL y):Ans tab (.fn kS [a,b]) H fun v H'=>∃ r,v=.tup [r,.int .i64 0]/\IntV H' r (x+y)/\Kp H H':=by
 obtain ⟨p,rfl,hp⟩:=ha
 obtain ⟨q,rfl,hq⟩:=hb
 have op:=hp.one
 have oq:=hq.one
 refine cC C.whole_Add (by decide) fun T hl g0 g1=>?_
 refine zW (aH hl g0 g1) ?_
 refine AnsH.eq (fy C zF (Cm (x:=x) (y:=y) (H:=H) hp hq (Kp.sub (H:=H) zK) (by refine sX ?_; rfl)) (by simp) fun z hz=>?_) fun H2 hk2=>?_
 ·simp at hz; rcases hz with rfl | rfl <;> assumption
 obtain ⟨k2,_,w2⟩:=zT H zK hk2
 have b0:=hk2.get (b:=H.next) (e:=.cells [.bool (decide (x<0)),p] aa true) (d8)
 have b1:=hk2.get (b:=H.next+1) (e:=.cells [.bool (decide (y<0)),q] aa true) (d8)
 have b2:=hk2.get (b:=H.next+2) (e:=.cells [.bool false,.nilSl] aa true) (d8)
 refine zW (dI hl g0 g1 @b0 b1) ?_
 refine AnsH.use (whole_sum C zF ⟨p,rfl,hp.mono (Kp.sub (H:=H) zK)⟩ ⟨q,rfl,hq.mono (Kp.sub (H:=H) zK)⟩ hx hy) ?_
 rintro v H3 ⟨⟨r,rfl,hr⟩,hk3⟩
 obtain ⟨k3,_,_⟩:=zT H zK hk3
 have o3:=hr.one
 have d2:=hk3.get (b:=H.next+2) b2
 have lt2:=k3.wf _ _ d2
 refine zW (aU hl g0 g1 d2) ?_
 exact ⟨_,rfl,⟨r,rfl,hr.monoT (SubT.put_ty d2 (by decide))⟩,zK⟩
theorem whole_Sub (C:Code tab) (hw:Wf H) {a b:AV} {x y:Int} (ha:IntV H a x) (hb:IntV H b y) (hx:fL x) (hy:fL y):Ans tab (.fn kP [a,b]) H fun v H'=>∃ r,v=.tup [r,.int .i64 0]/\IntV H' r (x-y)/\Kp H H':=by
 obtain ⟨p,rfl,hp⟩:=ha
 obtain ⟨q,rfl,hq⟩:=hb
 have op:=hp.one
 have oq:=hq.one
 refine cC C.whole_Sub (by decide) fun T hl g0 g1=>?_
 refine zW (aH hl g0 g1) ?_
 refine AnsH.eq (fy C zF (Cm (x:=x) (y:=y) (H:=H) hp hq (Kp.sub (H:=H) zK) (by refine sX ?_; rfl)) (by simp) fun z hz=>?_) fun H2 hk2=>?_
 ·simp at hz; rcases hz with rfl | rfl <;> assumption
 obtain ⟨k2,_,w2⟩:=zT H zK hk2
 have b0:=hk2.get (b:=H.next) (e:=.cells [.bool (decide (x<0)),p] aa true) (d8)
 have b1:=hk2.get (b:=H.next+1) (e:=.cells [.bool (decide (y<0)),q] aa true) (d8)
 have b2:=hk2.get (b:=H.next+2) (e:=.cells [.bool false,.nilSl] aa true) (d8)
 refine zW (aH hl g0 g1) ?_
 refine aS ?_
 refine zD (dI hl g0 g1 @b0 b1) ?_
 refine AnsH.use (whole_made C zF (hq.mono (Kp.sub (H:=H) zK)) _) ?_
 rintro v3 H3 ⟨rfl,hk3⟩
 obtain ⟨k3,_,w3⟩:=zT H zK hk3
 have hm:=mg (!decide (y<0)) (hq.mono k3.sub)
 have e:(if (!decide (y<0))=true then -((y.natAbs:Nat):Int) else ((y.natAbs:Nat):Int)) = -y:=by
  by_cases h:y<0 <;> simp [h] <;> omega
 rw [e] at hm
 have hny:fL (-y):=by unfold fL at *; rwa [Int.natAbs_neg]
 refine zD (dI hl g0 g1 @b0 b1) ?_
 refine AnsH.use (whole_sum C zF ⟨p,rfl,hp.mono (Kp.sub (H:=H) zK)⟩ hm hx hny) ?_
 rintro v H4 ⟨⟨r,rfl,hr⟩,hk4⟩
 obtain ⟨k4,_,_⟩:=zT H zK hk4
 have o3:=hr.one
 have c0:=hk3.get (b:=H.next) b0
 have d2:=hk4.get (b:=H.next+2) (hk3.get (b:=H.next+2) b2)
 have lt2:=k4.wf _ _ d2
 refine zD (mr hl g0 g1 @b0 b1 c0 d2) ?_
 refine ⟨_,rfl,⟨r,?_,hr.monoT (SubT.put_ty d2 (by decide))⟩,zK⟩
 rw [Int.sub_eq_add_neg]
end
section
variable {tab:Nat->Option au} {H:Heap}
theorem Gl (x y:Nat) (hx:x<B) (hy:y<B) :
  ((x / 4294967296*(y / 4294967296) % B+((x / 4294967296*(y % 4294967296) % B+(x % 4294967296*(y % 4294967296) % B) / 4294967296) % B) / 4294967296) % B+((((x / 4294967296*(y % 4294967296) % B+(x % 4294967296*(y % 4294967296) % B) / 4294967296) % B) % 4294967296+x % 4294967296*(y / 4294967296) % B) % B) / 4294967296) % B=x*y / B:=by
 have e:x*y=(x / 4294967296*4294967296+x % 4294967296)*(y / 4294967296*4294967296+y % 4294967296):=by
  rw [Nat.div_add_mod',Nat.div_add_mod']
 have h1:x / 4294967296<4294967296:=by unfold B at hx; omega
 have h2:y / 4294967296<4294967296:=by unfold B at hy; omega
 have h3:x % 4294967296<4294967296:=by omega
 have h4:y % 4294967296<4294967296:=by omega
 generalize x / 4294967296=x1 at *
 generalize y / 4294967296=y1 at *
 generalize x % 4294967296=x0 at *
 generalize y % 4294967296=y0 at *
 have b1:x1*y1<=4294967295*4294967295:=Nat.mul_le_mul (by omega) (by omega)
 have b2:x1*y0<=4294967295*4294967295:=Nat.mul_le_mul (by omega) (by omega)
 have b3:x0*y1<=4294967295*4294967295:=Nat.mul_le_mul (by omega) (by omega)
 have b4:x0*y0<=4294967295*4294967295:=Nat.mul_le_mul (by omega) (by omega)
 have e2:x*y=x1*y1*18446744073709551616+(x1*y0)*4294967296+(x0*y1)*4294967296+x0*y0:=by rw [e]; grind
 rw [e2]
 clear e e2 hx hy h1 h2 h3 h4
 generalize x1*y1=p at *
 generalize x1*y0=q at *
 generalize x0*y1=r at *
 generalize x0*y0=t at *
 simp only [B]
 omega
theorem mT (C:Code tab) (hw:Wf H) {x y:Nat} (hx:x<B) (hy:y<B):Ans tab (.fn eR [.int .u64 (x:Nat),.int .u64 (y:Nat)]) H fun v H'=>v=.tup [.int .u64 ((x*y / B:Nat):Int),.int .u64 ((x*y % B:Nat):Int)]/\Kp H H':=by
 refine cC C.math_bits_Mul64 (by decide) fun T hl g0 g1=>?_
 have e:=Gl x y hx hy
 simp only [B] at e
 refine zW (aU hl g0 g1 e) ?_
 exact zK
end
end Go.Proofs.YtichbdepocojaaaGreat.Ev
