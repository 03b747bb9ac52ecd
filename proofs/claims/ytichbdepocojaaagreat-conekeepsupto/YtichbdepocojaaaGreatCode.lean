/- A part. -/
import Derived.Test.YtichbdepocojaaaGreatKit
namespace Go.Proofs.YtichbdepocojaaaGreat.Ev
open Go
set_option linter.all false
set_option maxRecDepth 100000
abbrev fP:Nat:=3
abbrev fm:Nat:=4
abbrev dw:Nat:=5
abbrev fY:Nat:=6
abbrev cY:Nat:=7
abbrev cX:Nat:=8
abbrev dQ:Nat:=9
abbrev dD:Nat:=10
abbrev ml:Nat:=11
abbrev eJ:Nat:=13
abbrev eG:Nat:=12
abbrev ib:Nat:=14
abbrev fp:Nat:=15
abbrev fW:Nat:=16
abbrev mM:Nat:=17
abbrev mN:Nat:=18
abbrev mj:Nat:=19
abbrev fl:Nat:=20
abbrev nT:Nat:=22
abbrev bW:Nat:=21
abbrev bN:Nat:=23
abbrev cV:Nat:=24
abbrev fo:Nat:=25
abbrev jt:Nat:=26
abbrev mS:Nat:=27
abbrev cu:Nat:=28
abbrev ca:Nat:=29
abbrev fq:Nat:=30
abbrev dE:Nat:=31
abbrev iX:Nat:=32
abbrev jK:Nat:=34
abbrev iL:Nat:=33
abbrev mm:Nat:=40
abbrev dO:Nat:=39
abbrev dZ:Nat:=36
abbrev gY:Nat:=37
abbrev ia:Nat:=41
abbrev h9:Nat:=42
abbrev g9:Nat:=43
abbrev fV:Nat:=45
abbrev dx:Nat:=46
abbrev kC:Nat:=44
abbrev aP:Nat:=47
abbrev iY:Nat:=48
abbrev aF:Nat:=49
abbrev fJ:Nat:=50
abbrev az:Nat:=51
abbrev jJ:Nat:=52
abbrev cA:Nat:=54
abbrev dI:Nat:=56
abbrev aO:Nat:=55
abbrev eK:Nat:=59
abbrev eh:Nat:=60
abbrev dF:Nat:=63
abbrev fj:Nat:=64
abbrev jZ:Nat:=35
abbrev kD:Nat:=68
abbrev gN:Nat:=66
abbrev d8:Nat:=38
abbrev gr:Nat:=69
abbrev gq:Nat:=70
abbrev aL:Nat:=71
abbrev dR:Nat:=74
abbrev gM:Nat:=75
abbrev fK:Nat:=77
abbrev fk:Nat:=76
abbrev iZ:Nat:=72
abbrev bj:Nat:=78
abbrev cm:Nat:=79
abbrev kZ:Nat:=53
abbrev cW:Nat:=82
abbrev iN:Nat:=58
abbrev de:Nat:=57
abbrev cS:Nat:=85
abbrev js:Nat:=86
abbrev gD:Nat:=88
abbrev iM:Nat:=87
abbrev bo:Nat:=90
abbrev bk:Nat:=89
abbrev dG:Nat:=101
abbrev g8:Nat:=102
abbrev lc:Nat:=65
abbrev aU:Nat:=106
abbrev kY:Nat:=67
abbrev jc:Nat:=107
abbrev bi:Nat:=108
abbrev i8:Nat:=109
abbrev gZ:Nat:=110
abbrev i9:Nat:=114
abbrev jp:Nat:=112
abbrev mi:Nat:=113
abbrev aC:Nat:=73
abbrev kX:Nat:=80
abbrev gW:Nat:=81
abbrev j8:Nat:=84
abbrev gX:Nat:=83
abbrev lf:Nat:=115
abbrev mR:Nat:=116
abbrev gn:Nat:=103
abbrev jm:Nat:=104
abbrev oS:Nat:=105
abbrev oU:Nat:=128
abbrev iW:Nat:=111
abbrev dm:Nat:=131
abbrev jI:Nat:=130
abbrev mo:Nat:=122
abbrev j9:Nat:=123
abbrev cR:Nat:=125
abbrev jd:Nat:=124
abbrev je:Nat:=143
abbrev mp:Nat:=144
abbrev fI:Nat:=129
abbrev fX:Nat:=133
abbrev hZ:Nat:=134
abbrev cz:Nat:=135
abbrev cN:Nat:=136
abbrev jL:Nat:=137
abbrev jr:Nat:=138
abbrev ka:Nat:=140
abbrev mP:Nat:=139
abbrev nV:Nat:=141
abbrev jf:Nat:=149
abbrev mQ:Nat:=150
abbrev bM:Nat:=151
abbrev nU:Nat:=152
abbrev dH:Nat:=153
abbrev dS:Nat:=154
abbrev dU:Nat:=155
abbrev gC:Nat:=157
abbrev mO:Nat:=156
abbrev lg:Nat:=145
abbrev eW:Nat:=146
abbrev kE:Nat:=147
abbrev bC:Nat:=159
abbrev dP:Nat:=160
abbrev eY:Nat:=100
abbrev jq:Nat:=161
abbrev eD:Nat:=158
abbrev aK:Nat:=162
abbrev dK:Nat:=3
abbrev qp:Nat:=22
abbrev ae:Nat:=30
abbrev cI:Nat:=34
abbrev ai:Nat:=35
abbrev aa:Nat:=37
abbrev aE:Nat:=58
abbrev ad:Nat:=69
abbrev db:Nat:=84
abbrev gU:Nat:=119
abbrev FY:Nat:=143
abbrev aj:Nat:=166
abbrev dX:Nat:=189
abbrev sR (l:List cC) (c:ACode):ACode:=.seq (.region l) c
abbrev cT (t:Nat) (a b:ACode):ACode:=.cond (.t t) a b
abbrev rM (d s:Nat):cC:=⟨some d,.mv (.t s),none⟩
abbrev rC (d:Nat) (v:AV):cC:=⟨some d,.mv (.c v),none⟩
abbrev rR (d:Nat) (o:AOp):cC:=⟨some d,o,none⟩
abbrev rN (o:AOp):cC:=⟨none,o,none⟩
abbrev rG (d:Nat) (o:AOp) (g:Nat) (b:Bool):cC:=⟨some d,o,some (g,b)⟩
abbrev rF (f:Nat) (l:List Src):AOp:=.call (.c (.fn (.func f) [] [])) l
abbrev rI (n:Int):Src:=.c (.int .i64 n)
abbrev rQ (d:Nat) (o:AOp) (u:List (Nat × Option Nat)) (c:Nat):e9:=⟨some d,o,none,u,c,[(0,[])]⟩
abbrev v0 (a b c:Nat):cC:=rR a (.extract b (.t c))
abbrev v1 (a:Nat):cC:=rR a (.mv (rI 0))
abbrev v2 (a b:Nat):cC:=rR a (.load none (.t b))
abbrev v3 (a b:Nat):cC:=rR a (.len (.t b))
abbrev v4 (a b c:Nat):e9:=rQ a (.mv (.t b)) [(c,none)] 0
abbrev v5 (a:Nat):cC:=rC a .nilSl
abbrev v6 (a b c:Nat):cC:=rR a (.fieldAddr b (.t c))
abbrev v7 (a b:Nat):cC:=rR a (.load (some 2) (.t b))
abbrev v8 (a:Nat):cC:=rC a (.bool false)
abbrev v9 (a b:Nat):cC:=rR a (.bin .neq .int (.t b) (rI 0))
abbrev fe (a b c:Nat):cC:=rR a (.indexAddr 1 (.t b) (.t c))
abbrev kQ (a b c:Nat):cC:=rG a (.mv (.t b)) c true
abbrev km (a b:Nat):cC:=rN (.store 2 (.t a) (.t b))
abbrev kR (a b c:Nat):cC:=rG a (.mv (.t b)) c false
abbrev lU (a b:Nat):cC:=rR a (.box aa (.t b))
abbrev lH (a b c d:Nat):e9:=rQ a (.load none (.t b)) [(c,some d)] 0
abbrev mI (a:Nat):cC:=rR a (.alloc aa [(.bool false),.nilSl])
abbrev mG (a b c:Nat):cC:=rR a (.pick (.t b) (.c (.bool true)) (.t c))
abbrev nJ (a b:Nat):cC:=rR a (.nilCheck (.t b))
abbrev rj (a b c:Nat):cC:=rR a (.pick (.t b) (.t c) (.c (.bool false)))
abbrev ri (a b c d e f g:Nat):e9:=rQ a (.indexAddr 1 (.t b) (.t c)) [(d,some e),(f,some g)] 0
abbrev tN (a b c:Nat):cC:=rR a (.bin .add .int (.t b) (.t c))
abbrev tM (a b:Nat):cC:=rR a (.bin .add .int (.t b) (rI 1))
abbrev yN (a b c:Nat):cC:=rR a (.bin .lss .int (.t b) (.t c))
abbrev yW (a b c:Nat):cC:=rR a (.indexAddr 2 (.t b) (.t c))
abbrev yV (a:Nat):cC:=rC a (.bool true)
abbrev AS (a b:Nat):cC:=rR a (.bin .gtr .int (.t b) (rI 0))
abbrev AR (a b:Nat):cC:=rN (.store 1 (.t a) (.t b))
abbrev yU (a:Nat):cC:=rC a (.int .u64 0)
abbrev Dl (a b:Nat):cC:=rR a (.bin .eql .int (.t b) (rI 0))
abbrev Dk (a b:Nat):cC:=rR a (.buildSlice ae 1 [.nilSl] 1 [((0,1),(.t b))])
abbrev Dj (a b c:Nat):cC:=rR a (.append 1 24 ae [.nilSl] (.t b) (.t c))
abbrev Di (a b c:Nat):cC:=rG a (.load none (.t b)) c true
abbrev FG (a b c:Nat):cC:=rG a (.len (.t b)) c true
abbrev FF (a b:Nat):cC:=rR a (.bin .sub .int (.t b) (rI 1))
abbrev FE (a b c d:Nat):e9:=rQ a (.nilCheck (.t b)) [(c,some d)] 0
abbrev FD (a b c d e:Nat):e9:=rQ a (.fieldAddr b (.t c)) [(d,some e)] 0
abbrev HB (a b:Nat):cC:=rR a (.un .not (.t b))
abbrev Hz (a b c d:Nat):e9:=rQ a (.mv (.t b)) [(c,some d)] 0
abbrev Hy (a b c:Nat):cC:=rG a (.un .not (.t b)) c false
abbrev Dh (a b c:Nat):cC:=rR a (.bin .neq .int (.t b) (.t c))
abbrev Io (a:Nat):cC:=rR a (.mv (rI 8))
abbrev In (a b c:Nat):cC:=rR a (.bin .mul .int (.t b) (.t c))
abbrev JB (a b c d:Nat):cC:=rR a (rF dQ [.t b,.t c,.t d])
abbrev JA (a b:Nat):cC:=rR a (.bin .shr .int (.t b) (.c (.int .u64 32)))
abbrev Jz (a b c d:Nat):cC:=rG a (rF dD [.t b,.t c]) d true
abbrev Jy (a b:Nat):cC:=rR a (.bin .geq .int (.t b) (rI 0))
abbrev Kk (a b c:Nat):cC:=rR a (.buildSlice ae 1 [.nilSl,.nilSl] 2 [((0,1),(.t b)),((1,1),(.t c))])
abbrev Kj (a:Nat):cC:=rR a (.mv (rI 70))
abbrev Ki (a b:Nat):cC:=rR a (rF gN [.t b])
abbrev Kh (a b c:Nat):cC:=rG a (.bin .neq .int (.t b) (rI 0)) c false
abbrev LG (a b:Nat):cC:=rR a (rF iX [.t b])
abbrev LF (a b:Nat):cC:=rR a (rF g9 [.t b])
abbrev Kg (a b c d e f g:Nat):e9:=rQ a (.indexAddr 2 (.t b) (.t c)) [(d,some e),(f,some g)] 0
abbrev LE (a b c d:Nat):e9:=rQ a (.load (some 2) (.t b)) [(c,some d)] 0
abbrev Kf (a b c:Nat):e9:=rQ a (.load (some 2) (.t b)) [(c,none)] 0
abbrev LD (a b c d:Nat):cC:=rR a (.call (.t b) [.t c,.t d])
abbrev LC (a b c d:Nat):cC:=rG a (.fieldAddr b (.t c)) d true
abbrev LB (a b c:Nat):cC:=rR a (.mksl ad 1 8 [(.int .u64 0)] (.t b) (.t c))
abbrev LA (a:Nat):cC:=rR a (.build [(.bool false),.nilSl] [])
abbrev Lz (a b c:Nat):cC:=rR a (.buildSlice ai 1 [.nilSl,.nilSl] 2 [((0,1),(.t b)),((1,1),(.t c))])
abbrev Ly (a b c:Nat):cC:=rR a (.bin .sub .int (.t b) (.t c))
abbrev Md (a b c:Nat):cC:=rG a (.len (.t b)) c false
abbrev Mc (a b c d:Nat):e9:=rQ a (.len (.t b)) [(c,some d)] 0
abbrev Mb (a b c d e f g:Nat):e9:=rQ a (.bin .rem .int (.t b) (.t c)) [(d,some e),(f,some g)] 0
abbrev Ma (a b:Nat):cC:=rR a (.indexAddr 1 (.t b) (rI 0))
abbrev Lx (a b:Nat):cC:=rR a (rF nT [.t b])
abbrev L9 (a b:Nat):cC:=rR a (.box ae (.t b))
abbrev L8 (a b:Nat):cC:=rR a (.bin .lss .int (.t b) (rI 0))
abbrev L7 (a:Nat):cC:=rR a (.mv (rI (-1)))
abbrev Lw (a b c:Nat):e9:=rQ a (.load none (.t b)) [(c,none)] 0
abbrev L6 (a b:Nat):cC:=rR a (rF kD [.t b])
abbrev L5 (a b c:Nat):cC:=rR a (rF iN [.t b,.t c])
abbrev L4 (a b c d:Nat):cC:=rG a (.indexAddr 1 (.t b) (.t c)) d true
abbrev L3 (a b:Nat):cC:=rR a (.bin .quo .int (.t b) (rI 64))
abbrev LZ (a b:Nat):cC:=rR a (rF dZ [.t b])
abbrev Lv (a b c:Nat):cC:=rR a (rF dO [.t b,.t c])
abbrev Lu (a b:Nat):cC:=rR a (.bin .sub .int (.t b) (.c (.int .u64 1)))
abbrev LY (a b c:Nat):cC:=rR a (rF eW [.t b,.t c])
abbrev LX (a b c:Nat):cC:=rR a (rF cz [.t b,.t c,(.c (.int .u64 0))])
abbrev LW (a b:Nat):cC:=rR a (.bin .eql .int (.t b) (.c (.int .u64 0)))
abbrev LU (a b c d e f g:Nat):e9:=rQ a (.bin .add .int (.t b) (.t c)) [(d,some e),(f,some g)] 0
abbrev LT (a b:Nat):cC:=rR a (.bin .and .int (.t b) (.c (.int .u64 4294967295)))
abbrev LS (a b:Nat):cC:=rR a (.bin .geq .int (.t b) (.c (.int .u64 4294967296)))
abbrev M4 (a:Nat):cC:=rR a (rF cY [])
abbrev M3 (a b c d:Nat):cC:=rR a (rF cX [.t b,.t c,.t d])
abbrev M2 (a b c d:Nat):e9:=rQ a (.conv .i64 (.t b)) [(c,some d)] 0
abbrev M0 (a b c d:Nat):cC:=rR a (rF ib [.t b,.t c,.t d])
abbrev MZ (a b c:Nat):cC:=rG a (.load none (.t b)) c false
abbrev MY (a b c d:Nat):cC:=rG a (.bin .neq .int (.t b) (.t c)) d true
abbrev MX (a b c:Nat):cC:=rR a (rF iL [.t b,.t c])
abbrev MW (a b c:Nat):cC:=rG a (.bin .sub .int (.t b) (rI 1)) c true
abbrev MV (a b c:Nat):cC:=rG a (.bin .eql .int (.t b) (.c (.int .u64 0))) c true
abbrev MU (a b c d:Nat):e9:=rQ a (.fieldAddr b (.t c)) [(d,none)] 0
abbrev MT (a b c:Nat):cC:=rR a (.buildSlice aa 2 [(.bool false),.nilSl,(.bool false),.nilSl] 2 [((0,2),(.t b)),((2,2),(.t c))])
abbrev MS (a b:Nat):cC:=rR a (rF gn [.t b])
abbrev MR (a b c:Nat):cC:=rR a (.append 1 8 ad [(.int .u64 0)] (.t b) (.t c))
abbrev M9 (a b c:Nat):cC:=rG a (.bin .eql .int (.t b) (rI 0)) c true
abbrev M8 (a b c:Nat):cC:=rR a (.slice 1 (.t b) none (some (.t c)) none)
abbrev M7 (a b:Nat):cC:=rG a (rF bN [rI 1,rI 0]) b true
abbrev Ku (a b c:Nat):cC:=rR a (.mksl aa 2 32 [(.bool false),.nilSl] (.t b) (.t c))
abbrev Kt (a b c:Nat):cC:=rR a (.build [.nilSl,.nilSl] [((0,1),(.t b)),((1,1),(.t c))])
abbrev Ks (a b c d e f g:Nat):e9:=rQ a (.pick (.t b) (.t c) (.c (.bool false))) [(d,some e),(f,some g)] 0
abbrev Kr (a b:Nat):cC:=rR a (.buildSlice ad 1 [(.int .u64 0)] 1 [((0,1),(.t b))])
abbrev Kq (a b c d:Nat):cC:=rG a (.pick (.t b) (.t c) (.c (.bool false))) d false
abbrev Ko (a b c d e f g:Nat):e9:=rQ a (.bin .neq .int (.t b) (.t c)) [(d,some e),(f,some g)] 0
abbrev Kn (a b:Nat):cC:=rR a (.bin .gtr .int (.t b) (.c (.int .u64 0)))
abbrev Km (a b c d:Nat):cC:=rR a (rF cR [.t b,.t c,.t d])
abbrev Kl (a b:Nat):cC:=rR a (.bin .mul .int (.t b) (.c (.int .u64 4294967296)))
abbrev Mg (a:Nat):cC:=rR a (.buildSlice dK 1 [(.int .i64 0),(.int .i64 0)] 2 [((0,1),(rI 1)),((1,1),(rI 0))])
abbrev Mf (a:Nat):cC:=rR a (.buildSlice dK 1 [(.int .i64 0),(.int .i64 0)] 2 [((0,1),(rI 0)),((1,1),(rI 1))])
abbrev Me (a b c:Nat):cC:=rR a (.buildSlice qp 1 [.nilSl,.nilSl] 2 [((0,1),(.t b)),((1,1),(.t c))])
def fQ:aq:=⟨3,85,[(6,none)],sR [v8 6]<|sR [M4 17,rM 7 17] <|.seq (sR [rM 18 0,rM 19 1,rM 20 2,M3 21 18 19 20,rM 22 21,kR 23 7 22,Hy 24 23 22,mG 25 22 24]<|cT 25 (sR [rM 26 7,rM 6 26] <|.ret) .skip)<|sR [rM 28 0,rM 29 1,rM 30 2,JB 31 28 29 30,rM 27 31,v0 32 0 27,v0 33 1 27,v0 34 2 27,rM 8 32,rM 9 33,rM 10 34] <|.seq (sR [rM 35 10,v9 36 35]<|cT 36 (sR [rM 37 8,v3 38 37,Dl 39 38,rM 40 39,kQ 41 9 40,FG 42 41 40,M9 43 42 40,rj 44 40 43,rM 6 44] <|.ret) .skip) <|.seq (sR [rM 45 9,v3 46 45,rR 47 (.bin .gtr .int (.t 46) (rI 20))]<|cT 47 (sR [yV 6] <|.ret) .skip)<|sR [rM 49 0,rM 50 8,rM 51 9,JB 52 49 50 51,rM 48 52,v0 53 0 48,v0 54 1 48,v0 55 2 48,rM 11 53,rM 12 54,rM 13 55] <|.seq (sR [rM 56 13,v9 57 56,rM 58 57,kR 59 12 58,Md 60 59 58,rG 61 (.bin .gtr .int (.t 60) (rI 20)) 58 false,mG 62 58 61]<|cT 62 (sR [rM 63 13,Dl 64 63,rM 6 64] <|.ret) .skip)<|sR [rM 66 0,rM 67 11,rM 68 12,JB 69 66 67 68,rM 65 69,v0 70 0 65,v0 71 1 65,v0 72 2 65,rM 14 70,rM 15 71,rM 16 72]<|sR [rM 73 16,Dl 74 73,rM 75 74,kQ 76 8 75,kQ 77 14 75,Jz 78 76 77 75,rj 79 75 78,rM 80 79,kQ 81 9 80,kQ 82 15 80,Jz 83 81 82 80,rj 84 80 83,rM 6 84] <|.ret,none⟩
def fy:aq:=⟨5,129,[(10,none)],sR [v8 10]<|sR [M4 25,rM 11 25] <|.seq (sR [rM 26 0,rM 27 1,rM 28 2,M3 29 26 27 28,rM 30 29,kR 31 11 30,Hy 32 31 30,mG 33 30 32]<|cT 33 (sR [rM 34 11,rM 10 34] <|.ret) .skip)<|sR [rM 36 0,rM 37 1,rM 38 2,JB 39 36 37 38,rM 35 39,v0 40 0 35,v0 41 1 35,v0 42 2 35,rM 12 40,rM 13 41,rM 14 42] <|.seq (sR [rM 43 14,v9 44 43]<|cT 44 (sR [yV 10] <|.ret) .skip)<|sR [v5 15] <|.seq (sR [rM 45 2,v3 46 45,FF 47 46,rM 16 47]<|ir 0 (.seq (sR [rM 48 16,Jy 49 48]<|cT 49 .skip (.exit 0)) <|.seq (.block 1 (.region [rM 52 15,rM 53 2,rM 54 16,fe 55 53 54,v2 56 55,Dk 57 56,Dj 58 52 57,rM 15 58])) <|.region [rM 50 16,FF 51 50,rM 16 51])) <|.seq (sR [rM 59 2,v3 60 59,AS 61 60]<|cT 61 (.seq (.draw [v4 63 2 2,v4 64 3 3,M2 65 64 64 1,v4 66 2 2,Mc 67 66 66 3,Mb 68 65 67 65 2 67 4,ri 69 63 68 63 0 68 5,lH 70 69 69 6,v4 71 2 2,v4 72 4 4,M2 73 72 72 9,v4 74 2 2,Mc 75 74 74 11,Mb 76 73 75 73 10 75 12,ri 77 71 76 71 8 76 13,lH 78 77 77 14,rQ 79 (rF ml [.t 70,.t 78]) [(70,some 7),(78,some 15)] 2,⟨some 62,.mv (.t 79),none,[(79,some 16)],0,[(1,[])]⟩,⟨some 80,.extract 0 (.t 62),none,[(62,some 17)],0,[(1,[])]⟩,⟨some 81,.extract 1 (.t 62),none,[(62,some 17)],0,[(1,[])]⟩,⟨some 17,.mv (.t 80),none,[(80,some 18)],0,[(1,[])]⟩,⟨some 18,.mv (.t 81),none,[(81,some 19)],0,[(1,[])]⟩] []) <|.seq (sR [rM 82 18,v9 83 82]<|cT 83 (sR [v8 10] <|.ret) .skip) <|.region [rM 84 15,rM 85 17,Dk 86 85,Dj 87 84 86,rM 15 87]) .skip)<|sR [rM 88 1,rM 19 88] <|.seq (sR [rM 89 1,v3 90 89,AS 91 90]<|cT 91 (.seq (.draw [⟨some 93,.mv (.t 1),none,[(1,none)],0,[(0,[]),(1,[])]⟩,⟨some 94,.indexAddr 1 (.t 93) (rI 0),none,[(93,some 0)],0,[(0,[]),(1,[])]⟩,⟨some 95,.load none (.t 94),none,[(94,some 1)],0,[(0,[]),(1,[])]⟩,rQ 96 (rF eJ [rI (-1)]) [] 2,⟨some 97,rF eG [.t 95,.t 96],none,[(95,some 2),(96,some 3)],2,[(1,[])]⟩,⟨some 92,.mv (.t 97),none,[(97,some 4)],0,[(2,[])]⟩,⟨some 98,.extract 0 (.t 92),none,[(92,some 5)],0,[(2,[])]⟩,⟨some 99,.extract 1 (.t 92),none,[(92,some 5)],0,[(2,[])]⟩,⟨some 20,.mv (.t 98),none,[(98,some 6)],0,[(2,[])]⟩,⟨some 21,.mv (.t 99),none,[(99,some 7)],0,[(2,[])]⟩] [])<|sR [rM 100 15,rM 101 1,Ma 102 101,v2 103 102,rM 104 20,Kk 105 103 104,Dj 106 100 105,rM 15 106] <|.region [rM 107 1,rR 108 (.slice 1 (.t 107) (some (rI 1)) none none),rM 19 108]) .skip)<|sR [rM 110 0,rM 111 19,rM 112 15,JB 113 110 111 112,rM 109 113,v0 114 0 109,v0 115 1 109,v0 116 2 109,rM 22 114,rM 23 115,rM 24 116]<|sR [rM 117 24,Dl 118 117,rM 119 118,kQ 120 22 119,kQ 121 12 119,Jz 122 120 121 119,rj 123 119 122,rM 124 123,kQ 125 23 124,kQ 126 13 124,Jz 127 125 126 124,rj 128 124 127,rM 10 128] <|.ret,none⟩
def c_facetroomlaw20_ConeKeeps:aq:=⟨6,197,[(12,none)],sR [v8 12]<|sR [M4 36,rM 13 36] <|.seq (sR [rM 37 0,rM 38 1,rM 39 2,M3 40 37 38 39,rM 41 40,kR 42 13 41,Hy 43 42 41,mG 44 41 43]<|cT 44 (sR [rM 45 13,rM 12 45] <|.ret) .skip)<|sR [rM 47 0,rM 48 1,rM 49 2,JB 50 47 48 49,rM 46 50,v0 51 0 46,v0 52 1 46,v0 53 2 46,rM 14 51,rM 15 52,rM 16 53] <|.seq (sR [rM 54 16,v9 55 54,rM 56 55,kR 57 15 56,Md 58 57 56,rG 59 (.bin .gtr .int (.t 58) (rI 20)) 56 false,mG 60 56 59]<|cT 60 (sR [yV 12] <|.ret) .skip)<|sR [rR 61 (.buildSlice ae 1 [] 0 []),rM 62 14,Dj 63 61 62,rM 64 15,Dj 65 63 64,rM 17 65] <|.seq (sR [v1 18]<|ir 0 (.seq (sR [rM 66 18,rM 67 17,v3 68 67,yN 69 66 68]<|cT 69 .skip (.exit 0)) <|.seq (.block 1 (sR [rM 73 17,rM 74 18,fe 75 73 74,v2 76 75,rM 77 1,rM 78 2,M0 79 76 77 78,rM 72 79,v0 80 0 72,v0 81 1 72,rM 19 80,rM 20 81]<|sR [rM 82 20,v9 83 82,rM 84 83,kR 85 19 84,Hy 86 85 84,mG 87 84 86]<|cT 87 (sR [v8 12] <|.ret) .skip)) <|.region [rM 70 18,tM 71 70,rM 18 71])) <|.seq (sR [v1 21]<|ir 2 (.seq (sR [rM 88 21,rM 89 14,v3 90 89,yN 91 88 90]<|cT 91 .skip (.exit 2)) <|.seq (.block 3 (.seq (.draw [⟨some 95,.mv (.t 14),none,[(14,none)],0,[(0,[]),(1,[])]⟩,⟨some 96,.mv (.t 21),none,[(21,none)],0,[(0,[]),(1,[])]⟩,⟨some 97,.indexAddr 1 (.t 95) (.t 96),none,[(95,some 0),(96,some 1)],0,[(0,[]),(1,[])]⟩,⟨some 98,.load none (.t 97),none,[(97,some 2)],0,[(0,[]),(1,[])]⟩,rQ 99 (rF eJ [rI (-1)]) [] 2,⟨some 100,rF eG [.t 98,.t 99],none,[(98,some 3),(99,some 4)],2,[(1,[])]⟩,⟨some 94,.mv (.t 100),none,[(100,some 5)],0,[(2,[])]⟩,⟨some 101,.extract 0 (.t 94),none,[(94,some 6)],0,[(2,[])]⟩,⟨some 102,.extract 1 (.t 94),none,[(94,some 6)],0,[(2,[])]⟩,⟨some 22,.mv (.t 101),none,[(101,some 7)],0,[(2,[])]⟩,⟨some 23,.mv (.t 102),none,[(102,some 8)],0,[(2,[])]⟩] [])<|sR [rM 104 22,rM 105 1,rM 106 2,M0 107 104 105 106,rM 103 107,v0 108 0 103,v0 109 1 103,rM 24 108,rM 25 109]<|sR [rM 110 25,v9 111 110,rM 112 111,kR 113 24 112,Hy 114 113 112,mG 115 112 114]<|cT 115 (sR [v8 12] <|.ret) .skip)) <|.region [rM 92 21,tM 93 92,rM 21 93])) <|.seq (sR [rM 116 17,v3 117 116,AS 118 117]<|cT 118 (.seq (.draw [v4 120 17 17,v4 121 4 4,M2 122 121 121 1,v4 123 17 17,Mc 124 123 123 3,Mb 125 122 124 122 2 124 4,ri 126 120 125 120 0 125 5,lH 127 126 126 6,v4 128 17 17,v4 129 5 5,M2 130 129 129 9,v4 131 17 17,Mc 132 131 131 11,Mb 133 130 132 130 10 132 12,ri 134 128 133 128 8 133 13,lH 135 134 134 14,rQ 136 (rF ml [.t 127,.t 135]) [(127,some 7),(135,some 15)] 2,⟨some 119,.mv (.t 136),none,[(136,some 16)],0,[(1,[])]⟩,⟨some 137,.extract 0 (.t 119),none,[(119,some 17)],0,[(1,[])]⟩,⟨some 138,.extract 1 (.t 119),none,[(119,some 17)],0,[(1,[])]⟩,⟨some 26,.mv (.t 137),none,[(137,some 18)],0,[(1,[])]⟩,⟨some 27,.mv (.t 138),none,[(138,some 19)],0,[(1,[])]⟩] [])<|sR [rM 140 26,rM 141 1,rM 142 2,M0 143 140 141 142,rM 139 143,v0 144 0 139,v0 145 1 139,rM 28 144,rM 29 145]<|sR [rM 147 26,rM 148 14,rM 149 15,rR 150 (rF fp [.t 147,.t 148,.t 149]),rM 146 150,v0 151 0 146,v0 152 1 146,rM 30 151,rM 31 152]<|sR [rM 153 27,v9 154 153,rM 155 154,kR 156 29 155,Kh 157 156 155,mG 158 155 157,rM 159 158,kR 160 31 159,Kh 161 160 159,mG 162 159 161,rM 163 162,kR 164 28 163,Hy 165 164 163,mG 166 163 165,rM 167 166,kR 168 30 167,Hy 169 168 167,mG 170 167 169]<|cT 170 (sR [v8 12] <|.ret) .skip) .skip) <|.seq (sR [rM 171 3,v3 172 171,rM 173 0,Dh 174 172 173]<|cT 174 (sR [yV 12] <|.ret) .skip)<|sR [rM 176 3,rM 177 1,rM 178 2,M0 179 176 177 178,rM 175 179,v0 180 0 175,v0 181 1 175,rM 32 180,rM 33 181]<|sR [rM 183 3,rM 184 14,rM 185 15,rR 186 (rF fp [.t 183,.t 184,.t 185]),rM 182 186,v0 187 0 182,v0 188 1 182,rM 34 187,rM 35 188]<|sR [rM 189 33,rM 190 35,rR 191 (.bin .eql .int (.t 189) (.t 190)),rM 192 191,kQ 193 32 192,kQ 194 34 192,rG 195 (.bin .eql .bool (.t 193) (.t 194)) 192 true,rj 196 192 195,rM 12 196] <|.ret,none⟩
def gf:aq:=⟨3,140,[(6,none)],sR [v8 6]<|sR [M4 21,rM 7 21] <|.seq (sR [rM 22 0,rM 23 1,rM 24 2,M3 25 22 23 24,rM 26 25,kR 27 7 26,Hy 28 27 26,mG 29 26 28]<|cT 29 (sR [rM 30 7,rM 6 30] <|.ret) .skip)<|sR [rM 32 0,rM 33 1,rM 34 2,JB 35 32 33 34,rM 31 35,v0 36 0 31,v0 37 1 31,v0 38 2 31,rM 8 36,rM 9 37,rM 10 38] <|.seq (sR [rM 39 10,v9 40 39,rM 41 40,kR 42 9 41,Md 43 42 41,rG 44 (.bin .gtr .int (.t 43) (rI 12)) 41 false,mG 45 41 44]<|cT 45 (sR [yV 6] <|.ret) .skip) <|.seq (sR [v1 11]<|ir 0 (.seq (sR [rM 46 11,rM 47 9,v3 48 47,yN 49 46 48]<|cT 49 .skip (.exit 0)) <|.seq (.block 1 (sR [v5 12]<|sR [rM 52 12,rM 53 9,rM 54 11,M8 55 53 54,Dj 56 52 55,rM 12 56]<|sR [rM 57 12,rM 58 9,rM 59 11,tM 60 59,rR 61 (.slice 1 (.t 58) (some (.t 60)) none none),Dj 62 57 61,rM 12 62]<|sR [rM 64 9,rM 65 11,fe 66 64 65,v2 67 66,rM 68 8,rM 69 12,rR 70 (rF fp [.t 67,.t 68,.t 69]),rM 63 70,v0 71 0 63,v0 72 1 63,rM 13 71,rM 14 72]<|sR [rM 74 9,rM 75 11,fe 76 74 75,v2 77 76,rM 78 8,rR 79 (rF fW [.t 77,.t 78]),rM 73 79,v0 80 0 73,v0 81 1 73,rM 15 80,rM 16 81] <|.seq (sR [rM 82 14,v9 83 82,rM 84 83,kR 85 16 84,Kh 86 85 84,mG 87 84 86,rM 88 87,kR 89 13 88,mG 90 88 89,rM 91 90,kR 92 9 91,kR 93 11 91,rG 94 (.indexAddr 1 (.t 92) (.t 93)) 91 false,MZ 95 94 91,rG 96 (rF mM [.t 95]) 91 false,mG 97 91 96,rM 98 97,kR 99 15 98,kR 100 9 98,kR 101 11 98,rG 102 (.indexAddr 1 (.t 100) (.t 101)) 98 false,MZ 103 102 98,rG 104 (rF mN [.t 99,.t 103]) 98 false,Hy 105 104 98,mG 106 98 105]<|cT 106 (sR [v8 6] <|.ret) .skip)<|sR [rM 107 11,AS 108 107]<|cT 108 (.seq (.draw [v4 110 9 9,v4 111 11 11,rQ 112 (.bin .sub .int (.t 111) (rI 1)) [(111,some 1)] 0,ri 113 110 112 110 0 112 2,lH 114 113 113 3,v4 115 9 9,v4 116 11 11,ri 117 115 116 115 5 116 6,lH 118 117 117 7,rQ 119 (rF mj [.t 114,.t 118]) [(114,some 4),(118,some 8)] 2,⟨some 109,.mv (.t 119),none,[(119,some 9)],0,[(1,[])]⟩,⟨some 120,.extract 0 (.t 109),none,[(109,some 10)],0,[(1,[])]⟩,⟨some 121,.extract 1 (.t 109),none,[(109,some 10)],0,[(1,[])]⟩,⟨some 17,.mv (.t 120),none,[(120,some 11)],0,[(1,[])]⟩,⟨some 18,.mv (.t 121),none,[(121,some 12)],0,[(1,[])]⟩] [])<|sR [rM 122 18,v9 123 122,rM 124 123,kR 125 17 124,rG 126 (.bin .geq .int (.t 125) (rI 0)) 124 false,mG 127 124 126]<|cT 127 (sR [v8 6] <|.ret) .skip) .skip)) <|.region [rM 50 11,tM 51 50,rM 11 51]))<|sR [rM 129 8,rR 130 (rF fl [.t 129]),rM 128 130,v0 131 0 128,v0 132 1 128,rM 19 131,rM 20 132]<|sR [rM 133 20,Dl 134 133,rM 135 134,kQ 136 19 135,kQ 137 8 135,Jz 138 136 137 135,rj 139 135 138,rM 6 139] <|.ret,none⟩
def il:aq:=⟨0,32,[(0,none)],sR [v8 0]<|sR [Mg 2,Lx 3 2,Mf 4,Lx 5 4,Kk 6 3 5,Mf 7,Lx 8 7,Mg 9,Lx 10 9,Kk 11 8 10,rR 12 (rF bW [(.c .nilSl),.t 6,(.c .nilSl),.t 11]),rM 1 12]<|sR [rM 13 1,rM 14 13,rG 15 (rF bN [rI 1,rI 1]) 14 true,rG 16 (rF bN [rI (-1),rI 1]) 14 true,M7 17 14,rG 18 (rF bW [(.c .nilSl),.t 15,.t 16,.t 17]) 14 true,rj 19 14 18,rM 20 19,rG 21 (rF bN [rI 0,rI 1]) 20 true,M7 22 20,M7 23 20,rG 24 (rF bW [.t 21,.t 22,(.c .nilSl),.t 23]) 20 true,rj 25 20 24,rM 26 25,rG 27 (.buildSlice dK 1 [(.int .i64 0),(.int .i64 0)] 2 [((0,1),(rI 1)),((1,1),(rI 2))]) 26 true,rG 28 (rF nT [.t 27]) 26 true,FG 29 28 26,rG 30 (.bin .eql .int (.t 29) (rI 2)) 26 true,rj 31 26 30,rM 0 31] <|.ret,none⟩
def ij:aq:=⟨3,14,[(6,none)],sR [v8 6]<|sR [rM 7 1,rM 8 2,rR 9 (rF cV [.t 7,.t 8]),rM 10 9,kR 11 0 10,rG 12 (.bin .gtr .int (.t 11) (rI 5)) 10 false,mG 13 10 12,rM 6 13] <|.ret,none⟩
def c_cone_Gens:aq:=⟨3,100,[(6,none),(7,none),(8,none)],sR [v5 6,v5 7,v1 8] <|.seq (sR [rM 18 1,rM 19 2,rR 20 (rF fo [.t 18,.t 19]),rM 8 20]<|sR [rM 21 8,v9 22 21]<|cT 22 .ret .skip) <|.seq (sR [rM 23 1,rM 24 2,Me 25 23 24,rR 26 (rF jt [.t 25]),rM 9 26] <|.block 0 (sR [rM 28 0,rR 29 (.bin .lss .int (.t 28) (rI 1)),rM 30 29,kR 31 0 30,rG 32 (.bin .gtr .int (.t 31) (rI 64)) 30 false,mG 33 30 32,rM 27 33]<|cT 27 (sR [v5 6,v5 7,rR 8 (.mv (rI 2))] <|.ret) (sR [rM 35 9,Jy 36 35,rM 37 36,kQ 38 9 37,kQ 39 0 37,MY 40 38 39 37,rj 41 37 40,rM 34 41]<|cT 34 (sR [v5 6,v5 7,Kj 8] <|.ret) .skip)))<|sR [rM 42 0,rR 43 (rF mS [.t 42]),rR 44 (.build [.nilSl,.nilSl,.nilSl] [((0,1),(.t 43))]),rR 45 (.box aE (.t 44)),rM 10 45]<|sR [rM 46 10,rR 47 (.mkfn (.func cu) [.t 46] []),rM 11 47] <|.seq (sR [rM 48 1,v3 49 48,v1 50]<|dJ 1 2 50 49 51 57 (sR [fe 52 48 50,v2 53 52,rM 13 53] <|.region [rM 54 11,rM 55 13,rR 56 (.call (.t 54) [.t 55,(.c (.bool true))])])) <|.seq (sR [rM 58 2,v3 59 58,v1 60]<|dJ 3 4 60 59 61 67 (sR [fe 62 58 60,v2 63 62,rM 15 63] <|.region [rM 64 11,rM 65 15,rR 66 (.call (.t 64) [.t 65,(.c (.bool false))])]))<|sR [rM 69 10,nJ 70 69,v6 71 0 70,v2 72 71,rR 73 (rF fl [.t 72]),rM 68 73,v0 74 0 68,v0 75 1 68,rM 6 74] <|.seq (sR [rM 76 10,nJ 77 76,v6 78 1 77,v2 79 78,v3 80 79,v1 81]<|dJ 5 6 81 80 82 95 (sR [fe 83 79 81,v2 84 83,rM 17 84]<|sR [rM 86 17,rM 87 6,rR 88 (rF fW [.t 86,.t 87]),rM 85 88,v0 89 0 85,v0 90 1 85,rM 17 89] <|.region [rM 91 7,rM 92 17,Dk 93 92,Dj 94 91 93,rM 7 94]))<|sR [rM 96 7,rR 97 (rF ca [.t 96,(.c (.fn (.func fq) [] []))])]<|sR [rM 98 6,rM 99 7,rM 6 98,rM 7 99,v1 8] <|.ret,none⟩
def iy:aq:=⟨2,27,[(4,none)],sR [v8 4] <|.seq (sR [rM 6 0,v3 7 6,rM 8 1,v3 9 8,Dh 10 7 9]<|cT 10 (sR [v8 4] <|.ret) .skip) <|.seq (sR [v1 5]<|ir 0 (.seq (sR [rM 11 5,rM 12 0,v3 13 12,yN 14 11 13]<|cT 14 .skip (.exit 0)) <|.seq (.block 1 (.seq (.draw [v4 17 0 0,v4 18 5 5,ri 19 17 18 17 0 18 1,lH 20 19 19 2,v4 21 1 1,v4 22 5 5,ri 23 21 22 21 4 22 5,lH 24 23 23 6,rQ 25 (rF dE [.t 20,.t 24]) [(20,some 3),(24,some 7)] 2,⟨some 26,.un .not (.t 25),none,[(25,some 8)],0,[(1,[])]⟩] [])<|cT 26 (sR [v8 4] <|.ret) .skip)) <|.region [rM 15 5,tM 16 15,rM 5 16]))<|sR [yV 4] <|.ret,none⟩
def xp:aq:=⟨2,17,[(4,none),(5,none)],sR [L9 3 1,v5 4,v1 5] <|.seq (sR [rM 7 0,v2 8 3,Kk 9 7 8,LG 10 9,rM 6 10]<|sR [rM 11 6,v9 12 11]<|cT 12 (sR [rM 13 6,v5 4,rM 5 13] <|.ret) .skip)<|sR [rM 14 0,rR 15 (.mkfn (.func jK) [] [.t 3]),MX 16 14 15,rM 4 16,v1 5] <|.ret,none⟩
def vz:aq:=⟨1,14,[(2,some (some 2))],sR [mI 2] <|.seq (sR [rM 3 0,L8 4 3]<|cT 4 (sR [rM 5 0,rR 6 (.conv .u64 (.t 5)),rR 7 (.un .neg (.t 6)),rR 8 (rF mm [.t 7]),rR 9 (rF dO [(.c (.bool true)),.t 8]),km 2 9] <|.ret) .skip)<|sR [rM 10 0,rR 11 (.conv .u64 (.t 10)),rR 12 (rF mm [.t 11]),rR 13 (rF dO [(.c (.bool false)),.t 12]),km 2 13] <|.ret,none⟩
def sN:aq:=⟨2,18,[(4,none),(5,none)],sR [lU 3 1,v5 4,v1 5] <|.seq (sR [rM 6 0,Dk 7 6,LG 8 7,v9 9 8,rM 10 9,rG 11 (.load (some 2) (.t 3)) 10 false,rG 12 (rF dZ [.t 11]) 10 false,Kh 13 12 10,mG 14 10 13]<|cT 14 (sR [v5 4,Io 5] <|.ret) .skip)<|sR [rM 15 0,rR 16 (.mkfn (.func gY) [] [.t 3]),MX 17 15 16,rM 4 17,v1 5] <|.ret,none⟩
def q9:aq:=⟨3,20,[(6,none),(7,none)],sR [v8 6,v1 7] <|.seq (sR [rM 9 0,rM 10 1,rM 11 2,rR 12 (rF ia [.t 9,.t 10,.t 11]),rM 8 12]<|sR [rM 13 8,v9 14 13]<|cT 14 (sR [rM 15 8,v8 6,rM 7 15] <|.ret) .skip)<|sR [rM 16 0,rM 17 1,rM 18 2,rR 19 (rF h9 [.t 16,.t 17,.t 18]),rM 6 19,v1 7] <|.ret,none⟩
def sZ:aq:=⟨3,32,[(6,none),(7,none)],sR [v8 6,v1 7] <|.seq (sR [rM 12 0,rM 13 1,rM 14 2,rR 15 (rF ia [.t 12,.t 13,.t 14]),rM 8 15]<|sR [rM 16 8,v9 17 16]<|cT 17 (sR [rM 18 8,v8 6,rM 7 18] <|.ret) .skip)<|sR [rM 20 0,v3 21 20,rM 22 1,rM 23 2,JB 24 21 22 23,rM 19 24,v0 25 0 19,v0 26 1 19,v0 27 2 19,rM 9 25,rM 10 26,rM 11 27]<|sR [rM 28 0,rM 29 9,rM 30 10,rR 31 (rF h9 [.t 28,.t 29,.t 30]),rM 6 31,v1 7] <|.ret,none⟩
def pG:aq:=⟨2,36,[(4,none),(5,none)],sR [v5 4,v1 5] <|.seq (sR [rM 8 1,LF 9 8,rM 6 9]<|sR [rM 10 6,v9 11 10]<|cT 11 (sR [rM 12 6,v5 4,rM 5 12] <|.ret) .skip) <|.seq (sR [rM 13 0,Dk 14 13,LF 15 14,rM 7 15]<|sR [rM 16 7,v9 17 16]<|cT 17 (sR [rM 18 7,v5 4,rM 5 18] <|.ret) .skip) <|.seq (sR [rM 19 1,v3 20 19,AS 21 20,rM 22 21,kQ 23 1 22,rG 24 (.indexAddr 1 (.t 23) (rI 0)) 22 true,Di 25 24 22,FG 26 25 22,kQ 27 0 22,FG 28 27 22,MY 29 26 28 22,rj 30 22 29]<|cT 30 (sR [v5 4,Kj 5] <|.ret) .skip)<|sR [rM 31 1,rR 32 (rF fV [.t 31]),rM 33 0,rR 34 (rF dx [.t 32,.t 33]),rR 35 (rF kC [.t 34]),rM 4 35,v1 5] <|.ret,none⟩
def vB:aq:=⟨1,6,[(2,none)],sR [v8 2]<|sR [rM 3 0,rR 4 (rF aP [.t 3,(.c (.fn (.func iY) [] []))]),HB 5 4,rM 2 5] <|.ret,none⟩
def vD:aq:=⟨2,8,[(4,none)],sR [v8 4]<|sR [rM 5 0,rM 6 1,rR 7 (rF aF [.t 5,.t 6,(.c (.fn (.func fJ) [] []))]),rM 4 7] <|.ret,none⟩
def xo:aq:=⟨2,17,[(4,none),(5,none)],sR [v1 4,v1 5] <|.seq (sR [rM 7 0,rM 8 1,Kk 9 7 8,LG 10 9,rM 6 10]<|sR [rM 11 6,v9 12 11]<|cT 12 (sR [rM 13 6,v1 4,rM 5 13] <|.ret) .skip)<|sR [rM 14 0,rM 15 1,rR 16 (rF az [.t 14,.t 15,(.c (.fn (.func jJ) [] []))]),rM 4 16,v1 5] <|.ret,none⟩
def oC:aq:=⟨1,15,[(2,none),(3,none)],sR [v5 2,v1 3] <|.seq (sR [rM 5 0,LF 6 5,rM 4 6]<|sR [rM 7 4,v9 8 7]<|cT 8 (sR [rM 9 4,v5 2,rM 3 9] <|.ret) .skip)<|sR [rM 10 0,rR 11 (rF fV [.t 10]),nJ 12 11,v6 13 0 12,v2 14 13,rM 2 14,v1 3] <|.ret,none⟩
def Aq:aq:=⟨1,23,[(2,none)],sR [v5 2]<|sR [rM 6 0,v3 7 6,Ku 8 7 7,rM 3 8] <|.seq (sR [rM 9 0,v3 10 9,v1 11]<|dJ 0 1 11 10 12 21 (sR [rM 13 11,fe 14 9 11,v2 15 14,rM 4 13,rM 5 15] <|.region [rM 16 3,rM 17 4,rM 18 5,rR 19 (rF eJ [.t 18]),yW 20 16 17,km 20 19]))<|sR [rM 22 3,rM 2 22] <|.ret,none⟩
def ik:aq:=⟨4,31,[(8,none)],sR [v8 8]<|sR [rM 13 0,rM 14 1,rR 15 (rF dQ [rI 2,.t 13,.t 14]),rM 12 15,v0 16 0 12,v0 17 1 12,v0 18 2 12,rM 9 16,rM 10 17,rM 11 18]<|sR [rM 19 11,Dl 20 19,rM 21 20,kQ 22 9 21,kQ 23 2 21,Jz 24 22 23 21,rj 25 21 24,rM 26 25,kQ 27 10 26,kQ 28 3 26,Jz 29 27 28 26,rj 30 26 29,rM 8 30] <|.ret,none⟩
def jv:aq:=⟨2,10,[(4,none)],sR [v5 4]<|sR [rM 5 0,rM 6 1,rR 7 (.buildSlice dK 1 [(.int .i64 0),(.int .i64 0)] 2 [((0,1),(.t 5)),((1,1),(.t 6))]),Lx 8 7,Dk 9 8,rM 4 9] <|.ret,none⟩
def ie:aq:=⟨2,11,[(4,none)],sR [v8 4]<|sR [rM 5 0,rR 6 (rF cA [.t 5,rI 4,rI 5,rI 1]),rM 7 6,kR 8 1 7,rG 9 (rF cA [.t 8,rI 7,rI 5,rI 1]) 7 false,mG 10 7 9,rM 4 10] <|.ret,none⟩
def c_cone_checked:aq:=⟨2,39,[(4,none)],sR [v1 4] <|.seq (sR [rM 8 0,rM 9 1,Kt 10 8 9,v1 11]<|ir 0 (sR [rR 12 (.bin .lss .int (.t 11) (rI 2))] <|.seq (cT 12 .skip (.exit 0)) <|.seq (.block 1 (sR [rR 13 (.indexAgg 2 1 none (.t 10) (.t 11)),rM 6 13]<|sR [rM 14 6,LF 15 14,rM 7 15]<|sR [rM 16 7,v9 17 16]<|cT 17 (sR [rM 18 7,rM 4 18] <|.ret) .skip)) <|.region [tM 19 11,rM 11 19])) <|.seq (.seq (.draw [v4 20 0 0,Mc 21 20 20 0,rQ 22 (.bin .gtr .int (.t 21) (rI 0)) [(21,some 1)] 0,Hz 23 22 22 2,⟨some 24,.mv (.t 1),(some (23,true)),[(1,none),(23,some 3)],0,[(0,[])]⟩,⟨some 25,.len (.t 24),(some (23,true)),[(24,some 4),(23,some 3)],0,[(0,[])]⟩,⟨some 26,.bin .gtr .int (.t 25) (rI 0),(some (23,true)),[(25,some 5),(23,some 3)],0,[(0,[])]⟩,Ks 27 23 26 23 3 26 6,Hz 28 27 27 7,⟨some 29,.mv (.t 0),(some (28,true)),[(0,none),(28,some 8)],0,[(0,[])]⟩,⟨some 30,.indexAddr 1 (.t 29) (rI 0),(some (28,true)),[(29,some 9),(28,some 8)],0,[(0,[])]⟩,⟨some 31,.load none (.t 30),(some (28,true)),[(30,some 10),(28,some 8)],0,[(0,[])]⟩,⟨some 32,.len (.t 31),(some (28,true)),[(31,some 11),(28,some 8)],0,[(0,[])]⟩,⟨some 33,.mv (.t 1),(some (28,true)),[(1,none),(28,some 8)],0,[(0,[])]⟩,⟨some 34,.indexAddr 1 (.t 33) (rI 0),(some (28,true)),[(33,some 13),(28,some 8)],0,[(0,[])]⟩,⟨some 35,.load none (.t 34),(some (28,true)),[(34,some 14),(28,some 8)],0,[(0,[])]⟩,⟨some 36,.len (.t 35),(some (28,true)),[(35,some 15),(28,some 8)],0,[(0,[])]⟩,⟨some 37,.bin .neq .int (.t 32) (.t 36),(some (28,true)),[(32,some 12),(36,some 16),(28,some 8)],0,[(0,[])]⟩,Ks 38 28 37 28 8 37 17] [])<|cT 38 (sR [Kj 4] <|.ret) .skip)<|sR [v1 4] <|.ret,none⟩
def sY:aq:=⟨1,19,[(2,none)],sR [v1 2] <|.seq (sR [rM 5 0,v3 6 5,v1 7]<|dJ 0 1 7 6 8 18 (sR [fe 9 5 7,v2 10 9,rM 4 10]<|sR [rM 11 4,v3 12 11,AS 13 12]<|cT 13 (sR [rM 14 4,Ma 15 14,v2 16 15,v3 17 16,rM 2 17] <|.ret) .skip))<|sR [L7 2] <|.ret,none⟩
def vO:aq:=⟨1,20,[(2,none)],sR [v5 2] <|.seq (sR [rM 5 0,v1 6]<|dJ 0 1 6 5 7 19 (sR [rM 8 6,rM 3 8]<|sR [rM 9 0,Ku 10 9 9,rM 4 10]<|sR [rM 11 4,rM 12 3,rR 13 (rF eJ [rI 1]),yW 14 11 12,km 14 13] <|.region [rM 15 2,rM 16 4,Dk 17 16,Dj 18 15 17,rM 2 18])) <|.ret,none⟩
def c_P_cone_under_add:aq:=⟨3,48,[],sR [L9 4 1]<|sR [rM 8 0,nJ 9 8,v6 10 0 9,v2 11 10,rR 12 (.mkfn (.func dI) [] [.t 4]),rR 13 (rF aO [.t 11,.t 12]),rM 6 13] <|.seq (sR [rM 14 6,L8 15 14]<|cT 15 (.region [rM 16 0,v2 17 4,rM 18 2,rR 19 (rF eK [.t 16,.t 17,.t 18])]) (sR [rM 20 0,v2 21 4,rM 22 6,rR 23 (rF eh [.t 20,.t 21,.t 22]),rM 7 23]<|sR [rM 24 2,HB 25 24]<|cT 25 (.region [rM 26 0,rM 27 0,nJ 28 27,v6 29 1 28,v2 30 29,rM 31 7,Dk 32 31,Dj 33 30 32,nJ 34 26,v6 35 1 34,AR 35 33]) .skip))<|sR [rM 36 2,HB 37 36]<|cT 37 (.draw [⟨some 38,.mv (.t 0),none,[(0,none)],0,[(0,[]),(1,[])]⟩,v4 39 0 0,FE 40 39 39 1,FD 41 2 40 40 2,lH 42 41 41 3,Lw 43 4 4,rQ 44 (.buildSlice ae 1 [.nilSl] 1 [((0,1),(.t 43))]) [(43,some 5)] 1,⟨some 45,.append 1 24 ae [.nilSl] (.t 42) (.t 44),none,[(42,some 4),(44,some 6)],2,[(0,[6])]⟩,⟨some 46,.nilCheck (.t 38),none,[(38,some 0)],0,[(1,[])]⟩,⟨some 47,.fieldAddr 2 (.t 46),none,[(46,some 8)],0,[(1,[])]⟩,⟨none,.store 1 (.t 47) (.t 45),none,[(47,some 9),(45,some 7)],2,[(1,[])]⟩] []) .skip,none⟩
def cU:aq:=⟨2,2,[],.skip,(some (.sortF ae [fq]))⟩
def oE:aq:=⟨2,14,[(4,none)],sR [v1 4]<|sR [rM 8 0,rM 9 1,rR 10 (rF mj [.t 8,.t 9]),rM 7 10,v0 11 0 7,v0 12 1 7,rM 5 11,rM 6 12]<|sR [rM 13 5,rM 4 13] <|.ret,none⟩
def iz:aq:=⟨2,27,[(4,none)],sR [v8 4] <|.seq (sR [rM 6 0,v3 7 6,rM 8 1,v3 9 8,Dh 10 7 9]<|cT 10 (sR [v8 4] <|.ret) .skip) <|.seq (sR [v1 5]<|ir 0 (.seq (sR [rM 11 5,rM 12 0,v3 13 12,yN 14 11 13]<|cT 14 .skip (.exit 0)) <|.seq (.block 1 (.seq (.draw [v4 17 0 0,v4 18 5 5,Kg 19 17 18 17 0 18 1,LE 20 19 19 2,v4 21 1 1,v4 22 5 5,Kg 23 21 22 21 4 22 5,LE 24 23 23 6,rQ 25 (rF dF [.t 20,.t 24]) [(20,some 3),(24,some 7)] 2,⟨some 26,.un .not (.t 25),none,[(25,some 8)],0,[(1,[])]⟩] [])<|cT 26 (sR [v8 4] <|.ret) .skip)) <|.region [rM 15 5,tM 16 15,rM 5 16]))<|sR [yV 4] <|.ret,none⟩
def pz:aq:=⟨1,35,[(2,none)],sR [v1 2] <|.seq (sR [rM 8 0,v3 9 8,v1 10]<|dJ 0 1 10 9 11 19 (sR [fe 12 8 10,v2 13 12,rM 4 13]<|sR [rM 14 4,rR 15 (rF fj [.t 14]),rM 5 15]<|sR [rM 16 5,v9 17 16]<|cT 17 (sR [rM 18 5,rM 2 18] <|.ret) .skip)) <|.seq (sR [rM 20 0,rR 21 (.slice 1 (.t 20) (some (rI 1)) none none),v3 22 21,v1 23]<|dJ 2 3 23 22 24 34 (sR [fe 25 21 23,v2 26 25,rM 7 26]<|sR [rM 27 7,v3 28 27,rM 29 0,Ma 30 29,v2 31 30,v3 32 31,Dh 33 28 32]<|cT 33 (sR [Kj 2] <|.ret) .skip))<|sR [v1 2] <|.ret,none⟩
def qU:aq:=⟨3,12,[(5,some (some 2))],sR [lU 4 1,mI 5] <|.seq (.draw [Kf 6 4 4,Lw 7 2 2,v4 8 0 0,Kg 9 7 8 7 1 8 2,LE 10 9 9 3,rQ 11 (rF jZ [.t 6,.t 10]) [(6,some 0),(10,some 4)] 2,⟨none,.store 2 (.t 5) (.t 11),none,[(5,none),(11,some 5)],2,[(1,[])]⟩] []) <|.ret,none⟩
def vA:aq:=⟨2,27,[(4,none)],sR [v5 4]<|sR [rM 8 0,v3 9 8,Ku 10 9 9,rM 5 10] <|.seq (sR [rM 11 0,v3 12 11,v1 13]<|dJ 0 1 13 12 14 25 (sR [rM 15 13,yW 16 11 13,v7 17 16,mI 7,rM 6 15,km 7 17] <|.region [rM 18 5,rM 19 6,rM 20 1,rM 21 6,v7 22 7,LD 23 20 21 22,yW 24 18 19,km 24 23]))<|sR [rM 26 5,rM 4 26] <|.ret,none⟩
def As:aq:=⟨1,6,[(2,none)],sR [v5 2]<|sR [rM 3 0,Kr 4 3,L6 5 4,rM 2 5] <|.ret,none⟩
def qP:aq:=⟨2,13,[(4,some (some 2))],sR [mI 4]<|sR [rM 5 0,rM 6 5,kQ 7 1 6,FG 8 7 6,rG 9 (.bin .gtr .int (.t 8) (rI 0)) 6 true,rj 10 6 9,rM 11 1,rR 12 (.build [(.bool false),.nilSl] [((0,1),(.t 10)),((1,1),(.t 11))]),km 4 12] <|.ret,none⟩
def px:aq:=⟨1,17,[(2,none)],sR [lU 1 0,v1 2] <|.seq (sR [v6 3 1 1,v2 4 3,Ki 5 4,v9 6 5,rM 7 6,rG 8 (.fieldAddr 0 (.t 1)) 7 false,MZ 9 8 7,kR 10 9 7,LC 11 1 1 10,Di 12 11 10,FG 13 12 10,M9 14 13 10,Kq 15 10 14 7,mG 16 7 15]<|cT 16 (sR [Io 2] <|.ret) .skip)<|sR [v1 2] <|.ret,none⟩
def ot:aq:=⟨3,9,[(5,some (some 2))],sR [lU 4 1,mI 5]<|sR [v7 6 4,v7 7 2,rR 8 (rF d8 [.t 6,.t 7]),km 5 8] <|.ret,none⟩
def q8:aq:=⟨3,34,[(6,none)],sR [v1 6] <|.seq (sR [rM 10 1,rM 11 2,rR 12 (rF fo [.t 10,.t 11]),rM 7 12]<|sR [rM 13 7,v9 14 13]<|cT 14 (sR [rM 15 7,rM 6 15] <|.ret) .skip) <|.seq (sR [rM 16 0,Dk 17 16,LF 18 17,rM 8 18]<|sR [rM 19 8,v9 20 19]<|cT 20 (sR [rM 21 8,rM 6 21] <|.ret) .skip) <|.seq (sR [rM 22 1,rM 23 2,Me 24 22 23,rR 25 (rF jt [.t 24]),rM 9 25]<|sR [rM 26 9,Jy 27 26,rM 28 27,kQ 29 9 28,kQ 30 0 28,FG 31 30 28,MY 32 29 31 28,rj 33 28 32]<|cT 33 (sR [Kj 6] <|.ret) .skip)<|sR [v1 6] <|.ret,none⟩
def qZ:aq:=⟨3,21,[(6,none)],sR [L9 3 0,v8 6]<|sR [rR 9 (.mkfn (.func gr) [] [.t 3]),rM 7 9]<|sR [rR 10 (.mkfn (.func gq) [] [.t 3]),rM 8 10]<|sR [rM 11 1,rM 12 7,rR 13 (rF aL [.t 11,.t 12]),HB 14 13,rM 15 14,kQ 16 2 15,kQ 17 8 15,rG 18 (rF aL [.t 16,.t 17]) 15 true,rG 19 (.un .not (.t 18)) 15 true,rj 20 15 19,rM 6 20] <|.ret,none⟩
def qW:aq:=⟨1,39,[(2,none)],sR [v1 2] <|.seq (sR [rM 7 0,v3 8 7,rR 9 (.bin .gtr .int (.t 8) (rI 1024))]<|cT 9 (sR [rR 2 (.mv (rI 4))] <|.ret) .skip) <|.seq (sR [rM 10 0,v3 11 10,v1 12]<|dJ 0 1 12 11 13 24 (sR [fe 14 10 12,v2 15 14,rM 4 15]<|sR [rM 16 4,rR 17 (rF fj [.t 16]),v9 18 17,rM 19 18,kR 20 4 19,Md 21 20 19,rG 22 (.bin .eql .int (.t 21) (rI 0)) 19 false,mG 23 19 22]<|cT 23 (sR [Io 2] <|.ret) .skip)) <|.seq (sR [rM 25 0,v3 26 25,v1 27]<|dJ 2 3 27 26 28 38 (sR [fe 29 25 27,v2 30 29,rM 6 30]<|sR [rM 31 6,v3 32 31,rM 33 0,Ma 34 33,v2 35 34,v3 36 35,Dh 37 32 36]<|cT 37 (sR [Kj 2] <|.ret) .skip))<|sR [v1 2] <|.ret,none⟩
def pE:aq:=⟨1,22,[(2,none)],sR [rC 2 .nilPtr]<|sR [rR 7 (.build [.nilSl] []),rR 8 (.box db (.t 7)),rM 3 8]<|sR [rM 9 3,rR 10 (.mkfn (.func dR) [.t 9] []),rM 4 10] <|.seq (sR [rM 11 0,v3 12 11,v1 13]<|dJ 0 1 13 12 14 20 (sR [fe 15 11 13,v2 16 15,rM 6 16] <|.region [rM 17 4,rM 18 6,rR 19 (.call (.t 17) [.t 18])]))<|sR [rM 21 3,rM 2 21] <|.ret,none⟩
def kK:aq:=⟨2,28,[(4,none)],sR [v5 4]<|sR [rM 8 1,rR 9 (rF gM [.t 8]),rM 7 9,v0 10 0 7,v0 11 1 7,rM 1 10] <|.seq (sR [rM 12 0,nJ 13 12,v6 14 0 13,v2 15 14,v3 16 15,v1 17]<|dJ 0 1 17 16 18 26 (sR [fe 19 15 17,v2 20 19,rM 6 20] <|.region [rM 21 1,rM 22 6,rM 23 6,rR 24 (rF fK [.t 23]),rR 25 (rF fk [.t 21,.t 22,.t 24]),rM 1 25]))<|sR [rM 27 1,rM 4 27] <|.ret,none⟩
def vC:aq:=⟨1,5,[(2,none)],sR [v5 2]<|sR [rM 3 0,rR 4 (rF iL [.t 3,(.c (.fn (.func iZ) [] []))]),rM 2 4] <|.ret,none⟩
def cP:aq:=⟨2,9,[(4,none)],sR [v8 4]<|sR [rM 5 0,rM 6 1,rR 7 (rF bj [.t 5,.t 6]),Jy 8 7,rM 4 8] <|.ret,none⟩
def pA:aq:=⟨1,11,[(2,none)],sR [lU 1 0,v8 2]<|sR [v6 3 0 1,v2 4 3,rM 5 4,rG 6 (.fieldAddr 1 (.t 1)) 5 false,MZ 7 6 5,Md 8 7 5,rG 9 (.bin .gtr .int (.t 8) (rI 0)) 5 false,mG 10 5 9,rM 2 10] <|.ret,none⟩
def bO:aq:=⟨3,32,[(6,none)],sR [v8 6] <|.seq (sR [rM 10 0,v3 11 10,rM 12 1,v3 13 12,Dh 14 11 13]<|cT 14 (sR [v8 6] <|.ret) .skip) <|.seq (sR [rM 15 0,v3 16 15,v1 17]<|dJ 0 1 17 16 18 31 (sR [rM 19 17,yW 20 15 17,v7 21 20,mI 8,rM 7 19,km 8 21]<|sR [rM 22 1,rM 23 7,yW 24 22 23,v7 25 24,mI 9,km 9 25]<|sR [rM 26 2,v7 27 8,v7 28 9,LD 29 26 27 28,HB 30 29]<|cT 30 (sR [v8 6] <|.ret) .skip))<|sR [yV 6] <|.ret,none⟩
def qR:aq:=⟨2,17,[(4,none)],sR [lU 2 0,lU 3 1,v8 4]<|sR [v6 5 0 2,v2 6 5,v6 7 0 3,v2 8 7,rR 9 (.bin .eql .bool (.t 6) (.t 8)),rM 10 9,LC 11 1 2 10,Di 12 11 10,LC 13 1 3 10,Di 14 13 10,rG 15 (rF cm [.t 12,.t 14]) 10 true,rj 16 10 15,rM 4 16] <|.ret,none⟩
def bD:aq:=⟨3,39,[(6,none)],sR [v1 6] <|.seq (sR [rM 11 0,v3 12 11,v1 13]<|dJ 0 1 13 12 14 33 (sR [rM 15 13,yW 16 11 13,v7 17 16,mI 8,rM 7 15,km 8 17] <|.seq (sR [rM 18 7,rM 19 1,v3 20 19,rR 21 (.bin .geq .int (.t 18) (.t 20))]<|cT 21 (sR [rR 6 (.mv (rI 1))] <|.ret) .skip)<|sR [rM 22 1,rM 23 7,yW 24 22 23,v7 25 24,mI 9,km 9 25]<|sR [rM 26 2,v7 27 8,v7 28 9,LD 29 26 27 28,rM 10 29]<|sR [rM 30 10,v9 31 30]<|cT 31 (sR [rM 32 10,rM 6 32] <|.ret) .skip)) <|.seq (sR [rM 34 0,v3 35 34,rM 36 1,v3 37 36,yN 38 35 37]<|cT 38 (sR [L7 6] <|.ret) .skip)<|sR [v1 6] <|.ret,none⟩
def qT:aq:=⟨2,14,[(4,none)],sR [lU 2 0,lU 3 1,v1 4]<|sR [v7 8 2,v7 9 3,rR 10 (rF kZ [.t 8,.t 9]),rM 7 10,v0 11 0 7,v0 12 1 7,rM 5 11,rM 6 12]<|sR [rM 13 5,rM 4 13] <|.ret,none⟩
def ig:aq:=⟨4,27,[(8,none)],sR [v8 8] <|.seq (sR [rM 10 0,v3 11 10,rM 12 1,rR 13 (.bin .gtr .int (.t 11) (.t 12))]<|cT 13 (sR [yV 8] <|.ret) .skip) <|.seq (sR [v1 9]<|ir 0 (.seq (sR [rM 14 9,rM 15 0,v3 16 15,yN 17 14 16]<|cT 17 .skip (.exit 0)) <|.seq (.block 1 (sR [rM 20 0,rM 21 9,fe 22 20 21,v2 23 22,rM 24 2,rM 25 3,rR 26 (rF cW [.t 23,.t 24,.t 25])]<|cT 26 (sR [yV 8] <|.ret) .skip)) <|.region [rM 18 9,tM 19 18,rM 9 19]))<|sR [v8 8] <|.ret,none⟩
def iD:aq:=⟨2,9,[(3,none)],sR [v8 3]<|sR [v2 4 1,rM 5 0,L5 6 4 5,rR 7 (rF de [.t 6]),v9 8 7,rM 3 8] <|.ret,none⟩
def cO:aq:=⟨2,19,[(4,none)],sR [v1 4] <|.seq (sR [rM 6 0,v3 7 6,v1 8]<|dJ 0 1 8 7 9 18 (sR [rM 10 8,rM 5 10]<|sR [rM 11 1,rM 12 0,rM 13 5,fe 14 12 13,v2 15 14,rR 16 (.call (.t 11) [.t 15])]<|cT 16 (sR [rM 17 5,rM 4 17] <|.ret) .skip))<|sR [L7 4] <|.ret,none⟩
def c_P_cone_under_cut:aq:=⟨3,135,[],sR [rR 19 .mkmap,rM 6 19]<|sR [v5 7]<|sR [v5 8] <|.seq (sR [rM 20 0,nJ 21 20,v6 22 1 21,v2 23 22,v3 24 23,v1 25]<|dJ 0 1 25 24 26 53 (sR [rM 27 25,fe 28 23 25,v2 29 28,rM 9 27,rM 10 29]<|sR [rM 30 1,rM 31 10,L5 32 30 31,mI 11,km 11 32]<|sR [rM 33 8,v7 34 11,rR 35 (.buildSlice aa 2 [(.bool false),.nilSl] 1 [((0,2),(.t 34))]),rR 36 (.append 2 32 aa [(.bool false),.nilSl] (.t 33) (.t 35)),rM 37 7,rM 38 0,rM 39 10,rR 40 (rF cS [.t 38,.t 39]),rR 41 (.buildSlice cI 1 [.nilSl] 1 [((0,1),(.t 40))]),rR 42 (.append 1 24 cI [.nilSl] (.t 37) (.t 41)),rM 8 36,rM 7 42] <|.draw [⟨some 43,.mv (.t 6),none,[(6,none)],0,[(0,[]),(1,[]),(2,[]),(3,[])]⟩,Kf 44 11 11,rQ 45 (rF de [.t 44]) [(44,some 1)] 2,⟨some 46,.mv (.t 6),none,[(6,none)],0,[(0,[]),(1,[]),(2,[])]⟩,⟨some 47,.load (some 2) (.t 11),none,[(11,none)],0,[(0,[]),(1,[])]⟩,⟨some 48,rF de [.t 47],none,[(47,some 4)],2,[(1,[])]⟩,⟨some 49,.lookup .int .nilSl (.t 46) (.t 48) false,none,[(46,some 3),(48,some 5)],0,[(2,[])]⟩,⟨some 50,.mv (.t 9),none,[(9,none)],0,[(0,[]),(1,[]),(2,[])]⟩,⟨some 51,.buildSlice dK 1 [(.int .i64 0)] 1 [((0,1),(.t 50))],none,[(50,some 7)],1,[(0,[]),(1,[]),(2,[])]⟩,⟨some 52,.append 1 8 dK [(.int .i64 0)] (.t 49) (.t 51),none,[(49,some 6),(51,some 8)],2,[(2,[8])]⟩,⟨none,.mapUpd .int (.t 43) (.t 45) (.t 52),none,[(43,some 0),(45,some 2),(52,some 9)],2,[(3,[])]⟩] []))<|sR [v5 12] <|.seq (sR [rM 54 6,rR 55 (.lookup .int .nilSl (.t 54) (rI 0) false),v3 56 55,v1 57]<|dJ 2 3 57 56 58 71 (sR [fe 59 55 57,v2 60 59,rM 14 60] <|.region [rM 61 12,rM 62 0,nJ 63 62,v6 64 1 63,v2 65 64,rM 66 14,fe 67 65 66,v2 68 67,Dk 69 68,Dj 70 61 69,rM 12 70])) <|.seq (sR [rM 72 6,rR 73 (.lookup .int .nilSl (.t 72) (rI 1) false),v3 74 73,v1 75]<|dJ 4 5 75 74 76 130 (sR [fe 77 73 75,v2 78 77,rM 16 78] <|.seq (sR [rM 79 2,HB 80 79]<|cT 80 (.region [rM 81 12,rM 82 0,nJ 83 82,v6 84 1 83,v2 85 84,rM 86 16,fe 87 85 86,v2 88 87,Dk 89 88,Dj 90 81 89,rM 12 90]) .skip)<|sR [rM 91 6,rR 92 (.lookup .int .nilSl (.t 91) (rI (-1)) false),v3 93 92,v1 94]<|dJ 6 7 94 93 95 129 (sR [fe 96 92 94,v2 97 96,rM 18 97]<|sR [rM 98 7,rM 99 16,rM 100 18,rR 101 (rF js [.t 98,.t 99,.t 100])]<|cT 101 (.draw [⟨some 102,.mv (.t 12),none,[(12,none)],0,[(0,[]),(1,[]),(2,[])]⟩,v4 103 8 8,v4 104 18 18,Kg 105 103 104 103 1 104 2,LE 106 105 105 3,rQ 107 (rF gD [.t 106]) [(106,some 4)] 2,⟨some 108,.mv (.t 0),none,[(0,none)],0,[(0,[]),(1,[])]⟩,⟨some 109,.nilCheck (.t 108),none,[(108,some 6)],0,[(0,[]),(1,[])]⟩,⟨some 110,.fieldAddr 1 (.t 109),none,[(109,some 7)],0,[(0,[]),(1,[])]⟩,⟨some 111,.load none (.t 110),none,[(110,some 8)],0,[(0,[]),(1,[])]⟩,⟨some 112,.mv (.t 16),none,[(16,none)],0,[(0,[]),(1,[])]⟩,⟨some 113,.indexAddr 1 (.t 111) (.t 112),none,[(111,some 9),(112,some 10)],0,[(0,[]),(1,[])]⟩,⟨some 114,.load none (.t 113),none,[(113,some 11)],0,[(0,[]),(1,[])]⟩,⟨some 115,.mv (.t 8),none,[(8,none)],0,[(0,[]),(1,[])]⟩,⟨some 116,.mv (.t 16),none,[(16,none)],0,[(0,[]),(1,[])]⟩,⟨some 117,.indexAddr 2 (.t 115) (.t 116),none,[(115,some 13),(116,some 14)],0,[(0,[]),(1,[])]⟩,⟨some 118,.load (some 2) (.t 117),none,[(117,some 15)],0,[(0,[]),(1,[])]⟩,⟨some 119,.mv (.t 0),none,[(0,none)],0,[(0,[]),(1,[])]⟩,⟨some 120,.nilCheck (.t 119),none,[(119,some 17)],0,[(0,[]),(1,[])]⟩,⟨some 121,.fieldAddr 1 (.t 120),none,[(120,some 18)],0,[(0,[]),(1,[])]⟩,⟨some 122,.load none (.t 121),none,[(121,some 19)],0,[(0,[]),(1,[])]⟩,⟨some 123,.mv (.t 18),none,[(18,none)],0,[(0,[]),(1,[])]⟩,⟨some 124,.indexAddr 1 (.t 122) (.t 123),none,[(122,some 20),(123,some 21)],0,[(0,[]),(1,[])]⟩,⟨some 125,.load none (.t 124),none,[(124,some 22)],0,[(0,[]),(1,[])]⟩,⟨some 126,rF iM [.t 107,.t 114,.t 118,.t 125],none,[(107,some 5),(114,some 12),(118,some 16),(125,some 23)],2,[(1,[])]⟩,⟨some 127,.buildSlice ae 1 [.nilSl] 1 [((0,1),(.t 126))],none,[(126,some 24)],1,[(2,[])]⟩,⟨some 128,.append 1 24 ae [.nilSl] (.t 102) (.t 127),none,[(102,some 0),(127,some 25)],2,[(2,[25])]⟩,⟨some 12,.mv (.t 128),none,[(128,some 26)],0,[(3,[])]⟩] []) .skip))) <|.region [rM 131 0,rM 132 12,nJ 133 131,v6 134 1 133,AR 134 132],none⟩
def c_P_cone_under_fold:aq:=⟨3,81,[(6,none)],sR [v5 6]<|sR [rM 12 0,nJ 13 12,v6 14 0 13,v2 15 14,rM 16 2,fe 17 15 16,v2 18 17,rM 6 18]<|sR [rM 19 1,rM 20 6,L5 21 19 20,mI 7,km 7 21] <|.seq (sR [v6 22 0 7,v2 23 22]<|cT 23 (sR [rM 25 6,rR 26 (rF eJ [rI (-1)]),rR 27 (rF eG [.t 25,.t 26]),rM 24 27,v0 28 0 24,v0 29 1 24,rM 6 28] <|.region [v7 30 7,rR 31 (rF gD [.t 30]),km 7 31]) .skip)<|sR [rM 32 0,rM 33 0,nJ 34 33,v6 35 0 34,v2 36 35,rR 37 (rF bo [.t 36]),rM 38 2,rM 39 2,tM 40 39,rR 41 (rF bk [.t 37,.t 38,.t 40]),nJ 42 32,v6 43 0 42,AR 43 41] <|.seq (.seq (.draw [v4 44 0 0,FE 45 44 44 0,FD 46 0 45 45 1,v4 47 0 0,FE 48 47 47 3,FD 49 1 48 48 4,rQ 50 (.buildSlice gU 1 [.nilPtr,.nilPtr] 2 [((0,1),(.t 46)),((1,1),(.t 49))]) [(46,some 2),(49,some 5)] 1,⟨some 51,.len (.t 50),none,[(50,some 6)],0,[(0,[6])]⟩,rQ 52 (.mv (rI 0)) [] 0] [6])<|dJ 0 1 52 51 53 79 (sR [fe 54 50 52,v2 55 54,rM 9 55]<|sR [rM 56 9,nJ 57 56,v2 58 57,v3 59 58,v1 60]<|dJ 2 3 60 59 61 78 (sR [rM 62 60,fe 63 58 60,v2 64 63,rM 10 62,rM 11 64] <|.draw [⟨some 65,.mv (.t 9),none,[(9,none)],0,[(0,[]),(1,[]),(2,[]),(3,[])]⟩,⟨some 66,.nilCheck (.t 65),none,[(65,some 0)],0,[(0,[]),(1,[]),(2,[]),(3,[])]⟩,⟨some 67,.load none (.t 66),none,[(66,some 1)],0,[(0,[]),(1,[]),(2,[]),(3,[])]⟩,⟨some 68,.mv (.t 10),none,[(10,none)],0,[(0,[]),(1,[]),(2,[]),(3,[])]⟩,⟨some 69,.load (some 2) (.t 7),none,[(7,none)],0,[(0,[]),(1,[]),(2,[])]⟩,⟨some 70,.mv (.t 11),none,[(11,none)],0,[(0,[]),(1,[]),(2,[])]⟩,v4 71 1 1,v4 72 11 11,rQ 73 (rF iN [.t 71,.t 72]) [(71,some 6),(72,some 7)] 2,⟨some 74,rF gD [.t 73],none,[(73,some 8)],2,[(1,[])]⟩,⟨some 75,.mv (.t 6),none,[(6,none)],0,[(0,[]),(1,[]),(2,[])]⟩,⟨some 76,rF iM [.t 69,.t 70,.t 74,.t 75],none,[(69,some 4),(70,some 5),(74,some 9),(75,some 10)],2,[(2,[])]⟩,⟨some 77,.indexAddr 1 (.t 67) (.t 68),none,[(67,some 2),(68,some 3)],0,[(3,[])]⟩,⟨none,.store 1 (.t 77) (.t 76),none,[(77,some 12),(76,some 11)],2,[(3,[])]⟩] [])))<|sR [rM 80 6,rM 6 80] <|.ret,none⟩
def iA:aq:=⟨2,17,[(4,none)],sR [lU 2 0,lU 3 1,v8 4]<|sR [v6 5 0 2,v2 6 5,v6 7 0 3,v2 8 7,rR 9 (.bin .eql .bool (.t 6) (.t 8)),rM 10 9,LC 11 1 2 10,Di 12 11 10,LC 13 1 3 10,Di 14 13 10,rG 15 (rF dG [.t 12,.t 14]) 10 true,rj 16 10 15,rM 4 16] <|.ret,none⟩
def sP:aq:=⟨1,10,[(2,none)],sR [v1 2] <|.seq (sR [rM 3 0,v3 4 3,rR 5 (.bin .gtr .int (.t 4) (rI 64)),rM 6 5,kR 7 0 6,rG 8 (rF aP [.t 7,(.c (.fn (.func g8) [] []))]) 6 false,mG 9 6 8]<|cT 9 (sR [Io 2] <|.ret) .skip)<|sR [v1 2] <|.ret,none⟩
def xl:aq:=⟨2,14,[(4,some (some 2))],sR [lU 2 0,lU 3 1,mI 4]<|sR [v7 8 2,v7 9 3,rR 10 (rF lc [.t 8,.t 9]),rM 7 10,v0 11 0 7,v0 12 1 7,mI 5,km 5 11,rM 6 12]<|sR [v7 13 5,km 4 13] <|.ret,none⟩
def vE:aq:=⟨1,22,[(2,none)],sR [v5 2] <|.seq (ir 0 (.seq (sR [rM 3 0,v3 4 3,AS 5 4,rM 6 5,kQ 7 0 6,kQ 8 0 6,FG 9 8 6,MW 10 9 6,L4 11 7 10 6,Di 12 11 6,MV 13 12 6,rj 14 6 13]<|cT 14 .skip (.exit 0)) <|.block 1 (.region [rM 15 0,rM 16 0,v3 17 16,FF 18 17,M8 19 15 18,rM 0 19])))<|sR [rM 20 0,rR 21 (rF aU [.t 20]),rM 2 21] <|.ret,none⟩
def sU:aq:=⟨1,16,[(2,none)],sR [v1 2] <|.seq (sR [rM 4 0,v3 5 4,rM 3 5]<|sR [rM 6 3,AS 7 6,rM 8 7,kQ 9 0 8,kQ 10 3 8,MW 11 10 8,L4 12 9 11 8,Di 13 12 8,MV 14 13 8,rj 15 8 14]<|cT 15 (sR [Io 2] <|.ret) .skip)<|sR [v1 2] <|.ret,none⟩
def py:aq:=⟨2,14,[(4,some (some 2))],sR [lU 2 0,lU 3 1,mI 4]<|sR [v7 8 2,v7 9 3,rR 10 (rF kY [.t 8,.t 9]),rM 7 10,v0 11 0 7,v0 12 1 7,mI 5,km 5 11,rM 6 12]<|sR [v7 13 5,km 4 13] <|.ret,none⟩
def nB:aq:=⟨2,9,[(3,none)],sR [v8 3]<|sR [v2 4 1,rM 5 0,L5 6 4 5,rR 7 (rF de [.t 6]),v9 8 7,rM 3 8] <|.ret,none⟩
def nA:aq:=⟨2,9,[(3,none)],sR [v8 3]<|sR [v2 4 1,rM 5 0,L5 6 4 5,rR 7 (rF de [.t 6]),L8 8 7,rM 3 8] <|.ret,none⟩
def cE:aq:=⟨2,9,[(4,none)],sR [v8 4]<|sR [rM 5 0,rM 6 1,rR 7 (rF aO [.t 5,.t 6]),Jy 8 7,rM 4 8] <|.ret,none⟩
def c_P_rows_form_put:aq:=⟨2,79,[],sR [rM 8 0,rM 9 1,rR 10 (rF dx [.t 8,.t 9]),rM 1 10]<|sR [rM 11 1,rR 12 (rF fK [.t 11]),rM 4 12] <|.seq (sR [rM 13 4,L8 14 13]<|cT 14 .ret .skip) <|.seq (sR [rM 15 1,rM 16 4,yW 17 15 16,v6 18 0 17,v2 19 18]<|cT 19 (.region [rM 21 1,rR 22 (rF eJ [rI (-1)]),rR 23 (rF eG [.t 21,.t 22]),rM 20 23,v0 24 0 20,v0 25 1 20,rM 1 24]) .skip) <|.seq (sR [rM 26 0,nJ 27 26,v6 28 0 27,v2 29 28,v3 30 29,v1 31]<|dJ 0 1 31 30 32 46 (sR [rM 33 31,fe 34 29 31,v2 35 34,rM 5 33,rM 6 35] <|.draw [⟨some 36,.mv (.t 0),none,[(0,none)],0,[(0,[]),(1,[])]⟩,⟨some 37,.nilCheck (.t 36),none,[(36,some 0)],0,[(0,[]),(1,[])]⟩,⟨some 38,.fieldAddr 0 (.t 37),none,[(37,some 1)],0,[(0,[]),(1,[])]⟩,⟨some 39,.load none (.t 38),none,[(38,some 2)],0,[(0,[]),(1,[])]⟩,⟨some 40,.mv (.t 5),none,[(5,none)],0,[(0,[]),(1,[])]⟩,v4 41 6 6,v4 42 1 1,v4 43 4 4,rQ 44 (rF fk [.t 41,.t 42,.t 43]) [(41,some 5),(42,some 6),(43,some 7)] 2,⟨some 45,.indexAddr 1 (.t 39) (.t 40),none,[(39,some 3),(40,some 4)],0,[(1,[])]⟩,⟨none,.store 1 (.t 45) (.t 44),none,[(45,some 9),(44,some 8)],2,[(1,[])]⟩] []))<|sR [v1 7] <|.seq (ir 2 (.seq (sR [rM 47 7,rM 48 0,nJ 49 48,v6 50 0 49,v2 51 50,v3 52 51,yN 53 47 52,rM 54 53,kQ 55 0 54,rG 56 (.nilCheck (.t 55)) 54 true,LC 57 0 56 54,Di 58 57 54,kQ 59 7 54,L4 60 58 59 54,Di 61 60 54,rG 62 (rF fK [.t 61]) 54 true,kQ 63 4 54,rG 64 (rF jc [.t 62,.t 63]) 54 true,rj 65 54 64]<|cT 65 .skip (.exit 2)) <|.block 3 (.region [rM 66 7,tM 67 66,rM 7 67]))) <|.region [rM 68 0,rM 69 0,nJ 70 69,v6 71 0 70,v2 72 71,rM 73 7,rM 74 1,Dk 75 74,rR 76 (rF bi [.t 72,.t 73,.t 75]),nJ 77 68,v6 78 0 77,AR 78 76],none⟩
def sO:aq:=⟨1,24,[(2,none),(3,none)],sR [v5 2,v1 3]<|sR [rM 7 0,rR 8 (rF i8 [.t 7]),rM 6 8,v0 9 0 6,v0 10 1 6,rR 4 (.alloc ai [.nilSl]),AR 4 9,rM 5 10] <|.seq (.block 0 (sR [rM 12 5,v9 13 12,rM 11 13]<|cT 11 (sR [rM 14 5,v5 2,rM 3 14] <|.ret) (sR [v2 16 4,v3 17 16,Dl 18 17,rM 15 18]<|cT 15 (sR [rM 19 0,rR 20 (rF kC [.t 19]),rM 2 20,v1 3] <|.ret) .skip)))<|sR [rM 21 0,rR 22 (.mkfn (.func gZ) [] [.t 4]),MX 23 21 22,rM 2 23,v1 3] <|.ret,none⟩
def qV:aq:=⟨1,16,[(2,some none)],sR [L9 1 0,rR 2 (.alloc dK [(.int .i64 0)])] <|.seq (sR [v2 4 1,v3 5 4,rR 6 (rF i9 [.t 5])] <|.block 0 (.rangeFunc (.t 6) [7] (.region [rM 3 7]) (.block 1 (sR [v2 8 1,rM 9 3,yW 10 8 9,v6 11 1 10,v2 12 11,v3 13 12,AS 14 13]<|cT 14 (sR [rM 15 3,AR 2 15] <|.ret) .skip))))<|sR [rN (.store 1 (.t 2) (rI (-1)))] <|.ret,none⟩
def oB:aq:=⟨3,44,[(6,none)],sR [v5 6] <|.seq (sR [rM 11 0,rM 12 2,yW 13 11 12,v6 14 1 13,v2 15 14,v3 16 15,Dl 17 16]<|cT 17 (sR [rM 18 0,rM 6 18] <|.ret) .skip)<|sR [rM 20 0,rM 21 2,yW 22 20 21,v7 23 22,rR 24 (rF jp [.t 23]),rM 19 24,v0 25 0 19,v0 26 1 19,mI 7,km 7 25,rM 8 26] <|.seq (.draw [v4 28 1 1,v4 29 2 2,Kg 30 28 29 28 0 29 1,LE 31 30 30 2,v4 32 0 0,Kf 33 7 7,v4 34 1 1,rQ 35 (rF mi [.t 31,.t 32,.t 33,.t 34]) [(31,some 3),(32,some 4),(33,some 5),(34,some 6)] 2,⟨some 27,.mv (.t 35),none,[(35,some 7)],0,[(1,[])]⟩,⟨some 36,.extract 0 (.t 27),none,[(27,some 8)],0,[(1,[])]⟩,⟨some 37,.extract 1 (.t 27),none,[(27,some 8)],0,[(1,[])]⟩,⟨some 9,.mv (.t 36),none,[(36,some 9)],0,[(1,[])]⟩,⟨some 10,.mv (.t 37),none,[(37,some 10)],0,[(1,[])]⟩] [])<|sR [rM 39 9,rR 40 (rF gM [.t 39]),rM 38 40,v0 41 0 38,v0 42 1 38,rM 9 41]<|sR [rM 43 9,rM 6 43] <|.ret,none⟩
def pB:aq:=⟨2,11,[(4,some (some 2))],sR [lU 3 1,mI 4] <|.seq (.draw [⟨some 5,.fieldAddr 0 (.t 3),none,[(3,none)],0,[(0,[]),(1,[])]⟩,⟨some 6,.load none (.t 5),none,[(5,some 0)],0,[(0,[]),(1,[])]⟩,MU 7 1 3 3,lH 8 7 7 2,rQ 9 (rF aC [.t 8]) [(8,some 3)] 2,⟨some 10,.build [(.bool false),.nilSl] [((0,1),(.t 6)),((1,1),(.t 9))],none,[(6,some 1),(9,some 4)],0,[(1,[])]⟩,⟨none,.store 2 (.t 4) (.t 10),none,[(4,none),(10,some 5)],2,[(1,[])]⟩] []) <|.ret,none⟩
def dB:aq:=⟨2,19,[(4,none)],sR [v1 4] <|.seq (sR [rM 6 0,v3 7 6,v1 8]<|dJ 0 1 8 7 9 18 (sR [rM 10 8,rM 5 10]<|sR [rM 11 1,rM 12 0,rM 13 5,yW 14 12 13,v7 15 14,rR 16 (.call (.t 11) [.t 15])]<|cT 16 (sR [rM 17 5,rM 4 17] <|.ret) .skip))<|sR [L7 4] <|.ret,none⟩
def eH:aq:=⟨2,26,[(4,none)],sR [v8 4] <|.seq (sR [rM 6 0,v3 7 6,rM 8 1,v3 9 8,Dh 10 7 9]<|cT 10 (sR [v8 4] <|.ret) .skip) <|.seq (sR [rM 11 0,v3 12 11,v1 13]<|dJ 0 1 13 12 14 25 (sR [rM 15 13,rM 5 15] <|.seq (.draw [v4 16 0 0,v4 17 5 5,ri 18 16 17 16 0 17 1,lH 19 18 18 2,v4 20 1 1,v4 21 5 5,ri 22 20 21 20 4 21 5,lH 23 22 22 6,Ko 24 19 23 19 3 23 7] [])<|cT 24 (sR [v8 4] <|.ret) .skip))<|sR [yV 4] <|.ret,none⟩
def sL:aq:=⟨2,19,[(4,none),(5,none)],sR [lU 2 0,lU 3 1,v1 4,v1 5]<|sR [v7 9 2,v7 10 3,rR 11 (rF kX [.t 9,.t 10]),rM 8 11,v0 12 0 8,v0 13 1 8,mI 6,km 6 12,rM 7 13] <|.seq (sR [rM 14 7,v9 15 14]<|cT 15 (sR [rM 16 7,v1 4,rM 5 16] <|.ret) .skip)<|sR [v7 17 6,rR 18 (rF gW [.t 17]),rM 4 18,v1 5] <|.ret,none⟩
def ii:aq:=⟨3,26,[(6,none)],sR [v8 6] <|.seq (sR [rM 8 0,v3 9 8,rM 10 1,rR 11 (.bin .gtr .int (.t 9) (.t 10))]<|cT 11 (sR [yV 6] <|.ret) .skip) <|.seq (sR [v1 7]<|ir 0 (.seq (sR [rM 12 7,rM 13 0,v3 14 13,yN 15 12 14]<|cT 15 .skip (.exit 0)) <|.seq (.block 1 (sR [rM 18 0,rM 19 7,yW 20 18 19,v6 21 1 20,v2 22 21,v3 23 22,rM 24 2,rR 25 (.bin .gtr .int (.t 23) (.t 24))]<|cT 25 (sR [yV 6] <|.ret) .skip)) <|.region [rM 16 7,tM 17 16,rM 7 17]))<|sR [v8 6] <|.ret,none⟩
def vN:aq:=⟨2,14,[(4,some (some 2))],sR [mI 4]<|sR [rM 8 0,rM 9 1,rR 10 (rF j8 [.t 8,.t 9]),rM 7 10,v0 11 0 7,v0 12 1 7,mI 5,km 5 11,rM 6 12]<|sR [v7 13 5,km 4 13] <|.ret,none⟩
def sW:aq:=⟨1,11,[(2,none)],sR [lU 1 0,v1 2]<|sR [v7 6 1,rR 7 (rF gX [.t 6]),rM 5 7,v0 8 0 5,v0 9 1 5,rM 3 8,rM 4 9]<|sR [rM 10 3,rM 2 10] <|.ret,none⟩
def jF:aq:=⟨2,48,[(4,none)],sR [v5 4]<|sR [rM 10 0,nJ 11 10,v6 12 2 11,v2 13 12,v3 14 13,L3 15 14,tM 16 15,LB 17 16 16,rM 5 17]<|sR [rM 19 1,rM 20 0,nJ 21 20,v6 22 2 21,v2 23 22,rR 24 (rF lf [.t 19,.t 23]),rM 18 24,v0 25 0 18,v0 26 1 18,rM 6 25,rM 7 26] <|.seq (sR [rM 27 6,v3 28 27,v1 29]<|dJ 0 1 29 28 30 46 (sR [rM 31 29,fe 32 27 29,v2 33 32,rM 8 31,rM 9 33]<|sR [rM 34 9,Dl 35 34]<|cT 35 (.draw [v4 36 5 5,v4 37 8 8,rQ 38 (.bin .quo .int (.t 37) (rI 64)) [(37,some 1)] 0,ri 39 36 38 36 0 38 2,lH 40 39 39 3,v4 41 8 8,rQ 42 (.bin .rem .int (.t 41) (rI 64)) [(41,some 5)] 0,rQ 43 (.bin .shl .int (.c (.int .u64 1)) (.t 42)) [(42,some 6)] 0,rQ 44 (.bin .or .int (.t 40) (.t 43)) [(40,some 4),(43,some 7)] 0,ri 45 36 38 36 0 38 2,⟨none,.store 1 (.t 45) (.t 44),none,[(45,some 9),(44,some 8)],2,[(0,[])]⟩] []) .skip))<|sR [rM 47 5,rM 4 47] <|.ret,none⟩
def sX:aq:=⟨3,37,[(6,none)],sR [v8 6] <|.seq (sR [rM 9 0,v3 10 9,v1 11]<|dJ 0 1 11 10 12 36 (sR [rM 13 11,fe 14 9 11,v2 15 14,rM 7 13,rM 8 15] <|.seq (.draw [v4 16 7 7,v4 17 1 1,Ko 18 16 17 16 0 17 1,Hz 19 18 18 2,⟨some 20,.mv (.t 7),(some (19,true)),[(7,none),(19,some 3)],0,[(0,[])]⟩,⟨some 21,.mv (.t 2),(some (19,true)),[(2,none),(19,some 3)],0,[(0,[])]⟩,⟨some 22,.bin .neq .int (.t 20) (.t 21),(some (19,true)),[(20,some 4),(21,some 5),(19,some 3)],0,[(0,[])]⟩,Ks 23 19 22 19 3 22 6,Hz 24 23 23 7,⟨some 25,.mv (.t 8),(some (24,true)),[(8,none),(24,some 8)],0,[(0,[])]⟩,⟨some 26,.mv (.t 0),(some (24,true)),[(0,none),(24,some 8)],0,[(0,[])]⟩,⟨some 27,.mv (.t 1),(some (24,true)),[(1,none),(24,some 8)],0,[(0,[])]⟩,⟨some 28,.indexAddr 1 (.t 26) (.t 27),(some (24,true)),[(26,some 10),(27,some 11),(24,some 8)],0,[(0,[])]⟩,⟨some 29,.load none (.t 28),(some (24,true)),[(28,some 12),(24,some 8)],0,[(0,[])]⟩,⟨some 30,.mv (.t 0),(some (24,true)),[(0,none),(24,some 8)],0,[(0,[])]⟩,⟨some 31,.mv (.t 2),(some (24,true)),[(2,none),(24,some 8)],0,[(0,[])]⟩,⟨some 32,.indexAddr 1 (.t 30) (.t 31),(some (24,true)),[(30,some 14),(31,some 15),(24,some 8)],0,[(0,[])]⟩,⟨some 33,.load none (.t 32),(some (24,true)),[(32,some 16),(24,some 8)],0,[(0,[])]⟩,⟨some 34,rF mR [.t 25,.t 29,.t 33],(some (24,true)),[(25,some 9),(29,some 13),(33,some 17),(24,some 8)],2,[(0,[])]⟩,⟨some 35,.pick (.t 24) (.t 34) (.c (.bool false)),none,[(24,some 8),(34,some 18)],0,[(1,[])]⟩] [])<|cT 35 (sR [v8 6] <|.ret) .skip))<|sR [yV 6] <|.ret,none⟩
def vK:aq:=⟨1,11,[(2,some (some 2))],sR [lU 1 0,mI 2]<|sR [v7 6 1,rR 7 (rF jp [.t 6]),rM 5 7,v0 8 0 5,v0 9 1 5,mI 3,km 3 8,rM 4 9]<|sR [v7 10 3,km 2 10] <|.ret,none⟩
def vL:aq:=⟨4,25,[(8,none)],sR [lU 4 0,lU 6 2,v5 8]<|sR [v7 12 4,rM 13 1,v7 14 6,rM 15 3,rR 16 (rF mi [.t 12,.t 13,.t 14,.t 15]),rM 11 16,v0 17 0 11,v0 18 1 11,rM 9 17,rM 10 18]<|sR [rM 20 9,rR 21 (rF gM [.t 20]),rM 19 21,v0 22 0 19,v0 23 1 19,rM 9 22]<|sR [rM 24 9,rM 8 24] <|.ret,none⟩
def dL:aq:=⟨1,8,[(2,none)],sR [v5 2] <|.seq (sR [rM 3 0,rR 4 (.bin .eql .sl (.t 3) (.c .nilSl))]<|cT 4 (sR [v5 2] <|.ret) .skip)<|sR [rR 5 (.buildSlice ae 1 [] 0 []),rM 6 0,Dj 7 5 6,rM 2 7] <|.ret,none⟩
def dC:aq:=⟨3,33,[(6,none)],sR [v5 6]<|sR [rM 8 0,rM 9 1,rM 10 2,rM 11 0,v3 12 11,rR 13 (.slice 1 (.t 8) (some (.t 9)) (some (.t 10)) (some (.t 12)))] <|.seq (sR [rM 14 1,rM 15 2,rR 16 (.bin .eql .int (.t 14) (.t 15))]<|cT 16 (sR [rM 17 0,rM 6 17] <|.ret) .skip)<|sR [rM 18 0,v3 19 18,rM 7 19] <|.seq (.draw [v4 20 0 0,v4 21 1 1,rQ 22 (.slice 1 (.t 20) none (some (.t 21)) none) [(20,some 0),(21,some 1)] 0,v4 23 0 0,v4 24 2 2,rQ 25 (.slice 1 (.t 23) (some (.t 24)) none none) [(23,some 3),(24,some 4)] 0,rQ 26 (.append 1 24 ae [.nilSl] (.t 22) (.t 25)) [(22,some 2),(25,some 5)] 2,⟨some 0,.mv (.t 26),none,[(26,some 6)],0,[(1,[])]⟩] [])<|sR [rM 27 0,rM 28 0,v3 29 28,rM 30 7,rR 31 (.slice 1 (.t 27) (some (.t 29)) (some (.t 30)) none),rN (.clear 1 [.nilSl] (.t 31))]<|sR [rM 32 0,rM 6 32] <|.ret,none⟩
def iB:aq:=⟨2,26,[(4,none)],sR [v8 4] <|.seq (sR [rM 6 0,v3 7 6,rM 8 1,v3 9 8,Dh 10 7 9]<|cT 10 (sR [v8 4] <|.ret) .skip) <|.seq (sR [v1 5]<|ir 0 (.seq (sR [rM 11 5,rM 12 0,v3 13 12,yN 14 11 13]<|cT 14 .skip (.exit 0)) <|.seq (.block 1 (.seq (.draw [v4 17 0 0,v4 18 5 5,ri 19 17 18 17 0 18 1,lH 20 19 19 2,v4 21 1 1,v4 22 5 5,ri 23 21 22 21 4 22 5,lH 24 23 23 6,Ko 25 20 24 20 3 24 7] [])<|cT 25 (sR [v8 4] <|.ret) .skip)) <|.region [rM 15 5,tM 16 15,rM 5 16]))<|sR [yV 4] <|.ret,none⟩
def oz:aq:=⟨1,6,[(2,none)],sR [lU 1 0,v8 2]<|sR [v7 3 1,LZ 4 3,v9 5 4,rM 2 5] <|.ret,none⟩
def sM:aq:=⟨2,18,[(4,some (some 2)),(5,none)],sR [lU 2 0,lU 3 1,mI 4,v1 5] <|.seq (sR [v7 7 2,v7 8 3,MT 9 7 8,MS 10 9,rM 6 10]<|sR [rM 11 6,v9 12 11]<|cT 12 (sR [LA 13,rM 14 6,km 4 13,rM 5 14] <|.ret) .skip)<|sR [v7 15 2,v7 16 3,rR 17 (rF jm [.t 15,.t 16]),km 4 17,v1 5] <|.ret,none⟩
def eR:aq:=⟨1,9,[(2,none)],sR [v5 2]<|sR [rM 3 0,rM 4 0,v3 5 4,rM 6 0,v3 7 6,rR 8 (.slice 1 (.t 3) none (some (.t 5)) (some (.t 7))),rM 2 8] <|.ret,none⟩
def sK:aq:=⟨2,32,[(4,some (some 2)),(5,none)],sR [lU 2 0,lU 3 1,mI 4,v1 5] <|.seq (sR [v7 9 2,v7 10 3,MT 11 9 10,MS 12 11,rM 6 12]<|sR [rM 13 6,v9 14 13]<|cT 14 (sR [LA 15,rM 16 6,km 4 15,rM 5 16] <|.ret) .skip)<|sR [v6 18 1 2,v2 19 18,v6 20 1 3,v2 21 20,rR 22 (rF oS [.t 19,.t 21]),rM 17 22,v0 23 0 17,v0 24 1 17,rM 7 23,rM 8 24]<|sR [v6 25 0 2,v2 26 25,v6 27 0 3,v2 28 27,rR 29 (.bin .neq .bool (.t 26) (.t 28)),rM 30 7,Lv 31 29 30,km 4 31,v1 5] <|.ret,none⟩
def pF:aq:=⟨2,21,[(4,none)],sR [v8 4]<|sR [rM 5 0,rM 6 1,Dh 7 5 6,rM 8 7,kQ 9 0 8,rG 10 (.bin .neq .int (.t 9) (rI 0)) 8 true,rj 11 8 10,rM 12 11,kQ 13 1 12,M9 14 13 12,kQ 15 14 12,kR 16 0 15,kR 17 1 15,rG 18 (.bin .lss .int (.t 16) (.t 17)) 15 false,rG 19 (.pick (.t 15) (.c (.bool true)) (.t 18)) 12 true,rj 20 12 19,rM 4 20] <|.ret,none⟩
def dA:aq:=⟨3,3,[],.skip,(some (.insert 1 24 ae))⟩
def pC:aq:=⟨1,25,[(2,none),(3,none)],sR [v5 2,v1 3] <|.seq (sR [rM 6 0,Dk 7 6,LG 8 7,rM 3 8]<|sR [rM 9 3,v9 10 9]<|cT 10 .ret .skip) <|.seq (sR [rM 11 0,v3 12 11,v1 13]<|dJ 0 1 13 12 14 24 (sR [yW 15 11 13,v7 16 15,mI 5,km 5 16] <|.region [rM 18 2,v6 19 1 5,v2 20 19,rR 21 (rF oU [.t 18,.t 20]),rM 17 21,v0 22 0 17,v0 23 1 17,rM 2 22])) <|.ret,none⟩
def oy:aq:=⟨3,16,[(5,some (some 2))],sR [lU 4 1,mI 5]<|sR [v7 9 4,v2 10 2,rR 11 (.build [(.bool false),.nilSl] [((1,1),(.t 10))]),rR 12 (rF iW [.t 9,.t 11]),rM 8 12,v0 13 0 8,v0 14 1 8,mI 6,km 6 13,rM 7 14]<|sR [v7 15 6,km 5 15] <|.ret,none⟩
def pD:aq:=⟨1,4,[(2,none)],sR [rR 1 (.box dK (.t 0)),rC 2 .nilFn]<|sR [rR 3 (.mkfn (.func dm) [] [.t 1]),rM 2 3] <|.ret,none⟩
def sJ:aq:=⟨1,18,[(2,some (some 2)),(3,none)],sR [lU 1 0,mI 2,v1 3] <|.seq (sR [v7 5 1,LZ 6 5,rM 4 6]<|sR [rM 7 4,v9 8 7]<|cT 8 (sR [LA 9,rM 10 4,km 2 9,rM 3 10] <|.ret) .skip) <|.seq (.draw [⟨some 11,.fieldAddr 0 (.t 1),none,[(1,none)],0,[(0,[]),(1,[])]⟩,⟨some 12,.load none (.t 11),none,[(11,some 0)],0,[(0,[]),(1,[])]⟩,⟨some 13,.un .not (.t 12),none,[(12,some 1)],0,[(0,[]),(1,[])]⟩,MU 14 1 1 1,lH 15 14 14 3,rQ 16 (rF aC [.t 15]) [(15,some 4)] 2,⟨some 17,rF dO [.t 13,.t 16],none,[(13,some 2),(16,some 5)],2,[(1,[])]⟩,⟨none,.store 2 (.t 2) (.t 17),none,[(2,none),(17,some 6)],2,[(2,[])]⟩,⟨some 3,.mv (rI 0),none,[],0,[(3,[])]⟩] []) <|.ret,none⟩
def xm:aq:=⟨4,29,[(8,none),(9,none)],sR [lU 4 0,lU 6 2,L9 7 3,v5 8,v1 9] <|.seq (sR [v7 11 4,LZ 12 11,v9 13 12,rM 14 13,rG 15 (.load (some 2) (.t 6)) 14 false,rG 16 (rF dZ [.t 15]) 14 false,Kh 17 16 14,mG 18 14 17]<|cT 18 (sR [v5 8,Io 9] <|.ret) .skip) <|.seq (sR [rM 19 1,v2 20 7,Kk 21 19 20,LG 22 21,rM 10 22]<|sR [rM 23 10,v9 24 23]<|cT 24 (sR [rM 25 10,v5 8,rM 9 25] <|.ret) .skip)<|sR [rM 26 1,rR 27 (.mkfn (.func jI) [] [.t 4,.t 6,.t 7]),MX 28 26 27,rM 8 28,v1 9] <|.ret,none⟩
def eI:aq:=⟨1,8,[(2,none)],sR [v5 2] <|.seq (sR [rM 3 0,rR 4 (.bin .eql .sl (.t 3) (.c .nilSl))]<|cT 4 (sR [v5 2] <|.ret) .skip)<|sR [rR 5 (.buildSlice ad 1 [] 0 []),rM 6 0,MR 7 5 6,rM 2 7] <|.ret,none⟩
def sI:aq:=⟨2,23,[(4,some (some 2)),(5,none)],sR [lU 2 0,lU 3 1,mI 4,v1 5] <|.seq (sR [v7 7 2,v7 8 3,MT 9 7 8,MS 10 9,rM 6 10]<|sR [rM 11 6,v9 12 11]<|cT 12 (sR [LA 13,rM 14 6,km 4 13,rM 5 14] <|.ret) .skip) <|.seq (.draw [⟨some 15,.load (some 2) (.t 2),none,[(2,none)],0,[(0,[]),(1,[])]⟩,MU 16 0 3 3,lH 17 16 16 1,rQ 18 (.un .not (.t 17)) [(17,some 2)] 0,MU 19 1 3 3,lH 20 19 19 4,rQ 21 (rF dO [.t 18,.t 20]) [(18,some 3),(20,some 5)] 2,⟨some 22,rF jm [.t 15,.t 21],none,[(15,some 0),(21,some 6)],2,[(1,[])]⟩,⟨none,.store 2 (.t 4) (.t 22),none,[(4,none),(22,some 7)],2,[(2,[])]⟩,⟨some 5,.mv (rI 0),none,[],0,[(3,[])]⟩] []) <|.ret,none⟩
def qO:aq:=⟨1,16,[(2,none)],sR [lU 1 0,v1 2]<|sR [v6 4 0 1,v2 5 4,v6 6 1 1,v2 7 6,v3 8 7,Dl 9 8,rR 10 (.build [(.bool false),(.bool false)] [((0,1),(.t 5)),((1,1),(.t 9))]),rR 3 (.alloc FY [(.bool false),(.bool false)]),km 3 10] <|.seq (sR [v7 11 3,rR 12 (.build [(.bool false),(.bool false)] [((0,1),(.c (.bool false))),((1,1),(.c (.bool true)))]),rR 13 (.eqAgg false 0 (.t 11) (.t 12))]<|cT 13 (sR [v1 2] <|.ret) .skip) <|.seq (sR [v6 14 0 1,v2 15 14]<|cT 15 (sR [L7 2] <|.ret) .skip)<|sR [rR 2 (.mv (rI 1))] <|.ret,none⟩
def xn:aq:=⟨2,30,[(4,some (some 2)),(5,none)],sR [mI 4,v1 5] <|.seq (sR [rM 8 0,rM 9 1,Kk 10 8 9,LG 11 10,rM 5 11]<|sR [rM 12 5,v9 13 12]<|cT 13 .ret .skip) <|.seq (sR [rM 14 0,v3 15 14,v1 16]<|dJ 0 1 16 15 17 29 (sR [rM 18 16,yW 19 14 16,v7 20 19,mI 7,rM 6 18,km 7 20] <|.draw [⟨some 21,.load (some 2) (.t 4),none,[(4,none)],0,[(0,[]),(1,[])]⟩,Kf 22 7 7,v4 23 1 1,v4 24 6 6,Kg 25 23 24 23 2 24 3,LE 26 25 25 4,rQ 27 (rF d8 [.t 22,.t 26]) [(22,some 1),(26,some 5)] 2,⟨some 28,rF jZ [.t 21,.t 27],none,[(21,some 0),(27,some 6)],2,[(1,[])]⟩,⟨none,.store 2 (.t 4) (.t 28),none,[(4,none),(28,some 7)],2,[(2,[])]⟩] [])) <|.ret,none⟩
def qQ:aq:=⟨1,12,[(2,none),(3,none)],sR [lU 1 0,v1 2,v1 3] <|.seq (sR [v7 5 1,LZ 6 5,rM 4 6]<|sR [rM 7 4,v9 8 7]<|cT 8 (sR [rM 9 4,v1 2,rM 3 9] <|.ret) .skip)<|sR [v7 10 1,rR 11 (rF gW [.t 10]),rM 2 11,v1 3] <|.ret,none⟩
def c_sat_Signs:aq:=⟨2,55,[(4,none),(5,none)],sR [v5 4,v1 5] <|.seq (sR [rM 12 1,LF 13 12,rM 5 13]<|sR [rM 14 5,v9 15 14]<|cT 15 .ret .skip) <|.seq (.block 0 (sR [rM 17 0,rR 18 (rF fj [.t 17]),v9 19 18,rM 16 19]<|cT 16 (sR [v5 4,Io 5] <|.ret) (sR [rM 21 1,v3 22 21,AS 23 22,rM 24 23,kQ 25 1 24,rG 26 (.indexAddr 1 (.t 25) (rI 0)) 24 true,Di 27 26 24,FG 28 27 24,kQ 29 0 24,FG 30 29 24,MY 31 28 30 24,rj 32 24 31,rM 20 32]<|cT 20 (sR [v5 4,Kj 5] <|.ret) .skip))) <|.seq (sR [rM 33 1,v3 34 33,v1 35]<|dJ 1 2 35 34 36 54 (sR [fe 37 33 35,v2 38 37,rM 7 38]<|sR [rM 40 0,rM 41 7,rR 42 (rF j8 [.t 40,.t 41]),rM 39 42,v0 43 0 39,v0 44 1 39,mI 8,km 8 43,rM 9 44]<|sR [v7 46 8,rR 47 (rF gX [.t 46]),rM 45 47,v0 48 0 45,v0 49 1 45,rM 10 48,rM 11 49] <|.region [rM 50 4,rM 51 10,rR 52 (.buildSlice dK 1 [(.int .i64 0)] 1 [((0,1),(.t 51))]),rR 53 (.append 1 8 dK [(.int .i64 0)] (.t 50) (.t 52)),rM 4 53])) <|.ret,none⟩
def vM:aq:=⟨3,29,[(6,none)],sR [v8 6] <|.seq (sR [rM 9 0,v3 10 9,v1 11]<|dJ 0 1 11 10 12 28 (sR [rM 13 11,fe 14 9 11,v2 15 14,rM 7 13,rM 8 15] <|.seq (.draw [v4 16 1 1,v4 17 7 7,ri 18 16 17 16 0 17 1,lH 19 18 18 2,v4 20 2 2,v4 21 7 7,ri 22 20 21 20 4 21 5,lH 23 22 22 6,rQ 24 (.bin .and .int (.t 19) (.t 23)) [(19,some 3),(23,some 7)] 0,v4 25 8 8,rQ 26 (.bin .andNot .int (.t 24) (.t 25)) [(24,some 8),(25,some 9)] 0,rQ 27 (.bin .neq .int (.t 26) (.c (.int .u64 0))) [(26,some 10)] 0] [])<|cT 27 (sR [v8 6] <|.ret) .skip))<|sR [yV 6] <|.ret,none⟩
def nz:aq:=⟨1,18,[(2,none)],sR [v1 2] <|.seq (sR [rM 6 0,v3 7 6,v1 8]<|dJ 0 1 8 7 9 17 (sR [yW 10 6 8,v7 11 10,mI 4,km 4 11]<|sR [v7 12 4,LZ 13 12,rM 5 13]<|sR [rM 14 5,v9 15 14]<|cT 15 (sR [rM 16 5,rM 2 16] <|.ret) .skip))<|sR [v1 2] <|.ret,none⟩
def sG:aq:=⟨2,54,[(4,some (some 2))],sR [lU 2 0,lU 3 1,mI 4] <|.seq (sR [v6 11 0 2,v2 12 11,v6 13 0 3,v2 14 13,rR 15 (.bin .eql .bool (.t 12) (.t 14))]<|cT 15 (sR [v6 17 1 2,v2 18 17,v6 19 1 3,v2 20 19,rR 21 (rF mo [.t 18,.t 20]),rM 16 21,v0 22 0 16,v0 23 1 16,rM 5 22,rM 6 23]<|sR [v6 24 0 2,v2 25 24,rM 26 5,Lv 27 25 26,km 4 27] <|.ret) .skip) <|.seq (sR [v6 29 1 2,v2 30 29,v6 31 1 3,v2 32 31,rR 33 (rF j9 [.t 30,.t 32]),rM 28 33,v0 34 0 28,v0 35 1 28,rM 7 34,rM 8 35]<|sR [rM 36 8,Dl 37 36]<|cT 37 (sR [v6 38 0 2,v2 39 38,rM 40 7,Lv 41 39 40,km 4 41] <|.ret) .skip)<|sR [v6 43 1 3,v2 44 43,v6 45 1 2,v2 46 45,rR 47 (rF j9 [.t 44,.t 46]),rM 42 47,v0 48 0 42,v0 49 1 42,rM 9 48,rM 10 49]<|sR [v6 50 0 3,v2 51 50,rM 52 9,Lv 53 51 52,km 4 53] <|.ret,none⟩
def xw:aq:=⟨2,12,[(4,none),(5,none)],sR [v5 4,v1 5]<|sR [rM 6 0,rM 7 1,rR 8 (.mkfn (.func cR) [rI 8] []),rR 9 (rF jd [.t 6,.t 7,.t 8]),v0 10 0 9,v0 11 1 9,rM 4 10,rM 5 11] <|.ret,none⟩
def xx:aq:=⟨2,31,[(4,none),(5,none)],sR [v5 4,v1 5] <|.seq (sR [rM 10 0,rM 11 1,Lz 12 10 11,rR 13 (rF je [.t 12]),rM 6 13]<|sR [rM 14 6,v9 15 14]<|cT 15 (sR [rM 16 6,v5 4,rM 5 16] <|.ret) .skip) <|.seq (ir 0 (.seq (sR [rM 17 1,v3 18 17,AS 19 18]<|cT 19 .skip (.exit 0)) <|.block 1 (sR [rM 21 0,rM 22 1,rR 23 (rF mp [.t 21,.t 22]),rM 20 23,v0 24 0 20,v0 25 1 20,v0 26 2 20,rM 7 24,rM 8 25,rM 9 26] <|.region [rM 27 1,rM 28 8,rM 0 27,rM 1 28])))<|sR [rM 29 0,rR 30 (.append 1 8 ad [(.int .u64 0)] (.c .nilSl) (.t 29)),rM 4 30,v1 5] <|.ret,none⟩
def pw:aq:=⟨2,27,[(4,some (some 2)),(5,none)],sR [lU 2 0,lU 3 1,mI 4,v1 5]<|sR [v7 11 2,v7 12 3,rR 13 (rF fI [.t 11,.t 12]),rM 10 13,v0 14 0 10,v0 15 1 10,v0 16 2 10,v0 17 3 10,mI 6,km 6 14,rM 7 15,rM 8 16,rM 9 17] <|.seq (.block 0 (sR [rM 19 9,v9 20 19,rM 18 20]<|cT 18 (sR [LA 21,rM 22 9,km 4 21,rM 5 22] <|.ret) (sR [rM 24 7,rM 23 24]<|cT 23 (sR [LA 25,km 4 25,rR 5 (.mv (rI 6))] <|.ret) .skip)))<|sR [v7 26 6,km 4 26,v1 5] <|.ret,none⟩
def mD:aq:=⟨2,17,[],.seq (sR [rR 3 (.mv (rI 1))]<|ir 0 (.seq (sR [rM 4 3,v2 5 1,yN 6 4 5]<|cT 6 .skip (.exit 0)) <|.seq (.block 1 (sR [rM 9 0,rM 10 3,rR 11 (.call (.t 9) [.t 10]),HB 12 11]<|cT 12 .ret .skip)) <|.region [rM 7 3,tM 8 7,rM 3 8]))<|sR [v2 13 1,AS 14 13]<|cT 14 (.region [rM 15 0,rR 16 (.call (.t 15) [rI 0])]) .skip,none⟩
def qS:aq:=⟨5,18,[(7,some (some 2))],sR [lU 6 1,mI 7] <|.seq (.draw [Kf 8 2 2,Kf 9 6 6,rQ 10 (rF d8 [.t 8,.t 9]) [(8,some 0),(9,some 1)] 2,⟨some 11,.load (some 2) (.t 3),none,[(3,none)],0,[(0,[]),(1,[])]⟩,⟨some 12,.load none (.t 4),none,[(4,none)],0,[(0,[]),(1,[])]⟩,⟨some 13,.mv (.t 0),none,[(0,none)],0,[(0,[]),(1,[])]⟩,⟨some 14,.indexAddr 2 (.t 12) (.t 13),none,[(12,some 4),(13,some 5)],0,[(0,[]),(1,[])]⟩,⟨some 15,.load (some 2) (.t 14),none,[(14,some 6)],0,[(0,[]),(1,[])]⟩,⟨some 16,rF d8 [.t 11,.t 15],none,[(11,some 3),(15,some 7)],2,[(1,[])]⟩,⟨some 17,rF jZ [.t 10,.t 16],none,[(10,some 2),(16,some 8)],2,[(2,[])]⟩,⟨none,.store 2 (.t 7) (.t 17),none,[(7,none),(17,some 9)],2,[(3,[])]⟩] []) <|.ret,none⟩
def xu:aq:=⟨2,27,[(4,none),(5,none)],sR [v5 4,v1 5] <|.seq (sR [rM 9 0,rM 10 1,Lz 11 9 10,rR 12 (rF fX [.t 11]),rM 6 12]<|sR [rM 13 6,v9 14 13]<|cT 14 (sR [rM 15 6,v5 4,rM 5 15] <|.ret) .skip)<|sR [rM 17 0,rM 18 1,rR 19 (rF hZ [.t 17,.t 18,(.c (.fn (.func cz) [] []))]),rM 16 19,v0 20 0 16,v0 21 1 16,rM 7 20,rM 8 21]<|sR [rM 22 7,rM 23 8,Kr 24 23,MR 25 22 24,L6 26 25,rM 4 26,v1 5] <|.ret,none⟩
def xq:aq:=⟨2,26,[(4,none),(5,none)],sR [v5 4,v1 5] <|.seq (sR [rM 9 0,rM 10 1,Lz 11 9 10,rR 12 (rF fX [.t 11]),rM 6 12]<|sR [rM 13 6,v9 14 13]<|cT 14 (sR [rM 15 6,v5 4,rM 5 15] <|.ret) .skip)<|sR [rM 17 0,rM 18 1,rR 19 (rF hZ [.t 17,.t 18,(.c (.fn (.func cN) [] []))]),rM 16 19,v0 20 0 16,v0 21 1 16,rM 7 20,rM 8 21] <|.seq (sR [rM 22 8,Kn 23 22]<|cT 23 (sR [v5 4,rR 5 (.mv (rI 10))] <|.ret) .skip)<|sR [rM 24 7,L6 25 24,rM 4 25,v1 5] <|.ret,none⟩
def jE:aq:=⟨3,76,[(6,none)],sR [v5 6] <|.seq (sR [rM 15 1,v3 16 15,rM 17 2,v3 18 17,rR 19 (.min [.t 16,.t 18]),rM 20 0,rR 21 (.bin .leq .int (.t 19) (.t 20))]<|cT 21 (sR [rM 22 1,rM 23 2,rR 24 (rF jL [.t 22,.t 23]),rM 6 24] <|.ret) .skip)<|sR [rM 25 1,v3 26 25,rM 27 2,v3 28 27,rR 29 (.max [.t 26,.t 28]),tM 30 29,rR 31 (.bin .quo .int (.t 30) (rI 2)),rM 7 31]<|sR [rM 33 1,rM 34 7,rR 35 (rF jr [.t 33,.t 34]),rM 32 35,v0 36 0 32,v0 37 1 32,rM 8 36,rM 9 37]<|sR [rM 39 2,rM 40 7,rR 41 (rF jr [.t 39,.t 40]),rM 38 41,v0 42 0 38,v0 43 1 38,rM 10 42,rM 11 43]<|sR [rM 44 0,rM 45 8,rM 46 10,Km 47 44 45 46,rM 48 0,rM 49 9,rM 50 11,Km 51 48 49 50,rM 12 47,rM 13 51]<|sR [rM 52 0,rM 53 8,rM 54 9,Lz 55 53 54,rR 56 (rF ka [.t 55]),rM 57 10,rM 58 11,Lz 59 57 58,rR 60 (rF ka [.t 59]),Km 61 52 56 60,rM 62 12,rM 63 13,Lz 64 62 63,rR 65 (rF mP [.t 61,.t 64]),rM 14 65]<|sR [rM 66 12,rM 67 14,rM 68 7,rR 69 (rF nV [.t 67,.t 68]),rM 70 13,rM 71 7,rR 72 (.bin .mul .int (rI 2) (.t 71)),rR 73 (rF nV [.t 70,.t 72]),rR 74 (.buildSlice ai 1 [.nilSl,.nilSl,.nilSl] 3 [((0,1),(.t 66)),((1,1),(.t 69)),((2,1),(.t 73))]),rR 75 (rF ka [.t 74]),rM 6 75] <|.ret,none⟩
def pI:aq:=⟨3,27,[(6,none),(7,none)],sR [v5 6,v1 7] <|.seq (sR [rM 11 0,rM 12 1,Kt 13 11 12,v1 14]<|ir 0 (sR [rR 15 (.bin .lss .int (.t 14) (rI 2))] <|.seq (cT 15 .skip (.exit 0)) <|.seq (.block 1 (sR [rR 16 (.indexAgg 2 1 none (.t 13) (.t 14)),rM 9 16]<|sR [rM 17 9,Ki 18 17,rM 10 18]<|sR [rM 19 10,v9 20 19]<|cT 20 (sR [rM 21 10,v5 6,rM 7 21] <|.ret) .skip)) <|.region [tM 22 14,rM 14 22]))<|sR [rM 23 2,rM 24 0,rM 25 1,LD 26 23 24 25,rM 6 26,v1 7] <|.ret,none⟩
def pJ:aq:=⟨1,18,[(2,none)],sR [v1 2] <|.seq (sR [rM 6 0,v3 7 6,v1 8]<|dJ 0 1 8 7 9 17 (sR [fe 10 6 8,v2 11 10,rM 4 11]<|sR [rM 12 4,Ki 13 12,rM 5 13]<|sR [rM 14 5,v9 15 14]<|cT 15 (sR [rM 16 5,rM 2 16] <|.ret) .skip))<|sR [v1 2] <|.ret,none⟩
def xy:aq:=⟨2,123,[(4,none),(5,none),(6,none)],sR [v5 4,v5 5,v1 6] <|.seq (sR [rM 19 0,rM 20 1,rR 21 (rF jf [.t 19,.t 20]),rM 6 21]<|sR [rM 22 6,v9 23 22]<|cT 23 .ret .skip) <|.seq (sR [rM 24 1,v3 25 24,rR 26 (.bin .eql .int (.t 25) (rI 1))]<|cT 26 (sR [rM 28 0,rM 29 1,Ma 30 29,v2 31 30,rR 32 (rF mQ [.t 28,.t 31]),rM 27 32,v0 33 0 27,v0 34 1 27,v0 35 2 27,rM 7 33,rM 8 34,rM 9 35]<|sR [rM 36 7,rM 37 8,rR 38 (rF mm [.t 37]),rM 39 9,rM 4 36,rM 5 38,rM 6 39] <|.ret) .skip) <|.seq (sR [rM 40 0,v3 41 40,rM 42 1,v3 43 42,yN 44 41 43]<|cT 44 (sR [rM 45 0,rR 46 (rF aC [.t 45]),v5 4,rM 5 46,v1 6] <|.ret) .skip)<|sR [rM 47 1,rM 48 1,v3 49 48,FF 50 49,fe 51 47 50,v2 52 51,rR 53 (rF bM [.t 52]),rM 10 53]<|sR [rM 55 0,rM 56 10,rR 57 (rF nU [.t 55,.t 56]),rM 54 57,v0 58 0 54,v0 59 1 54,rM 11 58,rM 12 59]<|sR [rM 61 1,rM 62 10,rR 63 (rF nU [.t 61,.t 62]),rM 60 63,v0 64 0 60,v0 65 1 60,rM 13 64,rM 14 65]<|sR [rM 66 11,rM 67 0,v3 68 67,tM 69 68,rM 70 11,v3 71 70,Ly 72 69 71,rR 73 (.appendZ 1 8 ad [(.int .u64 0)] (.t 66) (.t 72)),rM 74 13,Kt 75 73 74,rR 76 (.box dX (.t 75)),rM 15 76]<|sR [rM 77 0,v3 78 77,rM 79 1,v3 80 79,Ly 81 78 80,tM 82 81,LB 83 82 82,rM 4 83] <|.seq (sR [rM 84 4,v3 85 84,FF 86 85,rM 16 86]<|ir 0 (.seq (sR [rM 87 16,Jy 88 87]<|cT 88 .skip (.exit 0)) <|.seq (.block 1 (sR [rM 91 15,rM 92 16,rR 93 (rF dH [.t 91,.t 92]),rM 17 93] <|.seq (sR [rM 94 15,rM 95 17,rM 96 16,rR 97 (rF dS [.t 94,.t 95,.t 96]),rM 18 97]<|ir 2 (.seq (sR [rM 98 18]<|cT 98 .skip (.exit 2)) <|.seq (.block 3 (.region [rM 103 17,Lu 104 103,rM 17 104])) <|.region [rM 99 15,rM 100 16,rR 101 (rF dU [.t 99,.t 100]),HB 102 101,rM 18 102])) <|.region [rM 105 4,rM 106 16,rM 107 17,fe 108 105 106,AR 108 107])) <|.region [rM 89 16,FF 90 89,rM 16 90]))<|sR [rM 110 15,nJ 111 110,v6 112 0 111,v2 113 112,rR 114 (rF gC [.t 113]),rM 115 10,rR 116 (rF mO [.t 114,.t 115]),rM 109 116,v0 117 0 109,v0 118 1 109,rM 5 117,rM 6 118]<|sR [rM 119 4,rR 120 (rF gC [.t 119]),rM 121 5,rM 122 6,rM 4 120,rM 5 121,rM 6 122] <|.ret,none⟩
def mC:aq:=⟨2,38,[(4,some (some 2)),(5,none),(6,none),(7,none)],sR [lU 2 0,lU 3 1,mI 4,v8 5,v8 6,v1 7] <|.seq (sR [v7 10 2,v7 11 3,MT 12 10 11,MS 13 12,rM 7 13]<|sR [rM 14 7,v9 15 14]<|cT 15 .ret .skip)<|sR [v6 17 1 2,v2 18 17,v6 19 1 3,v2 20 19,rR 21 (rF mp [.t 18,.t 20]),rM 16 21,v0 22 0 16,v0 23 1 16,v0 24 2 16,rM 8 22,rM 9 23,rM 7 24]<|sR [v6 25 0 2,v2 26 25,v6 27 0 3,v2 28 27,rR 29 (.bin .neq .bool (.t 26) (.t 28)),rM 6 29]<|sR [rM 30 6,rM 31 8,Lv 32 30 31,rM 33 9,v3 34 33,AS 35 34,rM 36 6,rM 37 7,km 4 32,rM 5 35,rM 6 36,rM 7 37] <|.ret,none⟩
def pH:aq:=⟨1,18,[(2,none)],sR [v1 2] <|.seq (sR [rM 6 0,v3 7 6,v1 8]<|dJ 0 1 8 7 9 17 (sR [fe 10 6 8,v2 11 10,rM 4 11]<|sR [rM 12 4,Ki 13 12,rM 5 13]<|sR [rM 14 5,v9 15 14]<|cT 15 (sR [rM 16 5,rM 2 16] <|.ret) .skip))<|sR [v1 2] <|.ret,none⟩
def qX:aq:=⟨3,28,[(6,some none),(7,some none)],sR [rR 5 (.box aj (.t 2)),rR 6 (.alloc ai [.nilSl]),rR 7 (.alloc ad [(.int .u64 0)])] <|.seq (sR [rM 11 0,rM 12 1,rR 13 (rF lg [.t 11,.t 12])] <|.block 0 (.rangeFunc (.t 13) [14,15] (sR [rM 8 14] <|.region [rM 9 15]) (.block 1 (sR [yU 10]<|sR [v2 17 5,rM 18 8,rM 19 9,v2 20 7,rR 21 (.call (.t 17) [.t 18,.t 19,.t 20]),rM 16 21,v0 22 0 16,v0 23 1 16,rM 10 22,AR 7 23] <|.region [v2 24 6,rM 25 10,Kr 26 25,MR 27 24 26,AR 6 27])))) <|.ret,none⟩
def lz:aq:=⟨3,3,[],.skip,(some .add64)⟩
def lu:aq:=⟨3,3,[],.skip,(some .sub64)⟩
def qY:aq:=⟨2,80,[(4,none)],sR [v5 4]<|sR [rM 14 0,v3 15 14,rM 16 1,v3 17 16,tN 18 15 17,LB 19 18 18,rM 5 19] <|.seq (sR [rM 20 0,v3 21 20,v1 22]<|dJ 0 1 22 21 23 77 (sR [rM 24 22,fe 25 20 22,v2 26 25,rM 6 24,rM 7 26]<|sR [yU 8] <|.seq (sR [rM 27 1,v3 28 27,v1 29]<|dJ 2 3 29 28 30 69 (sR [rM 31 29,fe 32 27 29,v2 33 32,rM 9 31,rM 10 33]<|sR [rM 35 7,rM 36 10,LY 37 35 36,rM 34 37,v0 38 0 34,v0 39 1 34,rM 11 38,rM 12 39]<|sR [rM 41 12,rM 42 5,rM 43 6,rM 44 9,tN 45 43 44,fe 46 42 45,v2 47 46,LX 48 41 47,rM 40 48,v0 49 0 40,v0 50 1 40,rM 12 49,rM 13 50]<|sR [rM 51 11,rM 52 13,tN 53 51 52,rM 11 53]<|sR [rM 55 12,rM 56 8,LX 57 55 56,rM 54 57,v0 58 0 54,v0 59 1 54,rM 12 58,rM 13 59] <|.region [rM 60 5,rM 61 6,rM 62 9,tN 63 61 62,rM 64 12,rM 65 11,rM 66 13,tN 67 65 66,fe 68 60 63,AR 68 64,rM 8 67])) <|.region [rM 70 5,rM 71 6,rM 72 1,v3 73 72,tN 74 71 73,rM 75 8,fe 76 70 74,AR 76 75]))<|sR [rM 78 5,rR 79 (rF kE [.t 78]),rM 4 79] <|.ret,none⟩
def sV:aq:=⟨2,18,[(4,none),(5,none)],sR [v5 4,v5 5]<|sR [rM 6 1,rM 7 0,v3 8 7,rR 9 (.min [.t 6,.t 8]),rM 1 9] <|.seq (.draw [v4 10 0 0,v4 11 1 1,v4 12 1 1,rQ 13 (.slice 1 (.t 10) none (some (.t 11)) (some (.t 12))) [(10,some 0),(11,some 1),(12,some 2)] 0,rQ 14 (rF kE [.t 13]) [(13,some 3)] 2,⟨some 15,.mv (.t 0),none,[(0,none)],0,[(0,[]),(1,[])]⟩,⟨some 16,.mv (.t 1),none,[(1,none)],0,[(0,[]),(1,[])]⟩,⟨some 17,.slice 1 (.t 15) (some (.t 16)) none none,none,[(15,some 5),(16,some 6)],0,[(0,[]),(1,[])]⟩,⟨some 4,.mv (.t 14),none,[(14,some 4)],0,[(1,[])]⟩,⟨some 5,.mv (.t 17),none,[(17,some 7)],0,[(1,[])]⟩] []) <|.ret,none⟩
def xv:aq:=⟨1,18,[(2,none)],sR [v5 2] <|.seq (sR [rM 5 0,v3 6 5,v1 7]<|dJ 0 1 7 6 8 17 (sR [fe 9 5 7,v2 10 9,rM 4 10] <|.region [rM 12 2,rM 13 4,rR 14 (rF mo [.t 12,.t 13]),rM 11 14,v0 15 0 11,v0 16 1 11,rM 2 15])) <|.ret,none⟩
def vH:aq:=⟨2,21,[(4,none)],sR [v5 4] <|.seq (sR [rM 7 1,v3 8 7,v1 9]<|dJ 0 1 9 8 10 19 (sR [fe 11 7 9,v2 12 11,rM 6 12] <|.region [rM 14 0,rM 15 6,rR 16 (rF j9 [.t 14,.t 15]),rM 13 16,v0 17 0 13,v0 18 1 13,rM 0 17]))<|sR [rM 20 0,rM 4 20] <|.ret,none⟩
def At:aq:=⟨2,12,[(4,none)],sR [v5 4] <|.seq (sR [rM 5 0,v3 6 5,Dl 7 6]<|cT 7 (sR [v5 4] <|.ret) .skip)<|sR [rM 8 1,LB 9 8 8,rM 10 0,MR 11 9 10,rM 4 11] <|.ret,none⟩
def pK:aq:=⟨2,18,[(4,none)],sR [v1 4] <|.seq (.block 0 (sR [rM 6 0,Ki 7 6,v9 8 7,rM 9 8,kR 10 1 9,rG 11 (rF gN [.t 10]) 9 false,Kh 12 11 9,mG 13 9 12,rM 5 13]<|cT 5 (sR [Io 4] <|.ret) (sR [rM 15 1,v3 16 15,Dl 17 16,rM 14 17]<|cT 14 (sR [rR 4 (.mv (rI 30))] <|.ret) .skip)))<|sR [v1 4] <|.ret,none⟩
def vJ:aq:=⟨2,36,[(4,some none),(5,some none),(6,none)],sR [rR 3 (.box ad (.t 1)),rR 4 (.alloc ai [.nilSl]),rR 5 (.alloc ad [(.int .u64 0)]),v1 6] <|.seq (.block 0 (sR [rM 10 0,Ki 11 10,v9 12 11,rM 9 12]<|cT 9 (sR [rN (.store 1 (.t 4) (.c .nilSl)),rN (.store 1 (.t 5) (.c (.int .u64 0))),Io 6] <|.ret) (sR [v2 14 3,LW 15 14,rM 13 15]<|cT 13 (sR [rN (.store 1 (.t 4) (.c .nilSl)),rN (.store 1 (.t 5) (.c (.int .u64 0))),rR 6 (.mv (rI 30))] <|.ret) .skip)))<|sR [rM 16 0,v3 17 16,LB 18 17 17,AR 4 18] <|.seq (sR [rM 19 0,rR 20 (rF bC [.t 19])] <|.block 1 (.rangeFunc (.t 20) [21,22] (sR [rM 7 21] <|.region [rM 8 22]) (.block 2 (.draw [⟨some 24,.load none (.t 4),none,[(4,none)],0,[(0,[]),(1,[])]⟩,⟨some 25,.mv (.t 7),none,[(7,none)],0,[(0,[]),(1,[])]⟩,Lw 26 5 5,v4 27 8 8,Lw 28 3 3,rQ 29 (rF dP [.t 26,.t 27,.t 28]) [(26,some 2),(27,some 3),(28,some 4)] 2,⟨some 23,.mv (.t 29),none,[(29,some 5)],0,[(1,[])]⟩,⟨some 30,.extract 0 (.t 23),none,[(23,some 6)],0,[(1,[])]⟩,⟨some 31,.extract 1 (.t 23),none,[(23,some 6)],0,[(1,[]),(2,[])]⟩,⟨some 32,.indexAddr 1 (.t 24) (.t 25),none,[(24,some 0),(25,some 1)],0,[(1,[])]⟩,⟨none,.store 1 (.t 32) (.t 30),none,[(32,some 9),(30,some 7)],2,[(1,[])]⟩,⟨none,.store 1 (.t 5) (.t 31),none,[(5,none),(31,some 8)],2,[(2,[])]⟩] [])))) <|.seq (.draw [Lw 33 4 4,rQ 34 (rF gC [.t 33]) [(33,some 0)] 2,⟨some 35,.load none (.t 5),none,[(5,none)],0,[(0,[]),(1,[]),(2,[])]⟩,⟨none,.store 1 (.t 4) (.t 34),none,[(4,none),(34,some 1)],2,[(1,[])]⟩,⟨none,.store 1 (.t 5) (.t 35),none,[(5,none),(35,some 2)],2,[(2,[])]⟩,⟨some 6,.mv (rI 0),none,[],0,[(3,[])]⟩] []) <|.ret,none⟩
def fx:aq:=⟨1,6,[(2,none)],sR [v1 2]<|sR [rM 3 0,rR 4 (rF eY [.t 3]),rR 5 (.bin .sub .int (rI 64) (.t 4)),rM 2 5] <|.ret,none⟩
def Ar:aq:=⟨2,61,[(4,none),(5,none)],sR [v5 4,v1 5] <|.seq (sR [rM 12 0,rM 13 1,rR 14 (rF jq [.t 12,.t 13]),rM 6 14]<|sR [rM 15 6,v9 16 15]<|cT 16 (sR [rM 17 6,v5 4,rM 5 17] <|.ret) .skip)<|sR [rM 18 1,L3 19 18,rM 20 0,v3 21 20,tN 22 19 21,tM 23 22,LB 24 23 23,rM 7 24] <|.seq (sR [rM 25 0,v3 26 25,v1 27]<|dJ 0 1 27 26 28 58 (sR [rM 29 27,fe 30 25 27,v2 31 30,rM 8 29,rM 9 31]<|sR [rM 33 9,rM 34 1,rR 35 (.bin .rem .int (.t 34) (rI 64)),rR 36 (.bin .shl .int (.c (.int .u64 1)) (.t 35)),LY 37 33 36,rM 32 37,v0 38 0 32,v0 39 1 32,rM 10 38,rM 11 39]<|sR [rM 40 7,rM 41 1,L3 42 41,rM 43 8,tN 44 42 43,fe 45 40 44,v2 46 45,rM 47 11,rR 48 (.bin .or .int (.t 46) (.t 47)),fe 49 40 44,AR 49 48] <|.region [rM 50 7,rM 51 1,L3 52 51,rM 53 8,tN 54 52 53,tM 55 54,rM 56 10,fe 57 50 55,AR 57 56]))<|sR [rM 59 7,L6 60 59,rM 4 60,v1 5] <|.ret,none⟩
def iC:aq:=⟨2,107,[(4,none)],sR [yU 4] <|.scopeL (sR [rM 16 0,nJ 17 16,v6 18 1 17,v2 19 18,v3 20 19,rM 5 20] <|.seq (.draw [v4 21 0 0,FE 22 21 21 0,FD 23 0 22 22 1,lH 24 23 23 2,v4 25 1 1,v4 26 5 5,LU 27 25 26 25 4 26 5,ri 28 24 27 24 3 27 6,lH 29 28 28 7,v4 30 0 0,FE 31 30 30 9,FD 32 0 31 31 10,lH 33 32 32 11,v4 34 1 1,v4 35 5 5,LU 36 34 35 34 13 35 14,rQ 37 (.bin .sub .int (.t 36) (rI 1)) [(36,some 15)] 0,ri 38 33 37 33 12 37 16,lH 39 38 38 17,Hz 6 29 29 8,Hz 7 39 39 18] [])<|sR [rM 40 0,nJ 41 40,v6 42 1 41,v2 43 42,rM 44 5,FF 45 44,fe 46 43 45,v2 47 46,rM 8 47] <|.seq (sR [rM 48 6,rM 49 8,rR 50 (.bin .geq .int (.t 48) (.t 49))]<|cT 50 (sR [rC 4 (.int .u64 18446744073709551615)] <|.ret) .skip)<|sR [rM 52 6,rM 53 7,rM 54 8,rR 55 (rF dP [.t 52,.t 53,.t 54]),rM 51 55,v0 56 0 51,v0 57 1 51,rM 9 56,rM 10 57] <|.seq (.draw [v4 58 0 0,FE 59 58 58 0,FD 60 1 59 59 1,lH 61 60 60 2,v4 62 5 5,rQ 63 (.bin .sub .int (.t 62) (rI 2)) [(62,some 4)] 0,ri 64 61 63 61 3 63 5,lH 65 64 64 6,v4 66 0 0,FE 67 66 66 8,FD 68 0 67 67 9,lH 69 68 68 10,v4 70 1 1,v4 71 5 5,LU 72 70 71 70 12 71 13,rQ 73 (.bin .sub .int (.t 72) (rI 2)) [(72,some 14)] 0,ri 74 69 73 69 11 73 15,lH 75 74 74 16,Hz 11 65 65 7,Hz 12 75 75 17] []) <|.seq (.scopeL .skip 0 .skip)<|ir 0 (.block 1 (sR [rM 77 9,rM 78 11,LY 79 77 78,rM 76 79,v0 80 0 76,v0 81 1 76,rM 13 80,rM 14 81] <|.seq (sR [rM 82 13,rM 83 10,yN 84 82 83,rM 85 84,kR 86 13 85,kR 87 10 85,rG 88 (.bin .eql .int (.t 86) (.t 87)) 85 false,kR 89 88 85,kQ 90 14 89,kQ 91 12 89,rG 92 (.bin .leq .int (.t 90) (.t 91)) 89 true,Kq 93 89 92 85,mG 94 85 93]<|cT 94 (sR [rM 95 9,rM 4 95] <|.ret) .skip)<|sR [rM 96 9,Lu 97 96,rM 9 97]<|sR [yU 15] <|.seq (sR [rM 99 10,rM 100 8,LX 101 99 100,rM 98 101,v0 102 0 98,v0 103 1 98,rM 10 102,rM 15 103]<|sR [rM 104 15,LW 105 104]<|cT 105 (.exit 1) .skip)<|sR [rM 106 9,rM 4 106] <|.ret))) 0 (.seq .skip<|ir 0 (.block 1 (sR [rM 77 9,rM 78 11,LY 79 77 78,rM 76 79,v0 80 0 76,v0 81 1 76,rM 13 80,rM 14 81] <|.seq (sR [rM 82 13,rM 83 10,yN 84 82 83,rM 85 84,kR 86 13 85,kR 87 10 85,rG 88 (.bin .eql .int (.t 86) (.t 87)) 85 false,kR 89 88 85,kQ 90 14 89,kQ 91 12 89,rG 92 (.bin .leq .int (.t 90) (.t 91)) 89 true,Kq 93 89 92 85,mG 94 85 93]<|cT 94 (sR [rM 95 9,rM 4 95] <|.ret) .skip)<|sR [rM 96 9,Lu 97 96,rM 9 97]<|sR [yU 15] <|.seq (sR [rM 99 10,rM 100 8,LX 101 99 100,rM 98 101,v0 102 0 98,v0 103 1 98,rM 10 102,rM 15 103]<|sR [rM 104 15,LW 105 104]<|cT 105 (.exit 1) .skip)<|sR [rM 106 9,rM 4 106] <|.ret))),none⟩
def jw:aq:=⟨3,92,[(6,none)],sR [v8 6]<|sR [yU 7,yU 8] <|.seq (sR [rM 15 0,nJ 16 15,v6 17 1 16,v2 18 17,v3 19 18,v1 20]<|dJ 0 1 20 19 21 63 (sR [rM 22 20,fe 23 18 20,v2 24 23,rM 9 22,rM 10 24]<|sR [rM 26 1,rM 27 10,LY 28 26 27,rM 25 28,v0 29 0 25,v0 30 1 25,rM 11 29,rM 12 30]<|sR [yU 13]<|sR [rM 32 12,rM 33 7,LX 34 32 33,rM 31 34,v0 35 0 31,v0 36 1 31,rM 12 35,rM 13 36]<|sR [rM 37 11,rM 38 13,tN 39 37 38,rM 7 39] <|.draw [⟨some 41,.mv (.t 0),none,[(0,none)],0,[(0,[]),(1,[])]⟩,⟨some 42,.nilCheck (.t 41),none,[(41,some 0)],0,[(0,[]),(1,[])]⟩,⟨some 43,.fieldAddr 0 (.t 42),none,[(42,some 1)],0,[(0,[]),(1,[])]⟩,⟨some 44,.load none (.t 43),none,[(43,some 2)],0,[(0,[]),(1,[])]⟩,⟨some 45,.mv (.t 2),none,[(2,none)],0,[(0,[]),(1,[])]⟩,⟨some 46,.mv (.t 9),none,[(9,none)],0,[(0,[]),(1,[])]⟩,⟨some 47,.bin .add .int (.t 45) (.t 46),none,[(45,some 4),(46,some 5)],0,[(0,[]),(1,[])]⟩,v4 48 0 0,FE 49 48 48 7,FD 50 0 49 49 8,lH 51 50 50 9,v4 52 2 2,v4 53 9 9,LU 54 52 53 52 11 53 12,ri 55 51 54 51 10 54 13,lH 56 55 55 14,v4 57 12 12,v4 58 8 8,rQ 59 (rF cN [.t 56,.t 57,.t 58]) [(56,some 15),(57,some 16),(58,some 17)] 2,⟨some 40,.mv (.t 59),none,[(59,some 18)],0,[(1,[])]⟩,⟨some 60,.extract 0 (.t 40),none,[(40,some 19)],0,[(1,[])]⟩,⟨some 61,.extract 1 (.t 40),none,[(40,some 19)],0,[(1,[]),(2,[])]⟩,⟨some 62,.indexAddr 1 (.t 44) (.t 47),none,[(44,some 3),(47,some 6)],0,[(1,[])]⟩,⟨none,.store 1 (.t 62) (.t 60),none,[(62,some 22),(60,some 20)],2,[(1,[])]⟩,⟨some 8,.mv (.t 61),none,[(61,some 21)],0,[(2,[])]⟩] []))<|sR [rM 64 2,rM 65 0,nJ 66 65,v6 67 1 66,v2 68 67,v3 69 68,tN 70 64 69,rM 14 70] <|.seq (.draw [⟨some 72,.mv (.t 0),none,[(0,none)],0,[(0,[]),(1,[])]⟩,⟨some 73,.nilCheck (.t 72),none,[(72,some 0)],0,[(0,[]),(1,[])]⟩,⟨some 74,.fieldAddr 0 (.t 73),none,[(73,some 1)],0,[(0,[]),(1,[])]⟩,⟨some 75,.load none (.t 74),none,[(74,some 2)],0,[(0,[]),(1,[])]⟩,⟨some 76,.mv (.t 14),none,[(14,none)],0,[(0,[]),(1,[])]⟩,v4 77 0 0,FE 78 77 77 5,FD 79 0 78 78 6,lH 80 79 79 7,v4 81 14 14,ri 82 80 81 80 8 81 9,lH 83 82 82 10,v4 84 7 7,v4 85 8 8,rQ 86 (rF cN [.t 83,.t 84,.t 85]) [(83,some 11),(84,some 12),(85,some 13)] 2,⟨some 71,.mv (.t 86),none,[(86,some 14)],0,[(1,[])]⟩,⟨some 87,.extract 0 (.t 71),none,[(71,some 15)],0,[(1,[])]⟩,⟨some 88,.extract 1 (.t 71),none,[(71,some 15)],0,[(1,[]),(2,[])]⟩,⟨some 89,.indexAddr 1 (.t 75) (.t 76),none,[(75,some 3),(76,some 4)],0,[(1,[])]⟩,⟨none,.store 1 (.t 89) (.t 87),none,[(89,some 18),(87,some 16)],2,[(1,[])]⟩,⟨some 8,.mv (.t 88),none,[(88,some 17)],0,[(2,[])]⟩] [])<|sR [rM 90 8,Kn 91 90,rM 6 91] <|.ret,none⟩
def jx:aq:=⟨2,70,[(4,none)],sR [v8 4]<|sR [yU 5] <|.seq (sR [rM 9 0,nJ 10 9,v6 11 1 10,v2 12 11,v3 13 12,v1 14]<|dJ 0 1 14 13 15 42 (sR [rM 16 14,fe 17 12 14,v2 18 17,rM 6 16,rM 7 18] <|.draw [⟨some 20,.mv (.t 0),none,[(0,none)],0,[(0,[]),(1,[])]⟩,⟨some 21,.nilCheck (.t 20),none,[(20,some 0)],0,[(0,[]),(1,[])]⟩,⟨some 22,.fieldAddr 0 (.t 21),none,[(21,some 1)],0,[(0,[]),(1,[])]⟩,⟨some 23,.load none (.t 22),none,[(22,some 2)],0,[(0,[]),(1,[])]⟩,⟨some 24,.mv (.t 1),none,[(1,none)],0,[(0,[]),(1,[])]⟩,⟨some 25,.mv (.t 6),none,[(6,none)],0,[(0,[]),(1,[])]⟩,⟨some 26,.bin .add .int (.t 24) (.t 25),none,[(24,some 4),(25,some 5)],0,[(0,[]),(1,[])]⟩,v4 27 0 0,FE 28 27 27 7,FD 29 0 28 28 8,lH 30 29 29 9,v4 31 1 1,v4 32 6 6,LU 33 31 32 31 11 32 12,ri 34 30 33 30 10 33 13,lH 35 34 34 14,v4 36 7 7,v4 37 5 5,rQ 38 (rF cz [.t 35,.t 36,.t 37]) [(35,some 15),(36,some 16),(37,some 17)] 2,⟨some 19,.mv (.t 38),none,[(38,some 18)],0,[(1,[])]⟩,⟨some 39,.extract 0 (.t 19),none,[(19,some 19)],0,[(1,[])]⟩,⟨some 40,.extract 1 (.t 19),none,[(19,some 19)],0,[(1,[]),(2,[])]⟩,⟨some 41,.indexAddr 1 (.t 23) (.t 26),none,[(23,some 3),(26,some 6)],0,[(1,[])]⟩,⟨none,.store 1 (.t 41) (.t 39),none,[(41,some 22),(39,some 20)],2,[(1,[])]⟩,⟨some 5,.mv (.t 40),none,[(40,some 21)],0,[(2,[])]⟩] []))<|sR [rM 43 1,rM 44 0,nJ 45 44,v6 46 1 45,v2 47 46,v3 48 47,tN 49 43 48,rM 8 49] <|.seq (.draw [⟨some 51,.mv (.t 0),none,[(0,none)],0,[(0,[]),(1,[])]⟩,⟨some 52,.nilCheck (.t 51),none,[(51,some 0)],0,[(0,[]),(1,[])]⟩,⟨some 53,.fieldAddr 0 (.t 52),none,[(52,some 1)],0,[(0,[]),(1,[])]⟩,⟨some 54,.load none (.t 53),none,[(53,some 2)],0,[(0,[]),(1,[])]⟩,⟨some 55,.mv (.t 8),none,[(8,none)],0,[(0,[]),(1,[])]⟩,v4 56 0 0,FE 57 56 56 5,FD 58 0 57 57 6,lH 59 58 58 7,v4 60 8 8,ri 61 59 60 59 8 60 9,lH 62 61 61 10,v4 63 5 5,rQ 64 (rF cz [.t 62,(.c (.int .u64 0)),.t 63]) [(62,some 11),(63,some 12)] 2,⟨some 50,.mv (.t 64),none,[(64,some 13)],0,[(1,[])]⟩,⟨some 65,.extract 0 (.t 50),none,[(50,some 14)],0,[(1,[])]⟩,⟨some 66,.extract 1 (.t 50),none,[(50,some 14)],0,[(1,[]),(2,[])]⟩,⟨some 67,.indexAddr 1 (.t 54) (.t 55),none,[(54,some 3),(55,some 4)],0,[(1,[])]⟩,⟨none,.store 1 (.t 67) (.t 65),none,[(67,some 17),(65,some 15)],2,[(1,[])]⟩,⟨some 5,.mv (.t 66),none,[(66,some 16)],0,[(2,[])]⟩] [])<|sR [rM 68 5,Kn 69 68,rM 4 69] <|.ret,none⟩
def vI:aq:=⟨1,22,[(2,none)],sR [v5 2] <|.seq (ir 0 (.seq (sR [rM 3 0,v3 4 3,AS 5 4,rM 6 5,kQ 7 0 6,kQ 8 0 6,FG 9 8 6,MW 10 9 6,L4 11 7 10 6,Di 12 11 6,MV 13 12 6,rj 14 6 13]<|cT 14 .skip (.exit 0)) <|.block 1 (.region [rM 15 0,rM 16 0,v3 17 16,FF 18 17,M8 19 15 18,rM 0 19])))<|sR [rM 20 0,rR 21 (rF aU [.t 20]),rM 2 21] <|.ret,none⟩
def vF:aq:=⟨2,59,[(4,none),(5,none)],sR [v5 4,v1 5] <|.seq (sR [rM 9 0,rM 10 1,rR 11 (rF jq [.t 9,.t 10]),rM 6 11]<|sR [rM 12 6,v9 13 12]<|cT 13 (sR [rM 14 6,v5 4,rM 5 14] <|.ret) .skip)<|sR [rM 15 0,rM 16 1,L3 17 16,rM 18 0,v3 19 18,rR 20 (.min [.t 17,.t 19]),rR 21 (.slice 1 (.t 15) (some (.t 20)) none none),rR 22 (rF aC [.t 21]),rM 7 22] <|.seq (sR [rM 23 7,v3 24 23,v1 25]<|dJ 0 1 25 24 26 56 (sR [rM 27 25,rM 8 27]<|sR [rM 28 7,rM 29 8,fe 30 28 29,v2 31 30,rM 32 1,rR 33 (.bin .rem .int (.t 32) (rI 64)),rR 34 (.bin .shr .int (.t 31) (.t 33)),fe 35 28 29,AR 35 34]<|sR [rM 36 8,tM 37 36,rM 38 7,v3 39 38,yN 40 37 39]<|cT 40 (.draw [v4 41 7 7,v4 42 8 8,ri 43 41 42 41 0 42 1,lH 44 43 43 2,v4 45 7 7,v4 46 8 8,rQ 47 (.bin .add .int (.t 46) (rI 1)) [(46,some 5)] 0,ri 48 45 47 45 4 47 6,lH 49 48 48 7,v4 50 1 1,rQ 51 (.bin .rem .int (.t 50) (rI 64)) [(50,some 9)] 0,rQ 52 (.bin .sub .int (rI 64) (.t 51)) [(51,some 10)] 0,rQ 53 (.bin .shl .int (.t 49) (.t 52)) [(49,some 8),(52,some 11)] 0,rQ 54 (.bin .or .int (.t 44) (.t 53)) [(44,some 3),(53,some 12)] 0,ri 55 41 42 41 0 42 1,⟨none,.store 1 (.t 55) (.t 54),none,[(55,some 14),(54,some 13)],2,[(0,[])]⟩] []) .skip))<|sR [rM 57 7,L6 58 57,rM 4 58,v1 5] <|.ret,none⟩
def sQ:aq:=⟨2,6,[(4,none)],sR [rR 2 (.box ai (.t 0)),rR 3 (.box ai (.t 1)),rC 4 .nilFn]<|sR [rR 5 (.mkfn (.func eD) [] [.t 2,.t 3]),rM 4 5] <|.ret,none⟩
def lv:aq:=⟨2,51,[(4,none),(5,none)],sR [yU 4,yU 5]<|sR [rM 14 0,LT 15 14,rM 6 15]<|sR [rM 16 0,JA 17 16,rM 7 17]<|sR [rM 18 1,LT 19 18,rM 8 19]<|sR [rM 20 1,JA 21 20,rM 9 21]<|sR [rM 22 6,rM 23 8,In 24 22 23,rM 10 24]<|sR [rM 25 7,rM 26 8,In 27 25 26,rM 28 10,JA 29 28,tN 30 27 29,rM 11 30]<|sR [rM 31 11,LT 32 31,rM 12 32]<|sR [rM 33 11,JA 34 33,rM 13 34]<|sR [rM 35 12,rM 36 6,rM 37 9,In 38 36 37,tN 39 35 38,rM 12 39]<|sR [rM 40 7,rM 41 9,In 42 40 41,rM 43 13,tN 44 42 43,rM 45 12,JA 46 45,tN 47 44 46,rM 4 47]<|sR [rM 48 0,rM 49 1,In 50 48 49,rM 5 50] <|.ret,none⟩
def vG:aq:=⟨1,22,[(2,none)],sR [v5 2]<|sR [rM 4 0,v3 5 4,rM 3 5] <|.seq (ir 0 (.seq (sR [rM 6 3,AS 7 6,rM 8 7,kQ 9 0 8,kQ 10 3 8,MW 11 10 8,L4 12 9 11 8,Di 13 12 8,MV 14 13 8,rj 15 8 14]<|cT 15 .skip (.exit 0)) <|.block 1 (.region [rM 16 3,FF 17 16,rM 3 17])))<|sR [rM 18 0,rM 19 3,rM 20 3,rR 21 (.slice 1 (.t 18) none (some (.t 19)) (some (.t 20))),rM 2 21] <|.ret,none⟩
def dV:aq:=⟨1,4,[(2,none)],sR [rR 1 (.box ai (.t 0)),rC 2 .nilFn]<|sR [rR 3 (.mkfn (.func aK) [] [.t 1]),rM 2 3] <|.ret,none⟩
def ly:aq:=⟨3,135,[(6,none),(7,none)],sR [yU 6,yU 7] <|.seq (sR [rM 19 2,LW 20 19]<|cT 20 (.region [rR 21 .bad,rN (.panic (.t 21))]) .skip) <|.seq (sR [rM 22 2,rM 23 0,rR 24 (.bin .leq .int (.t 22) (.t 23))]<|cT 24 (.region [rR 25 .bad,rN (.panic (.t 25))]) .skip) <|.seq (sR [rM 26 0,LW 27 26]<|cT 27 (.seq (.draw [v4 28 1 1,v4 29 2 2,rQ 30 (.bin .quo .int (.t 28) (.t 29)) [(28,some 0),(29,some 1)] 0,v4 31 1 1,v4 32 2 2,Mb 33 31 32 31 3 32 4,Hz 6 30 30 2,Hz 7 33 33 5] []) <|.ret) .skip)<|sR [rM 34 2,rR 35 (rF bM [.t 34]),rR 36 (.conv .u64 (.t 35)),rM 8 36]<|sR [rM 37 2,rM 38 8,rR 39 (.bin .shl .int (.t 37) (.t 38)),rM 2 39]<|sR [rM 40 2,JA 41 40,rM 9 41]<|sR [rM 42 2,LT 43 42,rM 10 43]<|sR [rM 44 0,rM 45 8,rR 46 (.bin .shl .int (.t 44) (.t 45)),rM 47 1,rM 48 8,rR 49 (.bin .sub .int (.c (.int .u64 64)) (.t 48)),rR 50 (.bin .shr .int (.t 47) (.t 49)),rR 51 (.bin .or .int (.t 46) (.t 50)),rM 11 51]<|sR [rM 52 1,rM 53 8,rR 54 (.bin .shl .int (.t 52) (.t 53)),rM 12 54]<|sR [rM 55 12,JA 56 55,rM 13 56]<|sR [rM 57 12,LT 58 57,rM 14 58]<|sR [rM 59 11,rM 60 9,rR 61 (.bin .quo .int (.t 59) (.t 60)),rM 15 61]<|sR [rM 62 11,rM 63 15,rM 64 9,In 65 63 64,Ly 66 62 65,rM 16 66] <|.seq (ir 0 (.seq (sR [rM 67 15,LS 68 67,rM 69 68,kR 70 15 69,kR 71 10 69,rG 72 (.bin .mul .int (.t 70) (.t 71)) 69 false,kR 73 16 69,rG 74 (.bin .mul .int (.c (.int .u64 4294967296)) (.t 73)) 69 false,kR 75 13 69,rG 76 (.bin .add .int (.t 74) (.t 75)) 69 false,rG 77 (.bin .gtr .int (.t 72) (.t 76)) 69 false,mG 78 69 77]<|cT 78 .skip (.exit 0)) <|.block 1 (sR [rM 79 15,Lu 80 79,rM 15 80]<|sR [rM 81 16,rM 82 9,tN 83 81 82,rM 16 83]<|sR [rM 84 16,LS 85 84]<|cT 85 (.exit 0) .skip)))<|sR [rM 86 11,Kl 87 86,rM 88 13,tN 89 87 88,rM 90 15,rM 91 2,In 92 90 91,Ly 93 89 92,rM 17 93]<|sR [rM 94 17,rM 95 9,rR 96 (.bin .quo .int (.t 94) (.t 95)),rM 18 96]<|sR [rM 97 17,rM 98 18,rM 99 9,In 100 98 99,Ly 101 97 100,rM 16 101] <|.seq (ir 2 (.seq (sR [rM 102 18,LS 103 102,rM 104 103,kR 105 18 104,kR 106 10 104,rG 107 (.bin .mul .int (.t 105) (.t 106)) 104 false,kR 108 16 104,rG 109 (.bin .mul .int (.c (.int .u64 4294967296)) (.t 108)) 104 false,kR 110 14 104,rG 111 (.bin .add .int (.t 109) (.t 110)) 104 false,rG 112 (.bin .gtr .int (.t 107) (.t 111)) 104 false,mG 113 104 112]<|cT 113 .skip (.exit 2)) <|.block 3 (sR [rM 114 18,Lu 115 114,rM 18 115]<|sR [rM 116 16,rM 117 9,tN 118 116 117,rM 16 118]<|sR [rM 119 16,LS 120 119]<|cT 120 (.exit 2) .skip)))<|sR [rM 121 15,Kl 122 121,rM 123 18,tN 124 122 123,rM 125 17,Kl 126 125,rM 127 14,tN 128 126 127,rM 129 18,rM 130 2,In 131 129 130,Ly 132 128 131,rM 133 8,rR 134 (.bin .shr .int (.t 132) (.t 133)),rM 6 124,rM 7 134] <|.ret,none⟩
def lx:aq:=⟨1,25,[(2,none)],sR [v1 2] <|.seq (sR [rM 3 0,LS 4 3]<|cT 4 (sR [rM 5 0,JA 6 5,rM 0 6] <|.region [rR 2 (.mv (rI 32))]) .skip) <|.seq (sR [rM 7 0,rR 8 (.bin .geq .int (.t 7) (.c (.int .u64 65536)))]<|cT 8 (sR [rM 9 0,rR 10 (.bin .shr .int (.t 9) (.c (.int .u64 16))),rM 0 10] <|.region [rM 11 2,rR 12 (.bin .add .int (.t 11) (rI 16)),rM 2 12]) .skip) <|.seq (sR [rM 13 0,rR 14 (.bin .geq .int (.t 13) (.c (.int .u64 256)))]<|cT 14 (sR [rM 15 0,rR 16 (.bin .shr .int (.t 15) (.c (.int .u64 8))),rM 0 16] <|.region [rM 17 2,rR 18 (.bin .add .int (.t 17) (rI 8)),rM 2 18]) .skip)<|sR [rM 19 2,rM 20 0,rR 21 (.conv .u8 (.t 20)),rR 22 (.indexStr (.c (.str ⟨#[0,1,2,2,3,3,3,3,4,4,4,4,4,4,4,4,5,5,5,5,5,5,5,5,5,5,5,5,5,5,5,5,6,6,6,6,6,6,6,6,6,6,6,6,6,6,6,6,6,6,6,6,6,6,6,6,6,6,6,6,6,6,6,6,7,7,7,7,7,7,7,7,7,7,7,7,7,7,7,7,7,7,7,7,7,7,7,7,7,7,7,7,7,7,7,7,7,7,7,7,7,7,7,7,7,7,7,7,7,7,7,7,7,7,7,7,7,7,7,7,7,7,7,7,7,7,7,7,8,8,8,8,8,8,8,8,8,8,8,8,8,8,8,8,8,8,8,8,8,8,8,8,8,8,8,8,8,8,8,8,8,8,8,8,8,8,8,8,8,8,8,8,8,8,8,8,8,8,8,8,8,8,8,8,8,8,8,8,8,8,8,8,8,8,8,8,8,8,8,8,8,8,8,8,8,8,8,8,8,8,8,8,8,8,8,8,8,8,8,8,8,8,8,8,8,8,8,8,8,8,8,8,8,8,8,8,8,8,8,8,8,8,8,8,8,8,8,8,8,8,8,8,8,8,8,8]⟩)) (.t 21)),rR 23 (.conv .i64 (.t 22)),tN 24 19 23,rM 2 24] <|.ret,none⟩
def sS:aq:=⟨2,17,[(4,none)],sR [v1 4] <|.seq (sR [rM 6 0,Ki 7 6,rM 5 7]<|sR [rM 8 5,v9 9 8]<|cT 9 (sR [rM 10 5,rM 4 10] <|.ret) .skip) <|.seq (sR [rM 11 1,L8 12 11,rM 13 12,kR 14 1 13,rG 15 (.bin .gtr .int (.t 14) (rI 65536)) 13 false,mG 16 13 15]<|cT 16 (sR [rR 4 (.mv (rI 2))] <|.ret) .skip)<|sR [v1 4] <|.ret,none⟩
def oD:aq:=⟨3,37,[],sR [v2 7 1,v3 8 7,v2 9 2,v3 10 9,rR 11 (.max [.t 8,.t 10]),v1 12]<|dJ 0 1 12 11 13 36 (sR [rM 14 12,rM 4 14]<|sR [yU 5,yU 6] <|.seq (sR [rM 15 4,v2 16 1,v3 17 16,yN 18 15 17]<|cT 18 (.region [v2 19 1,rM 20 4,fe 21 19 20,v2 22 21,rM 5 22]) .skip) <|.seq (sR [rM 23 4,v2 24 2,v3 25 24,yN 26 23 25]<|cT 26 (.region [v2 27 2,rM 28 4,fe 29 27 28,v2 30 29,rM 6 30]) .skip)<|sR [rM 31 0,rM 32 5,rM 33 6,LD 34 31 32 33,HB 35 34]<|cT 35 .ret .skip),none⟩
def dl:aq:=⟨2,19,[],sR [v2 4 1,v3 5 4,FF 6 5,rM 3 6]<|ir 0 (.seq (sR [rM 7 3,Jy 8 7]<|cT 8 .skip (.exit 0)) <|.seq (.block 1 (sR [rM 11 0,rM 12 3,v2 13 1,rM 14 3,fe 15 13 14,v2 16 15,LD 17 11 12 16,HB 18 17]<|cT 18 .ret .skip)) <|.region [rM 9 3,FF 10 9,rM 3 10]),none⟩
structure Code (tab:Nat->Option aq):Prop where
 facetroomlaw20_ConeDual:tab fP=some fQ
 facetroomlaw20_ConeOrder:tab fm=some fy
 facetroomlaw20_ConeKeeps:tab dw=some c_facetroomlaw20_ConeKeeps
 facetroomlaw20_ConeFew:tab fY=some gf
 facetroomlaw20_alive:tab cY=some il
 facetroomlaw20_great:tab cX=some ij
 cone_Gens:tab dQ=some c_cone_Gens
 facetroomref18_Same:tab dD=some iy
 vec_Add:tab ml=some xp
 whole_Of:tab eJ=some vz
 vec_Scale:tab eG=some sN
 cone_Keeps:tab ib=some q9
 cone_Made:tab fp=some sZ
 rows_Reduce:tab fW=some pG
 vec_Zero:tab mM=some vB
 vec_Same:tab mN=some vD
 vec_Cmp:tab mj=some xo
 rows_Echelon:tab fl=some oC
 vec_Of:tab nT=some Aq
 facetroomlaw20_gives:tab bW=some ik
 facetroomlaw20_one:tab bN=some jv
 facetroomref20_Great:tab cV=some ie
 cone_checked:tab fo=some c_cone_checked
 cone_long:tab jt=some sY
 cone_all:tab mS=some vO
 P_cone_under_add:tab cu=some c_P_cone_under_add
 slices_SortFunc_Sl_api_Vec_api_Vec:tab ca=some cU
 cone_Gens_f1:tab fq=some oE
 facetroomref07_Same:tab dE=some iz
 vec_checked:tab iX=some pz
 vec_Add_f1:tab jK=some qU
 vec_each:tab iL=some vA
 nat_Of:tab mm=some As
 whole_made:tab dO=some qP
 whole_Check:tab dZ=some px
 vec_Scale_f1:tab gY=some ot
 cone_asked:tab ia=some q8
 cone_keeps:tab h9=some qZ
 rows_Check:tab g9=some qW
 rows_formed:tab fV=some pE
 P_rows_form_rest:tab dx=some kK
 vec_Twin:tab kC=some vC
 slices_ContainsFunc_api_Vec_api_Int:tab aP=some cP
 vec_Zero_f1:tab iY=some pA
 slices_EqualFunc_api_Vec_api_Vec_api_Int_api_Int:tab aF=some bO
 whole_Same:tab fJ=some qR
 slices_CompareFunc_api_Vec_api_Vec_api_Int_api_Int:tab az=some bD
 vec_Cmp_f1:tab jJ=some qT
 facetroomref18_Great:tab cA=some ig
 P_cone_under_add_f1:tab dI=some iD
 slices_IndexFunc_Sl_api_Vec_api_Vec:tab aO=some cO
 P_cone_under_cut:tab eK=some c_P_cone_under_cut
 P_cone_under_fold:tab eh=some c_P_cone_under_fold
 facetroomref05_Same:tab dF=some iA
 vec_Check:tab fj=some sP
 vec_sum:tab jZ=some xl
 nat_trim:tab kD=some vE
 nat_Check:tab gN=some sU
 vec_product:tab d8=some py
 cone_keeps_f1:tab gr=some nB
 cone_keeps_f2:tab gq=some nA
 slices_ContainsFunc_Sl_api_Vec_api_Vec:tab aL=some cE
 P_rows_form_put:tab dR=some c_P_rows_form_put
 vec_Prime:tab gM=some sO
 rows_pivot:tab fK=some qV
 rows_without:tab fk=some oB
 vec_Twin_f1:tab iZ=some pB
 slices_IndexFunc_api_Vec_api_Int:tab bj=some dB
 slices_Equal_api_Nat_uint64:tab cm=some eH
 whole_Cmp:tab kZ=some sL
 facetroomref07_Great:tab cW=some ii
 cone_dot:tab iN=some vN
 cone_sign:tab de=some sW
 P_cone_under_mask:tab cS=some jF
 cone_near:tab js=some sX
 cone_neg:tab gD=some vK
 cone_mix:tab iM=some vL
 slices_Clone_Sl_api_Vec_api_Vec:tab bo=some dL
 slices_Delete_Sl_api_Vec_api_Vec:tab bk=some dC
 facetroomref01_Same:tab dG=some iB
 vec_Check_f1:tab g8=some oz
 whole_Add:tab lc=some sM
 slices_Clip_api_Nat_uint64:tab aU=some eR
 whole_Mul:tab kY=some sK
 rows_before:tab jc=some pF
 slices_Insert_Sl_api_Vec_api_Vec:tab bi=some dA
 vec_Content:tab i8=some pC
 vec_Prime_f1:tab gZ=some oy
 rows_places:tab i9=some pD
 whole_Neg:tab jp=some sJ
 vec_Mix:tab mi=some xm
 slices_Clone_api_Nat_uint64:tab aC=some eI
 whole_Sub:tab kX=some sI
 whole_sign:tab gW=some qO
 vec_Dot:tab j8=some xn
 whole_Sign:tab gX=some qQ
 sat_Signs:tab lf=some c_sat_Signs
 cone_has:tab mR=some vM
 whole_checked:tab gn=some nz
 whole_sum:tab jm=some sG
 mul_Mul:tab oS=some xw
 gcd_Gcd:tab oU=some xx
 whole_Exact:tab iW=some pw
 rows_places_f1:tab dm=some mD
 vec_Mix_f1:tab jI=some qS
 nat_Add:tab mo=some xu
 nat_Sub:tab j9=some xq
 mul_splitter_make:tab cR=some jE
 mul_checked:tab jd=some pI
 gcd_checked:tab je=some pJ
 div_Div:tab mp=some xy
 whole_quotient:tab fI=some mC
 nat_checked:tab fX=some pH
 nat_joined:tab hZ=some qX
 math_bits_Add64:tab cz=some lz
 math_bits_Sub64:tab cN=some lu
 mul_school:tab jL=some qY
 mul_parts:tab jr=some sV
 mul_sum:tab ka=some xv
 mul_rest:tab mP=some vH
 mul_up:tab nV=some At
 div_checked:tab jf=some pK
 div_Word:tab mQ=some vJ
 math_bits_LeadingZeros64:tab bM=some fx
 nat_Up:tab nU=some Ar
 P_div_divider_guess:tab dH=some iC
 P_div_divider_take:tab dS=some jw
 P_div_divider_back:tab dU=some jx
 div_trim:tab gC=some vI
 nat_Down:tab mO=some vF
 nat_pairs:tab lg=some sQ
 math_bits_Mul64:tab eW=some lv
 mul_trim:tab kE=some vG
 slices_Backward_api_Nat_uint64:tab bC=some dV
 math_bits_Div64:tab dP=some ly
 math_bits_Len64:tab eY=some lx
 nat_asked:tab jq=some sS
 nat_pairs_f1:tab eD=some oD
 slices_Backward_api_Nat_uint64_f1:tab aK=some dl
end Go.Proofs.YtichbdepocojaaaGreat.Ev
/- A part. -/
namespace Go.Proofs.YtichbdepocojaaaGreat.Nn
set_option linter.all false
abbrev B:Nat:=18446744073709551616
def val:List Nat->Nat
 | []=>0
 | a :: l=>a+B*val l
def Lim (l:List Nat):Prop:=∀ a∈l,a<B
def E7 (l:List Nat):Prop:=l.getLast? ≠ some 0
theorem Lim.nil:Lim []:=fun a h=>by cases h
theorem Lim.cons {a:Nat} {l:List Nat} (h:a<B) (hl:Lim l):Lim (a :: l):=fun b hb=>by
 rcases List.mem_cons.1 hb with rfl | hb
 ·exact h
 ·exact hl b hb
theorem Lim.head {a:Nat} {l:List Nat} (h:Lim (a :: l)):a<B:=h a (List.mem_cons_self ..)
theorem Lim.tail {a:Nat} {l:List Nat} (h:Lim (a :: l)):Lim l:=fun b hb=>h b (List.mem_cons_of_mem _ hb)
theorem Lim.append {l m:List Nat} (h:Lim l) (h':Lim m):Lim (l++m):=fun b hb=>by
 rcases List.mem_append.1 hb with hb | hb
 ·exact h b hb
 ·exact h' b hb
theorem Lim.take {l:List Nat} (h:Lim l) (n:Nat):Lim (l.take n):=fun b hb=>h b (List.mem_of_mem_take hb)
theorem Lim.drop {l:List Nat} (h:Lim l) (n:Nat):Lim (l.drop n):=fun b hb=>h b (List.mem_of_mem_drop hb)
theorem Lim.replicate (n:Nat):Lim (List.replicate n 0):=fun b hb=>by
 rw [List.eq_of_mem_replicate hb]; decide
theorem Lim.at {l:List Nat} (h:Lim l) (i:Nat):l.getD i 0<B:=by
 rw [List.getD_eq_getElem?_getD]
 cases hi:l[i]? with
 | none=>show 0<B; decide
 | some a=>exact h a (List.mem_of_getElem? hi)
theorem mH:∀ (l m:List Nat),val (l++m)=val l+B^l.length*val m
 | [],m=>by simp [val]
 | a :: l,m=>by
  simp only [List.cons_append,val,mH l m,List.length_cons,Nat.pow_succ]
  rw [Nat.mul_add,<- Nat.mul_assoc,Nat.mul_comm (B^l.length) B]
  omega
theorem pO:∀ {l:List Nat},Lim l->val l<B^l.length
 | [],_=>by simp [val]
 | a :: l,h=>by
  have ih:=pO h.tail
  have ha:=h.head
  simp only [val,List.length_cons,Nat.pow_succ]
  have:B*(val l+1)<=B*B^l.length:=Nat.mul_le_mul_left B ih
  rw [Nat.mul_comm (B^l.length) B]
  rw [Nat.mul_add] at this
  omega
theorem eS (n:Nat):val (List.replicate n 0)=0:=by
 induction n with
 | zero=>rfl
 | succ n ih=>simp [List.replicate_succ,val,ih]
theorem iG (l:List Nat) (a:Nat):val (l++[a])=val l+B^l.length*a:=by
 rw [mH]; simp [val]
theorem B9:∀ {l m:List Nat},Lim l->Lim m->l.length=m.length->val l=val m->l=m
 | [],[],_,_,_,_=>rfl
 | [],_ :: _,_,_,h,_=>by simp at h
 | _ :: _,[],_,_,h,_=>by simp at h
 | a :: l,b :: m,h1,h2,h,e=>by
  have ha:=h1.head
  have hb:=h2.head
  simp only [val] at e
  have e1:a=b:=by
   have:(a+B*val l) % B=(b+B*val m) % B:=by rw [e]
   rw [Nat.add_mul_mod_self_left,Nat.add_mul_mod_self_left,Nat.mod_eq_of_lt ha,Nat.mod_eq_of_lt hb] at this
   exact this
  subst e1
  have e2:val l=val m:=Nat.eq_of_mul_eq_mul_left (by decide) (Nat.add_left_cancel e)
  rw [B9 h1.tail h2.tail (by simpa using h) e2]
theorem tt {l:List Nat} (hn:E7 l) (hne:l≠[]):B^(l.length-1)<=val l:=by
 rcases List.eq_nil_or_concat l with rfl | ⟨l',a,rfl⟩
 ·exact absurd rfl hne
 ·rw [List.concat_eq_append] at *
  rw [iG]
  have ha:a≠0:=fun e=>hn (by rw [e]; simp)
  have:B^l'.length*1<=B^l'.length*a:=Nat.mul_le_mul_left _ (by omega)
  simp only [List.length_append,List.length_singleton,Nat.add_sub_cancel]
  omega
theorem IM {l m:List Nat} (h1:Lim l) (h2:Lim m) (n1:E7 l) (n2:E7 m) (e:val l=val m):l=m:=by
 have key:∀ {l m:List Nat},Lim l->E7 m->val l=val m->m.length<=l.length:=by
  intro l m h1 n2 e
  by_cases hm:m=[]
  ·subst hm; simp
  ·have g1:=pO h1
   have g2:=tt n2 hm
   apply Nat.le_of_not_lt
   intro hlt
   have:B^l.length<=B^(m.length-1):=Nat.pow_le_pow_right (by decide) (by omega)
   omega
 exact B9 h1 h2 (Nat.le_antisymm (key h2 n1 e.symm) (key h1 n2 e)) e
def ag (n:Nat):List Nat:=if h:n=0 then [] else n % B :: ag (n / B)
 termination_by n
 decreasing_by exact Nat.div_lt_self (by omega) (by decide)
theorem cw:ag 0=[]:=by unfold ag; rfl
theorem iP {n:Nat} (h:n≠0):ag n=n % B :: ag (n / B):=by rw [ag,dif_neg h]
theorem bG (n:Nat):val (ag n)=n:=by
 induction n using Nat.strongRecOn with
 | _ n ih =>
  by_cases h:n=0
  ·subst h; rw [cw]; rfl
  ·rw [iP h]
   simp only [val]
   rw [ih _ (Nat.div_lt_self (by omega) (by decide))]
   have:=Nat.mod_add_div n B
   omega
theorem bp (n:Nat):Lim (ag n):=by
 induction n using Nat.strongRecOn with
 | _ n ih =>
  by_cases h:n=0
  ·subst h; rw [cw]; exact Lim.nil
  ·rw [iP h]
   exact Lim.cons (Nat.mod_lt _ (by decide)) (ih _ (Nat.div_lt_self (by omega) (by decide)))
theorem dr (n:Nat):E7 (ag n):=by
 induction n using Nat.strongRecOn with
 | _ n ih =>
  by_cases h:n=0
  ·subst h; rw [cw]; simp [E7]
  ·rw [iP h]
   have ih:=ih _ (Nat.div_lt_self (by omega) (by decide:1<B))
   unfold E7 at ih ⊢
   by_cases h2:n / B=0
   ·rw [h2,cw]
    have:n % B=n:=Nat.mod_eq_of_lt (by
     rcases Nat.lt_or_ge n B with h | h
     ·exact h
     ·have:=Nat.div_pos h (by decide:0<B); omega)
    rw [this]
    simp [h]
   ·rw [iP h2] at ih ⊢
    rw [List.getLast?_cons_cons]; exact ih
theorem rD {l:List Nat} (h:Lim l) (n:E7 l):ag (val l)=l:=IM (bp _) h (dr _) n (bG _)
theorem bc {n k:Nat} (h:n<B^k):(ag n).length<=k:=by
 by_cases h0:ag n=[]
 ·rw [h0]; simp
 ·have g:=tt (dr n) h0
  rw [bG] at g
  apply Nat.le_of_not_lt
  intro hlt
  have:B^k<=B^((ag n).length-1):=Nat.pow_le_pow_right (by decide) (by omega)
  omega
theorem fZ (n:Nat):n<B^(ag n).length:=by
 have:=pO (bp n)
 rw [bG] at this; exact this
theorem limbs_nil {n:Nat}:ag n=[] ↔ n=0:=by
 constructor
 ·intro h
  have:=bG n
  rw [h] at this
  simpa [val] using this.symm
 ·rintro rfl; exact cw
def du (l:List Nat):List Nat:=(l.reverse.dropWhile (· == 0)).reverse
theorem cM (l:List Nat):du (l++[0])=du l:=by simp [du]
theorem fD {l:List Nat} {a:Nat} (h:a≠0):du (l++[a])=l++[a]:=by simp [du,h]
theorem rk:du []=[]:=rfl
theorem tQ:∀ (n:Nat) (l:List Nat),l.length=n->Lim l->du l=ag (val l)
 | 0,l,hl,_=>by
  have:l=[]:=List.eq_nil_of_length_eq_zero hl
  subst this
  rw [rk]; show []=ag 0; rw [cw]
 | n+1,l,hl,h=>by
  rcases List.eq_nil_or_concat l with rfl | ⟨l',a,rfl⟩
  ·simp at hl
  ·rw [List.concat_eq_append] at *
   have hl':l'.length=n:=by simpa using hl
   have hlim:Lim l':=fun x hx=>h x (List.mem_append_left _ hx)
   by_cases ha:a=0
   ·subst ha
    rw [cM,tQ n l' hl' hlim,iG]; simp
   ·rw [fD ha,rD h]
    unfold E7
    simp [ha]
theorem dW {l:List Nat} (h:Lim l):du l=ag (val l):=tQ _ l rfl h
end Go.Proofs.YtichbdepocojaaaGreat.Nn
namespace Go.Proofs.YtichbdepocojaaaGreat.Ev
open Go Nn
set_option linter.all false
abbrev Lb (H:Heap) (v:AV) (l:List Nat):Prop:=tk b7 ad H v l
abbrev ct (H:Heap) (v:AV) (n:Nat):Prop:=Lb H v (ag n)
def Sm (n:Nat):Prop:=(ag n).length<1099511627776
section
variable {tab:Nat->Option aq} {H:Heap} {s:AV} {l:List Nat}
theorem el (hs:Lb H s l) {i:Nat} (hi:i<l.length):cq H none (aV s i)=some (.int .u64 (l.getD i 0:Nat)):=by
 obtain ⟨c,hc,h⟩:=SlV.at1 hs (i:=i) (a:=l.getD i 0) (by simp [hi,List.getD_eq_getElem?_getD])
 rw [h,hc]
theorem nat_Check (C:Code tab) (hw:Wf H) (hs:Lb H s l) (hbig:l.length<4611686018427387904) :
  Ans tab (.fn gN [s]) H fun v H'=>v=.int .i64 (if l.getLast? = some 0 then 8 else 0)/\Kp H H':=by
 refine d9 C.nat_Check (by decide) fun T hl g0=>?_
 rcases List.eq_nil_or_concat l with rfl | ⟨l',a,rfl⟩
 ·have hle:lenV s=some (.int .i64 0):=hs.lenV
  refine zW (aB hl g0 hle) ?_
  exact ⟨rfl,zK⟩
 ·rw [List.concat_eq_append] at *
  have hle:lenV s=some (.int .i64 ((l'.length:Int)+1)):=by have:=hs.lenV; simpa using this
  have hwr:IntKind.i64.wrap ((l'.length:Int)+1-1)=(l'.length:Int):=by rw [wrap_i64] <;> simp at hbig <;> omega
  have hpos:(0:Int)<(l'.length:Int)+1:=by omega
  have hi:=SlV.idx1 hs .i64 l'.length (by simp)
  have hld:cq H none (aV s l'.length)=some (.int .u64 (a:Nat)):=by rw [el hs (by simp)]; simp
  refine zW (kT hl g0 hle hwr hpos hi hld) ?_
  refine iteH.split (fun h=>?_) fun h=>?_
  ·refine zW (aw hl g0) ?_
   exact ⟨by rw [if_pos]; simp; omega,zK⟩
  ·refine zW (aw hl g0) ?_
   exact ⟨by rw [if_neg]; simp; omega,zK⟩
theorem nS (C:Code tab) (hw:Wf H) {ls:List (List Nat)} {ty:Nat} (hs:tk (nD (bz b7) ad) ty H s ls) (hbig:ls.length<4611686018427387904) (hc:∀ c∈ls,c.length<4611686018427387904/\c.getLast? ≠ some 0) :
  Ans tab (.fn fX [s]) H fun v H'=>v=.int .i64 0/\Kp H H':=by
 refine d9 C.nat_checked (by decide) fun T hl g0=>?_
 refine zW (aB hl g0 hs.lenV) ?_
 refine al H [] (fun _ _ _=>True) (a:=0) (N:=ls.length) rfl (by refine zW (aw hl g0) ?_; rfl) (zV (aw hl g0)) (Nat.zero_le _) (by omega) (by simp only [List.length_set,hl]; rfl) rfl (fun _ _ _ _ h=>h) zK trivial ?_ ?_
 ·intro j T1 H1 _ hj hl1 hi1 hs1 hk1 _
  have w1:=hk1.wf
  have le_hk1:=hk1.le
  have t6:af T1 6=s:=(hs1.at_ 6 (by decide)).trans (zV (aw hl g0))
  obtain ⟨c,hcr,hld⟩:=SlV.at1 (hs.mono hk1.sub) (List.getElem?_eq_getElem hj)
  have hix:=SlV.idx1 hs .i64 j hj
  have hcc:=hc _ (List.getElem_mem hj)
  simp only [List.length_set,hl] at hl1
  refine zW (da hl1 t6 hi1 hix hld) ?_
  refine AnsH.eq (nat_Check C zF hcr hcc.1) fun H2 h2=>?_
  rw [if_neg hcc.2]
  refine zW hl1 ?_
  have k2:Kp H H2:=Kp.trans zK h2
  have le_k2:=k2.le
  exact zK
 ·intro T1 H1 hl1 hs1 hk1 _
  simp only [List.length_set,hl] at hl1
  refine zW hl1 ?_
  exact zK
theorem gh (C:Code tab) (hw:Wf H) (hs:Lb H s l):Ans tab (.fn aU [s]) H fun v H'=>Lb H' v l/\Kp H H':=by
 refine d9 C.slices_Clip_api_Nat_uint64 (by decide) fun T hl g0=>?_
 obtain ⟨v',e,hr⟩:=hs.clip .i64 .i64
 have e':cp 1 s none (some (.int .i64 (l.length:Int))) (some (.int .i64 (l.length:Int)))=some v':=e
 refine zW (aT hl g0 hs.lenV e') ?_
 exact ⟨hr.mono (Sub.bump H _),zK⟩
theorem nat_trim (C:Code tab) (hw:Wf H) (hs:Lb H s l) (hbig:l.length<4611686018427387904) :
  Ans tab (.fn kD [s]) H fun v H'=>Lb H' v (du l)/\Kp H H':=by
 refine d9 C.nat_trim (by decide) fun T hl g0=>?_
 refine zW (aw hl g0) ?_
 refine bK H [0] (fun k vs H'=>∃ v,vs=[v]/\Lb H' v (l.take k)/\du (l.take k)=du l/\k<=l.length) l.length (by simp only [List.length_set]; exact hl) rfl zK ⟨s,by exact zV (aw hl g0),by rw [List.take_length]; exact hs,by rw [List.take_length],Nat.le_refl _⟩ ?_
 rintro k T1 H1 hl1 hs1 hk1 ⟨v,hv,hr,ht,hk⟩
 have w1:=hk1.wf
 have le_hk1:=hk1.le
 simp only [List.map_cons,List.map_nil,List.cons.injEq,and_true] at hv
 rcases List.eq_nil_or_concat (l.take k) with h0 | ⟨l',a,h0⟩
 ·rw [h0] at hr ht
  have hle:lenV v=some (.int .i64 0):=hr.lenV
  refine zW (aB hl1 hv hle) ?_
  refine AnsH.use (gh C zF (hr.mono (Sub.bump H1 _))) ?_
  rintro v2 H2 ⟨h1,h2⟩
  have k2:Kp H H2:=Kp.trans zK h2
  have le_k2:=k2.le
  rw [<- ht]
  refine zW hl1 ?_
  exact ⟨h1,zK⟩
 ·rw [List.concat_eq_append] at h0
  have hk1':k=l'.length+1:=by have:=congrArg List.length h0; simp at this; omega
  have hl':l.take l'.length=l':=by
   have:=congrArg (List.take l'.length) h0
   rw [List.take_take,Nat.min_eq_left (by omega)] at this
   simpa using this
  rw [h0] at hr ht
  have hle:lenV v=some (.int .i64 ((l'.length:Int)+1)):=by have:=hr.lenV; simpa using this
  have hpos:(0:Int)<(l'.length:Int)+1:=by omega
  have hix:=SlV.idx1 hr .i64 l'.length (by simp)
  have hld:cq H1 none (aV v l'.length)=some (.int .u64 (a:Nat)):=by rw [el hr (by simp)]; simp
  have hwr:IntKind.i64.wrap ((l'.length:Int)+1-1)=(l'.length:Int):=by rw [wrap_i64] <;> omega
  refine zW (kT hl1 hv hle hpos hix hld hwr) ?_
  refine iteH.split (fun ha=>?_) fun ha=>?_
  ·obtain ⟨v',e,hr'⟩:=hr.hi .i64 l'.length (by simp)
   have e':cp 1 v none (some (.int .i64 (l'.length:Int))) none=some v':=e
   have ha0:a=0:=by omega
   subst ha0
   refine zW (da hl1 hv hle hwr e') ?_
   refine ⟨zK,l'.length,by omega,v',rfl,?_,?_,by omega⟩
   ·rw [hl']
    have h3:Lb H1 v' l':=by simpa using hr'
    exact h3.mono (Sub.bump H1 _)
   ·rw [hl',<- ht,cM]
  ·have ha':a≠0:=by omega
   refine zW (aw hl1 hv) ?_
   refine AnsH.use (gh C zF (hr.mono (Sub.bump H1 _))) ?_
   rintro v2 H2 ⟨h1,h2⟩
   have k2:Kp H H2:=Kp.trans zK h2
   have le_k2:=k2.le
   rw [fD ha'] at ht
   rw [<- ht]
   refine zW hl1 ?_
   exact ⟨h1,zK⟩
theorem nat_Of (C:Code tab) (hw:Wf H) {n:Nat} (hn:n<B):Ans tab (.fn mm [.int .u64 (n:Int)]) H fun v H'=>ct H' v n/\Sm n/\Kp H H':=by
 refine d9 C.nat_Of (by decide) fun T hl g0=>?_
 refine zW (aw hl g0) ?_
 have k1:Kp H ((H.up 5).put (H.next+2) (.cells [.int .u64 (n:Int)] ad true)):=zK
 have le_k1:=k1.le
 have hs:Lb ((H.up 5).put (H.next+2) (.cells [.int .u64 (n:Int)] ad true)) (.own (H.next+2) 0 1 1 1 true) [n] :=
  (show Own (bz b7) ad H _ _ true _ [n] from ⟨_,rfl,aG _ _ _,Cells.one ⟨_,rfl,rfl⟩,by omega⟩).sl
 refine AnsH.use (nat_trim C k1.wf hs (by simp)) ?_
 rintro v H2 ⟨h1,h2⟩
 have e:du [n]=ag n:=by rw [dW (Lim.cons hn Lim.nil)]; simp [val]
 rw [e] at h1
 refine zW (aw hl g0) ?_
 refine ⟨h1,?_,k1.trans h2⟩
 have:=bc (n:=n) (k:=1) (by simpa using hn)
 unfold Sm; omega
theorem whole_made (C:Code tab) (hw:Wf H) (hs:Lb H s l) (b:Bool) :
  Ans tab (.fn dO [.bool b,s]) H fun v H'=>v=.agg [.bool (b && decide (0<l.length)),s]/\Kp H H':=by
 refine cD C.whole_made (by decide) fun T hl g0 g1=>?_
 have o1:=hs.one
 cases b
 ·refine zW (aT hl g0 g1 hs.lenV) ?_
  exact zK
 ·refine zW (aT hl g0 g1 hs.lenV) ?_
  exact zK
end
def dg (f:Nat->Nat->Nat->Nat × Nat) (a b:List Nat):Nat->List Nat × Nat
 | 0=>([],0)
 | k+1=>((dg f a b k).1++[(f (a.getD k 0) (b.getD k 0) (dg f a b k).2).1],(f (a.getD k 0) (b.getD k 0) (dg f a b k).2).2)
theorem fN (f:Nat->Nat->Nat->Nat × Nat) (a b:List Nat):∀ k,(dg f a b k).1.length=k
 | 0=>rfl
 | k+1=>by simp [dg,fN f a b k]
section
variable {tab:Nat->Option aq} {H:Heap}
theorem nat_pairs (C:Code tab) (hw:Wf H) {sa sb:AV} (ha:One sa) (hb:One sb) :
  Ans tab (.fn lg [sa,sb]) H fun v H'=>v=.fn (.func eD) [] [.ptr H.next 0,.ptr (H.next+1) 0]/\H'.get H.next=some (.cells [sa] ai true)/\H'.get (H.next+1)=some (.cells [sb] ai true)/\H.next+2<=H'.next/\Kp H H':=by
 refine cD C.nat_pairs (by decide) fun T hl g0 g1=>?_
 refine zW (aB hl g0 g1) ?_
 exact ⟨by omega,zK⟩
theorem wm (C:Code tab) {H0:Heap} {lb ba bb:Nat} {a b:List Nat} {sa sb:AV} (J:Nat->Heap->Prop) (hla:a.length<4611686018427387904) (hlb:b.length<4611686018427387904) {M:Nat} (hM:M=max a.length b.length)
  (hk:Kp H0 H) (h0:J 0 H) (hup:∀ k H m,J k H->J k (H.up m)) (hA:∀ k H,J k H->H.get ba=some (.cells [sa] ai true)/\Lb H sa a/\H.get bb=some (.cells [sb] ai true)/\Lb H sb b)
  (hr:∀ k H,k<M->Kp H0 H->J k H->Ans tab (.round lb [.int .u64 (a.getD k 0:Nat),.int .u64 (b.getD k 0:Nat)]) H fun v H'=>v=.bool true/\Kp H0 H'/\J (k+1) H') :
  Ans tab (.ent eD [.loopv lb,.ptr ba 0,.ptr bb 0]) H fun _ H'=>Kp H0 H'/\J M H':=by
 refine Nt C.nat_pairs_f1 (by decide) fun T hl g0 g1 g2=>?_
 obtain ⟨q1,q2,q3,q4⟩:=hA _ _ h0
 have hmax:DU (.int .i64 (a.length:Int)) (.int .i64 (b.length:Int))=some (.int .i64 (M:Int)):=by rw [yg]; congr 2; split <;> omega
 refine zW (nF hl g0 g1 g2 q1 q3 q2.lenV q4.lenV hmax) ?_
 refine al H0 [] (fun j _ H'=>J j H') (a:=0) (N:=M) rfl (by refine zW (aT hl g0 g1 g2) ?_; rfl) (zV (aT hl g0 g1 g2)) (Nat.zero_le _) (by omega) (by simp only [List.length_set,hl]; rfl) rfl (fun j _ H' m h=>hup _ _ _ h) zK (hup _ _ _ h0) ?_ ?_
 ·intro j T1 H1 _ hj hl1 hi1 hs1 hk1 hJ
  simp only [List.length_set,hl] at hl1
  have t0:af T1 0=.loopv lb:=(hs1.at_ 0 (by decide)).trans (zV (aw hl g0))
  have t1:af T1 1=.ptr ba 0:=(hs1.at_ 1 (by decide)).trans (zV (da hl g0 g1 g2 g1))
  have t2:af T1 2=.ptr bb 0:=(hs1.at_ 2 (by decide)).trans (zV (da hl g0 g1 g2 g2))
  obtain ⟨q1,q2,q3,q4⟩:=hA _ _ hJ
  have gz:∀ (l:List Nat),¬ j<l.length->l.getD j 0=0:=fun l h=>by rw [List.getD_eq_getElem?_getD,List.getElem?_eq_none (by omega)]; rfl
  have hround:∀ m,Ans tab (.round lb [.int .u64 (a.getD j 0:Nat),.int .u64 (b.getD j 0:Nat)]) (H1.up m) fun v H'=>v=.bool true/\Kp H0 H'/\J (j+1) H':=fun m=>hr j _ hj (hk1.up m) (hup _ _ _ hJ)
  refine zW (nF hl1 t0 t1 t2 hi1 q1 q3 q2.lenV q4.lenV) ?_
  refine iteH.split (fun h1=>?_) fun h1=>?_
  ·have x1:=SlV.idx1 q2 .i64 j h1
   have d1:=el q2 h1
   refine zW (rh hl1 t0 t1 t2 hi1 q1 q3 q2.lenV q4.lenV x1 d1) ?_
   refine iteH.split (fun h2=>?_) fun h2=>?_
   ·have x2:=SlV.idx1 q4 .i64 j h2
    have d2:=el q4 h2
    refine zW (rh hl1 t0 t1 t2 hi1 q1 q3 q2.lenV q4.lenV x2 d2) ?_
    refine AnsH.eq (hround _) fun H2 ⟨k2,j2⟩=>?_
    refine zW hl1 ?_
    exact ⟨zK,j2⟩
   ·rw [gz b h2] at hround
    refine zW (kT hl1 t0 t1 t2 hi1 q1 q3) ?_
    refine AnsH.eq (hround _) fun H2 ⟨k2,j2⟩=>?_
    refine zW hl1 ?_
    exact ⟨zK,j2⟩
  ·rw [gz a h1] at hround
   refine zW (nF hl1 t0 t1 t2 hi1 q1 q3 q2.lenV q4.lenV) ?_
   refine iteH.split (fun h2=>?_) fun h2=>?_
   ·have x2:=SlV.idx1 q4 .i64 j h2
    have d2:=el q4 h2
    refine zW (rh hl1 t0 t1 t2 hi1 q1 q3 q2.lenV q4.lenV x2 d2) ?_
    refine AnsH.eq (hround _) fun H2 ⟨k2,j2⟩=>?_
    refine zW hl1 ?_
    exact ⟨zK,j2⟩
   ·rw [gz b h2] at hround
    refine zW (kT hl1 t0 t1 t2 hi1 q1 q3) ?_
    refine AnsH.eq (hround _) fun H2 ⟨k2,j2⟩=>?_
    refine zW hl1 ?_
    exact ⟨zK,j2⟩
 ·intro T1 H1 hl1 hs1 hk1 hJ
  refine zW hl1 ?_
  exact ⟨hk1,hJ⟩
theorem pQ {f:Src} {ps:List Nat} {asg body:ACode} {T:Tm} {Q:Ex->Tm->Heap->Prop} {fi:Nat} {args:List AV} (hf:gu (f.ev T) [.loopv H.next]=some (.fn fi args))
  (h:Ans tab (.ent fi args) ((H.up 1).put H.next (.loop T ps asg body .ready none)) fun _ H2 =>
   (H2.get H.next=some (.loop T ps asg body .ready none)/\Q .nrm T (H2.kill H.next))\/(H2.get H.next=some (.loop T ps asg body .done (some .ret))/\Q .ret T (H2.kill H.next)) \/
   (∃ id,H2.get H.next=some (.loop T ps asg body .done (some (.exit id)))/\Q (.exit id) T (H2.kill H.next))):rangeH tab f ps asg body () () T H Q ():=rangeH.use hf h
theorem nat_joined (C:Code tab) (hw:Wf H) {sa sb:AV} {a b:List Nat} (ha:Lb H sa a) (hb:Lb H sb b) (hla:a.length<4398046511104) (hlb:b.length<4398046511104) (la:Lim a) (lmb:Lim b) {fi:Nat} {f:Nat->Nat->Nat->Nat × Nat}
  (hg:∀ H x y c,x<B->y<B->c<=1->Ans tab (.fn fi [.int .u64 (x:Nat),.int .u64 (y:Nat),.int .u64 (c:Nat)]) H fun v H'=>v=.tup [.int .u64 ((f x y c).1:Nat),.int .u64 ((f x y c).2:Nat)]/\H'=H) (hc1:∀ x y c,x<B->y<B->c<=1->(f x y c).2<=1) :
  Ans tab (.fn hZ [sa,sb,.fn (.func fi) [] []]) H fun v H'=>∃ o,v=.tup [o,.int .u64 ((dg f a b (max a.length b.length)).2:Nat)]/\Bl (bz b7) ad H H' o (dg f a b (max a.length b.length)).1/\Kp H H':=by
 refine jP C.nat_joined (by decide) fun T hl g0 g1 g2=>?_
 refine zW (aT hl g0 g1 g2) ?_
 have k1:Kp H ((((H.up 6).put H.next (.cells [.fn (.func fi) [] []] aj true)).put (H.next+1) (.cells [.nilSl] ai true)).put (H.next+1+1) (.cells [.int .u64 0] ad true)):=zK
 have le_k1:=k1.le
 refine AnsH.use (nat_pairs C k1.wf ha.one hb.one) ?_
 rintro v H2 ⟨rfl,b1,b2,hn2,hk2⟩
 have k2:=k1.trans hk2
 have p5:H2.get H.next=some (.cells [.fn (.func fi) [] []] aj true):=hk2.get (eA)
 have p6:H2.get (H.next+1)=some (.cells [.nilSl] ai true):=hk2.get (eA)
 have p7:H2.get (H.next+1+1)=some (.cells [.int .u64 0] ad true):=hk2.get (eA)
 have hn1:((((H.up 6).put H.next (.cells [.fn (.func fi) [] []] aj true)).put (H.next+1) (.cells [.nilSl] ai true)).put (H.next+1+1) (.cells [.int .u64 0] ad true)).next=H.next+6:=rfl
 rw [hn1] at b1 b2 hn2 ⊢
 refine zW (aT hl g0 g1 g2) ?_
 refine pQ (fi:=eD) (args:=[.loopv H2.next,.ptr (H.next+6) 0,.ptr (H.next+6+1) 0]) (by refine zW (aT hl g0 g1 g2) ?_; rfl) ?_
 generalize he:Ent.loop _ _ _ _ _ _=e0
 have k3:Kp H ((H2.up 1).put H2.next e0):=zK
 have le_k3:=k3.le
 refine (wm C (H0:=H) (a:=a) (b:=b) (sa:=sa) (sb:=sb) (M:=max a.length b.length) (fun k H'=>H'.get H2.next=some e0/\H'.get H.next=some (.cells [.fn (.func fi) [] []] aj true) /\
   (∃ o,H'.get (H.next+1)=some (.cells [o] ai true)/\Bl (bz b7) ad H H' o (dg f a b k).1/\∀ n,o ≠ .own (H.next+1+1) 0 n n 1 false)/\H'.get (H.next+1+1)=some (.cells [.int .u64 ((dg f a b k).2:Nat)] ad true)/\(dg f a b k).2<=1 /\
   H'.get (H.next+6)=some (.cells [sa] ai true)/\H'.get (H.next+6+1)=some (.cells [sb] ai true)/\Lb H' sa a/\Lb H' sb b) (by omega) (by omega) rfl k3
  ⟨by exact eA,by exact zV p5,⟨.nilSl,by exact zV p6,Bl.nil,fun n h=>by cases h⟩,by refine zW p7 ?_; rfl,Nat.zero_le _,by exact zV b1,by exact zV b2,ha.mono k3.sub,hb.mono k3.sub⟩ (fun _ _ _ h=>h) (fun k H' h=>⟨h.2.2.2.2.2.1,h.2.2.2.2.2.2.2.1,h.2.2.2.2.2.2.1,h.2.2.2.2.2.2.2.2⟩) ?_).mono ?_
 ·rintro k H1 hk hk1 ⟨j0,j5,⟨o,j6,jo,jn⟩,j7,j7',ja,jb,-,-⟩
  rw [<- he] at j0
  refine qc j0 rfl ?_
  refine zW (lW hl g0 g1 g2 j0 j5 j6 j7) ?_
  refine AnsH.eq (hg _ _ _ _ (la.at k) (lmb.at k) j7') fun H3 e3=>?_
  subst e3
  have hlt:=hk1.wf _ _ j0
  have hle:=hk1.le
  have hz:=hc1 _ _ _ (la.at k) (lmb.at k) j7'
  refine zW (lW hl g0 g1 g2 j0 j5 j6 j7) ?_
  generalize he2:Ent.loop _ _ _ _ LoopState.busy none=e2
  generalize hzz:f (a.getD k 0) (b.getD k 0) (dg f a b k).2=z
  have k4:Kp H (((H1.up 13).put H2.next e2).put (H.next+2) (.cells [.int .u64 (z.2:Nat)] ad true)):=zK
  have le_k4:=k4.le
  have q1:Bl (bz b7) ad H (((H1.up 13).put H2.next e2).put (H.next+2) (.cells [.int .u64 (z.2:Nat)] ad true)) o (dg f a b k).1 :=
   (Bl.put (show Bl _ _ _ (H1.up 13) _ _ from jo) (jo.ne j0 fun cs h=>by cases h) (SubT.nil _ _)).put jn (SubT.nil _ _)
  have hlen:=fN f a b k
  obtain ⟨n,H4,e1,q2,k5,hn4,hp⟩:=q1.push (ty2:=ad) (bytes:=8) (id:=H1.next+16) (id2:=H1.next+15) (k:=5) (cs:=[.int .u64 (z.1:Nat)]) (a:=z.1) (fun h=>by cases h) k4 ⟨_,rfl,rfl⟩
   (by show H1.next+13<=_; omega) (by show _<H1.next+13+5; omega) (by show H1.next+13<=_; omega) (by show _<H1.next+13+5; omega) (by omega) (by omega) (by omega)
  have e1':eP ((((H1.up 18).put H2.next e2).put (H.next+2) (.cells [.int .u64 (z.2:Nat)] ad true)).put (H1.next+15) (.cells [.int .u64 (z.1:Nat)] ad true)) (H1.next+16) 1 8 ad o (.own (H1.next+15) 0 1 1 1 true)=some (.own (H1.next+16) 0 n n 1 false,H4):=e1
  have r6:H4.get (H.next+1)=some (.cells [o] ai true):=hp (H.next+1) (.cells [o] ai true) (zV j6) (q1.ne (e:=.cells [o] ai true) (zV j6) fun cs h=>by injection h with _ h2; exact absurd h2 (by decide))
  refine zW (iq hl g0 g1 g2 e1' r6) ?_
  have ty1:∀ {o':AV} {cs:List AV},Ent.cells [o'] ai true ≠ .cells cs ad true:=fun h=>by injection h with _ h2; exact absurd h2 (by decide)
  have r0:H4.get H2.next=some e2:=hp H2.next e2 (eA) (q1.ne (e:=e2) (eA) fun cs h=>by rw [<- he2] at h; cases h)
  have r5:H4.get H.next=some (.cells [.fn (.func fi) [] []] aj true):=hp H.next _ (zV j5) (q1.ne (e:=.cells [.fn (.func fi) [] []] aj true) (zV j5) fun cs h=>by injection h with _ h2; exact absurd h2 (by decide))
  have r7:H4.get (H.next+2)=some (.cells [.int .u64 (z.2:Nat)] ad true):=hp (H.next+2) _ (eA) jn
  have ra:H4.get (H.next+6)=some (.cells [sa] ai true):=hp (H.next+6) (.cells [sa] ai true) (zV ja) (q1.ne (e:=.cells [sa] ai true) (zV ja) fun cs=>ty1)
  have rb:H4.get (H.next+7)=some (.cells [sb] ai true):=hp (H.next+7) (.cells [sb] ai true) (zV jb) (q1.ne (e:=.cells [sb] ai true) (zV jb) fun cs=>ty1)
  have hn4':H4.next=H1.next+18:=hn4
  have k6:Kp H ((H4.put (H.next+1) (.cells [.own (H1.next+16) 0 n n 1 false] ai true)).put H2.next e0):=zK
  have le_k6:=k6.le
  rw [uv]
  refine zW (kT he2 he r0 r5 r7 ra rb) ?_
  refine ⟨k6,⟨_,rfl,?_,fun n' h=>by injection h; omega⟩,?_,?_,ha.mono k6.sub,hb.mono k6.sub⟩
  ·have:(dg f a b (k+1)).1=(dg f a b k).1++[z.1]:=by rw [<- hzz]; rfl
   rw [this]
   exact (q2.put (fun n' h=>by injection h; omega) (SubT.nil _ _)).put (fun n' h=>by injection h; omega) (SubT.nil _ _)
  ·rw [<- hzz]; rfl
  ·have:(dg f a b (k+1)).2=z.2:=by rw [<- hzz]; rfl
   rw [this,<- hzz]; exact hz
 ·rintro _ H' ⟨hk',j0,j5,⟨o,j6,jo,jn⟩,j7,j7',-⟩
  have hlt:=hk'.wf _ _ j0
  refine .inl ⟨j0,?_⟩
  refine zW (iq hl g0 g1 g2 j6 j7) ?_
  exact ⟨o,rfl,jo.kill (jo.ne j0 fun cs h=>by rw [<- he] at h; cases h) (SubT.nil _ _),zK⟩
end
theorem cF (l:List Nat) (k:Nat):val (l.take (k+1))=val (l.take k)+B^k*l.getD k 0:=by
 by_cases h:k<l.length
 ·rw [List.take_succ_eq_append_getElem h,iG,List.length_take,Nat.min_eq_left (Nat.le_of_lt h)]
  simp [List.getD_eq_getElem?_getD,h]
 ·rw [List.take_of_length_le (by omega),List.take_of_length_le (by omega),List.getD_eq_getElem?_getD,List.getElem?_eq_none (by omega)]
  simp
def eE (x y c:Nat):Nat × Nat:=((x+y+c) % B,(x+y+c) / B)
def ic (x y c:Nat):Nat × Nat:=((x+B-y-c) % B,if x<y+c then 1 else 0)
theorem tz (x y c:Nat) (hx:x<B) (hy:y<B) (hc:c<=1):(eE x y c).2<=1:=by
 simp only [eE,B] at *; omega
theorem qK (x y c:Nat):(ic x y c).2<=1:=by
 unfold ic; simp only; split <;> omega
theorem tw {f:Nat->Nat->Nat->Nat × Nat} {a b:List Nat} (la:Lim a) (lb:Lim b) (h:∀ x y c,x<B->y<B->c<=1->(f x y c).2<=1):∀ k,(dg f a b k).2<=1
 | 0=>Nat.zero_le _
 | k+1=>h _ _ _ (la.at k) (lb.at k) (tw la lb h k)
theorem uL {f:Nat->Nat->Nat->Nat × Nat} {a b:List Nat} (h:∀ x y c,(f x y c).1<B):∀ k,Lim (dg f a b k).1
 | 0=>Lim.nil
 | k+1=>(uL h k).append (Lim.cons (h _ _ _) Lim.nil)
theorem C2 {a b:List Nat}:∀ k,val (dg eE a b k).1+B^k*(dg eE a b k).2=val (a.take k)+val (b.take k)
 | 0=>by simp [dg,val]
 | k+1=>by
  have ih:=C2 (a:=a) (b:=b) k
  rw [cF,cF]
  simp only [dg,iG,fN]
  generalize dg eE a b k=r at ih ⊢
  generalize a.getD k 0=x
  generalize b.getD k 0=y
  simp only [eE]
  have e:=Nat.div_add_mod (x+y+r.2) B
  have:B^(k+1)*((x+y+r.2) / B)=B^k*(B*((x+y+r.2) / B)):=by rw [Nat.pow_succ,Nat.mul_assoc]
  rw [this]
  generalize B*((x+y+r.2) / B)=q at *
  generalize (x+y+r.2) % B=m at *
  have:B^k*(x+y+r.2)=B^k*q+B^k*m:=by rw [<- e,Nat.mul_add]
  rw [Nat.mul_add,Nat.mul_add] at this
  omega
theorem Cd {a b:List Nat} (la:Lim a) (lb:Lim b):∀ k,val (dg ic a b k).1+val (b.take k)=val (a.take k)+B^k*(dg ic a b k).2
 | 0=>by simp [dg,val]
 | k+1=>by
  have ih:=Cd la lb k
  have hc:(dg ic a b k).2<=1:=tw la lb (fun x y c _ _ _=>qK x y c) k
  rw [cF,cF]
  simp only [dg,iG,fN]
  have hx:=la.at k
  have hy:=lb.at k
  generalize dg ic a b k=r at ih hc ⊢
  generalize a.getD k 0=x at *
  generalize b.getD k 0=y at *
  have key:(ic x y r.2).1+y+r.2=x+B*(ic x y r.2).2:=by
   clear ih
   simp only [ic,B] at *
   split <;> omega
  have:B^(k+1)*(ic x y r.2).2=B^k*(B*(ic x y r.2).2):=by rw [Nat.pow_succ,Nat.mul_assoc]
  rw [this]
  have:=congrArg (B^k * ·) key
  simp only [Nat.mul_add] at this
  generalize B^k*(B*(ic x y r.2).2)=q at *
  generalize B^k*(ic x y r.2).1=m at *
  omega
section
variable {tab:Nat->Option aq} {H:Heap}
theorem gP (C:Code tab) (H:Heap) (x y c:Nat) (_:x<B) (_:y<B) (hc:c<=1):Ans tab (.fn cz [.int .u64 (x:Nat),.int .u64 (y:Nat),.int .u64 (c:Nat)]) H fun v H'=>v=.tup [.int .u64 ((eE x y c).1:Nat),.int .u64 ((eE x y c).2:Nat)]/\H'=H :=
 tC C.math_bits_Add64 rfl rfl (v:=.tup [.int .u64 ((eE x y c).1:Nat),.int .u64 ((eE x y c).2:Nat)]) (H':=H) (by
  show (if c<=1 then _ else _)=_
  rw [if_pos hc]; rfl) ⟨rfl,rfl⟩
theorem rV (C:Code tab) (H:Heap) (x y c:Nat) (_:x<B) (_:y<B) (hc:c<=1):Ans tab (.fn cN [.int .u64 (x:Nat),.int .u64 (y:Nat),.int .u64 (c:Nat)]) H fun v H'=>v=.tup [.int .u64 ((ic x y c).1:Nat),.int .u64 ((ic x y c).2:Nat)]/\H'=H :=
 tC C.math_bits_Sub64 rfl rfl (v:=.tup [.int .u64 ((ic x y c).1:Nat),.int .u64 ((ic x y c).2:Nat)]) (H':=H) (by
  show (if c<=1 then _ else _)=_
  rw [if_pos hc]; rfl) ⟨rfl,rfl⟩
theorem pS {H H1:Heap} {b ty t1:Nat} {α:Type} {E:gR α} {x y:AV} {l m:List α} (hx:SlV E t1 H x l) (hy:SlV E t1 H y m) (hs:Sub H H1) (hg:H1.get b=some (.cells [x,y] ty true)):tk (nD E t1) ty H1 (.own b 0 2 2 1 true) [l,m] :=
 ⟨[x,y],Rd.own hg rfl (Nat.le_refl _),fun _ _ _ _ _ _ e=>by cases e; exact ⟨_,_,hg⟩,rfl,fun i a hi=>by
  match i with
  | 0=>simp at hi; subst hi; exact ⟨x,rfl,hx.mono hs⟩
  | 1=>simp at hi; subst hi; exact ⟨y,rfl,hy.mono hs⟩
  | i+2=>simp at hi⟩
theorem GE {H H1:Heap} {b ty t1:Nat} {α:Type} {E:gR α} {x:AV} {l:List α} (hx:SlV E t1 H x l) (hs:Sub H H1) (hg:H1.get b=some (.cells [x] ty true)):tk (nD E t1) ty H1 (.own b 0 1 1 1 true) [l] :=
 ⟨[x],Rd.own hg rfl (Nat.le_refl _),fun _ _ _ _ _ _ e=>by cases e; exact ⟨_,_,hg⟩,rfl,fun i a hi=>by
  match i with
  | 0=>simp at hi; subst hi; exact ⟨x,rfl,hx.mono hs⟩
  | i+1=>simp at hi⟩
theorem po (a b:List Nat):a.take (max a.length b.length)=a:=List.take_of_length_le (by omega)
theorem nK (a b:List Nat):b.take (max a.length b.length)=b:=List.take_of_length_le (by omega)
theorem nat_Add (C:Code tab) (hw:Wf H) {sa sb:AV} {x y:Nat} (ha:ct H sa x) (hb:ct H sb y) (hx:Sm x) (hy:Sm y) :
  Ans tab (.fn mo [sa,sb]) H fun v H'=>∃ o,v=.tup [o,.int .i64 0]/\ct H' o (x+y)/\Kp H H':=by
 refine cD C.nat_Add (by decide) fun T hl g0 g1=>?_
 have oa:=ha.one
 have ob:=hb.one
 unfold Sm at hx hy
 refine zW (aB hl g0 g1) ?_
 have k1:Kp H ((H.up 7).put (H.next+4) (.cells [sa,sb] ai true)):=zK
 have le_k1:=k1.le
 refine AnsH.eq (nS C k1.wf (pS ha hb k1.sub (aG _ _ _)) (by simp) fun c hc=>?_) fun H2 hk2=>?_
 ·simp at hc
  rcases hc with rfl | rfl
  ·exact ⟨by omega,dr x⟩
  ·exact ⟨by omega,dr y⟩
 have k2:=k1.trans hk2
 have w2:=k2.wf
 refine zW (aB hl g0 g1) ?_
 refine AnsH.use (nat_joined C zF (ha.mono (k2.up _).sub) (hb.mono (k2.up _).sub) (by omega) (by omega) (bp x) (bp y) (f:=eE) (gP C) tz) ?_
 rintro v H3 ⟨o,rfl,ho,hk3⟩
 obtain ⟨k3,_,w3⟩:=zT H zK hk3
 have hlen:=fN eE (ag x) (ag y) (max (ag x).length (ag y).length)
 have hval:=C2 (a:=ag x) (b:=ag y) (max (ag x).length (ag y).length)
 rw [po,nK,bG,bG] at hval
 have hlim:Lim (dg eE (ag x) (ag y) (max (ag x).length (ag y).length)).1:=uL (fun x y c=>Nat.mod_lt _ (by decide)) _
 have hle:=tw (bp x) (bp y) tz (max (ag x).length (ag y).length)
 generalize dg eE (ag x) (ag y) (max (ag x).length (ag y).length)=r at *
 refine zW (aB hl g0 g1) ?_
 obtain ⟨n,H4,e1,q2,k5,hn4,-⟩:=ho.push (ty2:=ad) (bytes:=8) (id:=H3.next+3) (id2:=H3.next+2) (k:=7) (cs:=[.int .u64 (r.2:Nat)]) (a:=r.2) (fun h=>by cases h) hk3 ⟨_,rfl,rfl⟩ (by omega) (by omega) (by omega) (by omega) (by omega) (by omega) (by omega)
 have e1':eP ((H3.up 7).put (H3.next+2) (.cells [.int .u64 (r.2:Nat)] ad true)) (H3.next+3) 1 8 ad o (.own (H3.next+2) 0 1 1 1 true)=some (.own (H3.next+3) 0 n n 1 false,H4):=e1
 refine zW (aT hl g0 g1 e1') ?_
 have w4:=k5.wf
 refine AnsH.use (nat_trim C zF q2.sl (by simp; omega)) ?_
 rintro v H5 ⟨h5,hk5⟩
 have k7:Kp H H5:=((k2.up _).trans k5).trans hk5
 have le_k7:=k7.le
 have e:du (r.1++[r.2])=ag (x+y):=by
  rw [dW (hlim.append (Lim.cons (by unfold B; omega) Lim.nil)),iG,hlen,hval]
 rw [e] at h5
 refine zW (aB hl g0 g1) ?_
 exact ⟨v,rfl,h5,k7⟩
theorem nat_Sub (C:Code tab) (hw:Wf H) {sa sb:AV} {x y:Nat} (ha:ct H sa x) (hb:ct H sb y) (hx:Sm x) (hy:Sm y) :
  Ans tab (.fn j9 [sa,sb]) H fun v H'=>Kp H H'/\if y<=x then ∃ o,v=.tup [o,.int .i64 0]/\ct H' o (x-y) else v=.tup [.nilSl,.int .i64 10]:=by
 refine cD C.nat_Sub (by decide) fun T hl g0 g1=>?_
 have oa:=ha.one
 have ob:=hb.one
 unfold Sm at hx hy
 refine zW (aB hl g0 g1) ?_
 have k1:Kp H ((H.up 7).put (H.next+4) (.cells [sa,sb] ai true)):=zK
 have le_k1:=k1.le
 refine AnsH.eq (nS C k1.wf (pS ha hb k1.sub (aG _ _ _)) (by simp) fun c hc=>?_) fun H2 hk2=>?_
 ·simp at hc
  rcases hc with rfl | rfl
  ·exact ⟨by omega,dr x⟩
  ·exact ⟨by omega,dr y⟩
 have k2:=k1.trans hk2
 have w2:=k2.wf
 refine zW (aB hl g0 g1) ?_
 refine AnsH.use (nat_joined C zF (ha.mono (k2.up _).sub) (hb.mono (k2.up _).sub) (by omega) (by omega) (bp x) (bp y) (f:=ic) (rV C) fun x y c _ _ _=>qK x y c) ?_
 rintro v H3 ⟨o,rfl,ho,hk3⟩
 obtain ⟨k3,_,w3⟩:=zT H zK hk3
 have hlen:=fN ic (ag x) (ag y) (max (ag x).length (ag y).length)
 have hval:=Cd (bp x) (bp y) (max (ag x).length (ag y).length)
 rw [po,nK,bG,bG] at hval
 have hlim:Lim (dg ic (ag x) (ag y) (max (ag x).length (ag y).length)).1:=uL (fun x y c=>Nat.mod_lt _ (by decide)) _
 have hle:=tw (bp x) (bp y) (fun x y c _ _ _=>qK x y c) (max (ag x).length (ag y).length)
 have hlt:=pO hlim
 rw [hlen] at hlt
 generalize dg ic (ag x) (ag y) (max (ag x).length (ag y).length)=r at *
 refine zW (aB hl g0 g1) ?_
 refine iteH.split (fun h=>?_) fun h=>?_
 ·have h1:r.2=1:=by omega
  rw [h1] at hval
  have:¬ y<=x:=by omega
  refine zW (aT hl g0 g1 this) ?_
  exact zK
 ·have h1:r.2=0:=by omega
  rw [h1] at hval
  have hyx:y<=x:=by omega
  refine zW (aB hl g0 g1) ?_
  refine AnsH.use (nat_trim C zF (ho.sl.mono (Sub.bump H3 _)) (by omega)) ?_
  rintro v H5 ⟨h5,hk5⟩
  obtain ⟨k7,_,_⟩:=zT H zK hk5
  have e:du r.1=ag (x-y):=by
   rw [dW hlim]; congr 1; omega
  rw [e] at h5
  refine zW (aB hl g0 g1) ?_
  exact ⟨k7,by rw [if_pos hyx]; exact ⟨v,rfl,h5⟩⟩
end
section
variable {tab:Nat->Option aq} {H:Heap} {s:AV} {l:List Nat}
theorem iH (C:Code tab) (hw:Wf H) (hs:Lb H s l) (hbig:l.length<1099511627776):Ans tab (.fn aC [s]) H fun v H'=>Lb H' v l/\Kp H H':=by
 refine d9 C.slices_Clone_api_Nat_uint64 (by decide) fun T hl g0=>?_
 rcases hs.nilcase with ⟨rfl,rfl⟩ | hne
 ·have e:bP .eql .sl .nilSl .nilSl=some (.bool true):=rfl
  refine zW (aB hl g0 e) ?_
  exact ⟨SlV.nil _ _ _,zK⟩
 ·have ef:dj ([]:List AV) []=some []:=rfl
  refine zW (aT hl g0 hne ef) ?_
  have k1:Kp H ((H.up 7).put (H.next+3) (.cells [] ad true)):=zK
  have le_k1:=k1.le
  have h0:SlV (bz b7) ad ((H.up 7).put (H.next+3) (.cells [] ad true)) (.own (H.next+3) 0 0 0 1 true) ([]:List Nat) :=
   (show Own (bz b7) ad H _ (H.next+3) true _ [] from ⟨_,rfl,aG _ _ _,Cells.nil _ _,by omega⟩).sl
  obtain ⟨v',H2,e1,h2,hk2,hn2,hs2,-⟩:=SlV.app (l:=[]) (id:=H.next+5) (bytes:=8) h0 k1 (hs.mono k1.sub) (by omega) (by show _<H.next+7; omega) (by rw [au (by omega)]; exact hw.fresh (b:=H.next+5) (by omega)) (by simp; omega) (by simp; omega)
  have e1':eP ((H.up 7).put (H.next+3) (.cells [] ad true)) (H.next+5) 1 8 ad (.own (H.next+3) 0 0 0 1 true) s=some (v',H2):=e1
  refine zW (aB hl g0 e1') ?_
  exact ⟨h2,hk2⟩
def intE:gR Int where
 sz:=2
 tys:=[ad]
 R H cs z:=∃ v,cs=[.bool (decide (z<0)),v]/\ct H v z.natAbs
 pos:=by omega
 len:=by rintro H cs z ⟨v,rfl,h⟩; exact ⟨rfl,by simp [h.one.2]; rfl⟩
 mono:=by rintro H H' cs z hs ⟨v,rfl,h⟩; exact ⟨v,rfl,h.monoT hs⟩
def IntV (H:Heap) (v:AV) (z:Int):Prop:=∃ w,v=.agg [.bool (decide (z<0)),w]/\ct H w z.natAbs
def fz (z:Int):Prop:=Sm z.natAbs
theorem IntV.mono {H H':Heap} (hs:Sub H H') {v:AV} {z:Int} (h:IntV H v z):IntV H' v z:=by
 obtain ⟨w,rfl,h⟩:=h; exact ⟨w,rfl,h.mono hs⟩
theorem bQ (n:Nat):(0<(ag n).length) ↔ n≠0:=by
 rw [List.length_pos_iff]
 exact not_congr limbs_nil
theorem eB (C:Code tab) (hw:Wf H) {v:AV} {z:Int} (hv:IntV H v z) (hz:fz z):Ans tab (.fn dZ [v]) H fun v H'=>v=.int .i64 0/\Kp H H':=by
 obtain ⟨w,rfl,hn⟩:=hv
 unfold fz Sm at hz
 have ow:=hn.one
 refine d9 C.whole_Check (by decide) fun T hl g0=>?_
 refine zW (aw hl g0) ?_
 have k1:Kp H ((H.up 16).put H.next (.cells [.bool (decide (z<0)),w] aa true)):=zK
 have le_k1:=k1.le
 refine AnsH.eq (nat_Check C k1.wf (hn.mono k1.sub) (by omega)) fun H2 hk2=>?_
 rw [if_neg (dr _)]
 have k2:=k1.trans hk2
 have b0:H2.get H.next=some (.cells [.bool (decide (z<0)),w] aa true):=hk2.get (aG _ _ _)
 refine zW (aB hl g0 @b0) ?_
 refine iteH.split (fun h=>?_) fun h=>?_
 ·have:¬ (ag z.natAbs).length=0:=by have:=(bQ z.natAbs).2 (by omega); omega
  have e:decide (((ag z.natAbs).length:Int)=0)=false:=by simp; intro h; rw [h] at this; exact this rfl
  refine zW (iq hl g0 @b0 hn.lenV h e) ?_
  exact zK
 ·refine zW (aT hl g0 @b0 h) ?_
  exact zK
theorem kI {ty:Nat} {v:AV} {l:List Int} (hs:SlV intE ty H v l) {i:Nat} (hi:i<l.length):∃ w,ct H w (l[i]).natAbs/\cq H (some 2) (aV v (i*2))=some (.agg [.bool (decide (l[i]<0)),w])/\cq H none (aV v (i*2))=some (.bool (decide (l[i]<0)))/\cq H none (aV v (i*2+1))=some w:=by
 obtain ⟨cs,⟨w,rfl,hn⟩,-,h1,h2⟩:=hs.at (List.getElem?_eq_getElem hi)
 exact ⟨w,hn,h2,h1 0 _ rfl,h1 1 _ rfl⟩
theorem Cx {H1:Heap} {b ty:Nat} {x y:Int} {p q:AV} (hx:ct H p x.natAbs) (hy:ct H q y.natAbs) (hs:Sub H H1) (hg:H1.get b=some (.cells [.bool (decide (x<0)),p,.bool (decide (y<0)),q] ty true)):SlV intE ty H1 (.own b 0 2 2 2 true) [x,y] :=
 ⟨_,Rd.own hg rfl (Nat.le_refl _),fun _ _ _ _ _ _ e=>by cases e; exact ⟨_,_,hg⟩,rfl,fun i a hi=>by
  match i with
  | 0=>simp at hi; subst hi; exact ⟨p,rfl,hx.mono hs⟩
  | 1=>simp at hi; subst hi; exact ⟨q,rfl,hy.mono hs⟩
  | i+2=>simp at hi⟩
theorem fC (C:Code tab) (hw:Wf H) {v:AV} {ls:List Int} {ty:Nat} (hs:SlV intE ty H v ls) (hbig:ls.length<4611686018427387904) (hc:∀ z∈ls,fz z) :
  Ans tab (.fn gn [v]) H fun v H'=>v=.int .i64 0/\Kp H H':=by
 refine d9 C.whole_checked (by decide) fun T hl g0=>?_
 refine zW (aB hl g0 hs.lenV) ?_
 refine al H [] (fun _ _ _=>True) (a:=0) (N:=ls.length) rfl (by refine zW (aw hl g0) ?_; rfl) (zV (aw hl g0)) (Nat.zero_le _) (by omega) (by simp only [List.length_set,hl]; rfl) rfl (fun _ _ _ _ h=>h) zK trivial ?_ ?_
 ·intro j T1 H1 _ hj hl1 hi1 hs1 hk1 _
  have w1:=hk1.wf
  have le_hk1:=hk1.le
  have t6:af T1 6=v:=(hs1.at_ 6 (by decide)).trans (zV (aw hl g0))
  obtain ⟨w,hn,hld,-,-⟩:=kI (hs.mono hk1.sub) hj
  have hix:fO 2 v (.int .i64 (j:Int))=some (aV v (j*2)):=SlV.idx hs .i64 j hj
  have hcc:=hc _ (List.getElem_mem hj)
  have ow:=hn.one
  simp only [List.length_set,hl] at hl1
  refine zW (da hl1 t6 hi1 hix hld) ?_
  have hle:=hk1.le
  refine AnsH.eq (eB C zF ⟨w,rfl,hn.mono (Kp.sub (H:=H1) zK)⟩ hcc) fun H2 hk2=>?_
  obtain ⟨k2,_,_⟩:=zT H zK hk2
  refine zW hl1 ?_
  exact zK
 ·intro T1 H1 hl1 hs1 hk1 _
  simp only [List.length_set,hl] at hl1
  refine zW hl1 ?_
  exact zK
theorem mr {w:AV} {n:Nat} (b:Bool) (h:ct H w n):IntV H (.agg [.bool (b && decide (0<(ag n).length)),w]) (if b then -(n:Int) else n):=by
 refine ⟨w,?_,?_⟩
 ·have:=bQ n
  congr 3
  cases b
  ·simp
  ·simp only [Bool.true_and,if_true]
   by_cases h0:n=0
   ·simp [h0,cw]
   ·have h1:=this.2 h0
    simp [h1]; omega
 ·cases b
  ·simpa using h
  ·simpa using h
theorem whole_Neg (C:Code tab) (hw:Wf H) {v:AV} {z:Int} (hv:IntV H v z) (hz:fz z):Ans tab (.fn jp [v]) H fun v H'=>∃ r,v=.tup [r,.int .i64 0]/\IntV H' r (-z)/\Kp H H':=by
 obtain ⟨w,rfl,hn⟩:=hv
 have ow:=hn.one
 refine d9 C.whole_Neg (by decide) fun T hl g0=>?_
 refine zW (aw hl g0) ?_
 refine AnsH.eq (eB C zF ⟨w,rfl,hn.mono (Kp.sub (H:=H) zK)⟩ hz) fun H2 hk2=>?_
 obtain ⟨k2,_,_⟩:=zT H zK hk2
 have b0:H2.get H.next=some (.cells [.bool (decide (z<0)),w] aa true):=hk2.get (eA)
 have b1:H2.get (H.next+1)=some (.cells [.bool false,.nilSl] aa true):=hk2.get (eA)
 refine zW (aw hl g0) ?_
 refine aR ?_
 refine zD (aT hl g0 @b0 b1) ?_
 unfold fz Sm at hz
 have w2:=k2.wf
 refine AnsH.use (iH C zF (hn.mono (Kp.sub (H:=H) zK)) (by omega)) ?_
 rintro v3 H3 ⟨h3,hk3⟩
 obtain ⟨k3,_,w3⟩:=zT H zK hk3
 refine zD (aT hl g0 @b0 b1) ?_
 refine AnsH.use (whole_made C zF h3 _) ?_
 rintro v4 H4 ⟨rfl,hk4⟩
 obtain ⟨k4,_,_⟩:=zT H zK hk4
 have o3:=h3.one
 have c0:H3.get H.next=some (.cells [.bool (decide (z<0)),w] aa true):=hk3.get b0
 have d1:H4.get (H.next+1)=some (.cells [.bool false,.nilSl] aa true):=hk4.get (hk3.get b1)
 refine zD (iq hl g0 @b0 b1 c0 d1) ?_
 have lt1:=k4.wf _ _ d1
 refine ⟨_,rfl,?_,zK⟩
 have hm:=mr (!decide (z<0)) ((h3.mono (Kp.sub (H:=H3) (Kp.trans zK hk4))).monoT (SubT.put_ty (e:=.cells [.bool (!decide (z<0) && decide (0<(ag z.natAbs).length)),v3] aa true) d1 (by decide)))
 have e:(if (!decide (z<0))=true then -((z.natAbs:Nat):Int) else ((z.natAbs:Nat):Int)) = -z:=by
  by_cases h:z<0 <;> simp [h] <;> omega
 rw [e] at hm
 exact hm
end
section
variable {tab:Nat->Option aq} {H:Heap}
theorem GX (x y:Int):(decide (x<0) == decide (y<0))=decide ((x<0)=(y<0)):=by
 by_cases hx:x<0 <;> by_cases hy:y<0 <;> simp [hx,hy]
theorem whole_sum (C:Code tab) (hw:Wf H) {a b:AV} {x y:Int} (ha:IntV H a x) (hb:IntV H b y) (hx:fz x) (hy:fz y):Ans tab (.fn jm [a,b]) H fun v H'=>IntV H' v (x+y)/\Kp H H':=by
 obtain ⟨p,rfl,hp⟩:=ha
 obtain ⟨q,rfl,hq⟩:=hb
 have op:=hp.one
 have oq:=hq.one
 refine cD C.whole_sum (by decide) fun T hl g0 g1=>?_
 refine zW (aB hl g0 g1) ?_
 have fin:∀ (H3:Heap) (k3:Kp H H3) (bb:Bool) (o:AV) (n:Nat) (z:Int),H3.get (H.next+2)=some (.cells [.bool false,.nilSl] aa true)->Lb H3 o (ag n)->(if bb then -(n:Int) else n)=z ->
   IntV (H3.put (H.next+2) (.cells [.bool (bb && decide (0<(ag n).length)),o] aa true)) (.agg [.bool (bb && decide (0<(ag n).length)),o]) z/\Kp H (H3.put (H.next+2) (.cells [.bool (bb && decide (0<(ag n).length)),o] aa true)):=by
  intro H3 k3 bb o n z d1 ho hz
  have lt1:=k3.wf _ _ d1
  refine ⟨?_,zK⟩
  rw [<- hz]
  exact mr bb (ho.monoT (SubT.put_ty d1 (by decide)))
 refine iteH.split (fun h=>?_) fun h=>?_
 ·rw [GX] at h
  simp only [decide_eq_true_eq,eq_iff_iff] at h
  refine zW (aB hl g0 g1) ?_
  refine AnsH.use (nat_Add C zF (hp.mono (Kp.sub (H:=H) zK)) (hq.mono (Kp.sub (H:=H) zK)) hx hy) ?_
  rintro v H2 ⟨o,rfl,ho,hk2⟩
  obtain ⟨k2,_,w2⟩:=zT H zK hk2
  have b0:H2.get H.next=some (.cells [.bool (decide (x<0)),p] aa true):=hk2.get (eA)
  have b2:H2.get (H.next+2)=some (.cells [.bool false,.nilSl] aa true):=hk2.get (eA)
  refine zW (aT hl g0 g1 @b0) ?_
  refine AnsH.use (whole_made C zF (ho.mono (Kp.sub (H:=H2) zK)) _) ?_
  rintro v3 H3 ⟨rfl,hk3⟩
  obtain ⟨k3,_,_⟩:=zT H zK hk3
  have o3:=ho.one
  have d1:=hk3.get (b:=H.next+2) b2
  refine zW (aT hl g0 g1 d1) ?_
  refine fin H3 k3 _ _ _ _ d1 (ho.mono (Kp.sub (H:=H2) (Kp.trans zK hk3))) ?_
  by_cases h1:x<0 <;> simp [h1] <;> omega
 ·rw [GX] at h
  simp only [decide_eq_true_eq,eq_iff_iff] at h
  refine zW (aB hl g0 g1) ?_
  refine AnsH.use (nat_Sub C zF (hp.mono (Kp.sub (H:=H) zK)) (hq.mono (Kp.sub (H:=H) zK)) hx hy) ?_
  rintro v H2 ⟨hk2,hr⟩
  obtain ⟨k2,_,w2⟩:=zT H zK hk2
  have b0:H2.get H.next=some (.cells [.bool (decide (x<0)),p] aa true):=hk2.get (eA)
  have b1:H2.get (H.next+1)=some (.cells [.bool (decide (y<0)),q] aa true):=hk2.get (eA)
  have b2:H2.get (H.next+2)=some (.cells [.bool false,.nilSl] aa true):=hk2.get (eA)
  by_cases hle:y.natAbs<=x.natAbs
  ·rw [if_pos hle] at hr
   obtain ⟨o,rfl,ho⟩:=hr
   refine zW (aT hl g0 g1 @b0) ?_
   refine AnsH.use (whole_made C zF (ho.mono (Kp.sub (H:=H2) zK)) _) ?_
   rintro v3 H3 ⟨rfl,hk3⟩
   obtain ⟨k3,_,_⟩:=zT H zK hk3
   have o3:=ho.one
   have d1:=hk3.get (b:=H.next+2) b2
   refine zW (aT hl g0 g1 d1) ?_
   refine fin H3 k3 _ _ _ _ d1 (ho.mono (Kp.sub (H:=H2) (Kp.trans zK hk3))) ?_
   by_cases h1:x<0 <;> simp [h1] <;> omega
  ·rw [if_neg hle] at hr
   subst hr
   refine zW (da hl g0 g1 @b0 b1) ?_
   refine AnsH.use (nat_Sub C zF (hq.mono (Kp.sub (H:=H) zK)) (hp.mono (Kp.sub (H:=H) zK)) hy hx) ?_
   rintro v H3 ⟨hk3,hr⟩
   rw [if_pos (by omega)] at hr
   obtain ⟨o,rfl,ho⟩:=hr
   obtain ⟨k3,_,w3⟩:=zT H zK hk3
   have c1:=hk3.get (b:=H.next+1) b1
   have c2:=hk3.get (b:=H.next+2) b2
   refine zW (aT hl g0 g1 @c1) ?_
   refine AnsH.use (whole_made C zF (ho.mono (Kp.sub (H:=H3) zK)) _) ?_
   rintro v4 H4 ⟨rfl,hk4⟩
   obtain ⟨k4,_,_⟩:=zT H zK hk4
   have o3:=ho.one
   have d1:=hk4.get (b:=H.next+2) c2
   refine zW (aT hl g0 g1 d1) ?_
   refine fin H4 k4 _ _ _ _ d1 (ho.mono (Kp.sub (H:=H3) (Kp.trans zK hk4))) ?_
   by_cases h1:y<0 <;> simp [h1] <;> omega
end
section
variable {tab:Nat->Option aq} {H:Heap}
def iS (x:Int):Int:=if x<0 then -1 else if x=0 then 0 else 1
theorem whole_sign (C:Code tab) (hw:Wf H) {a:AV} {x:Int} (ha:IntV H a x):Ans tab (.fn gW [a]) H fun v H'=>v=.int .i64 (iS x)/\Kp H H':=by
 obtain ⟨p,rfl,hp⟩:=ha
 have op:=hp.one
 refine d9 C.whole_sign (by decide) fun T hl g0=>?_
 have hlen:decide (((ag x.natAbs).length:Int)=0)=decide (x=0):=by
  have:=bQ x.natAbs
  by_cases h:x=0
  ·subst h; simp [cw]
  ·have h1:=this.2 (by omega); simp [h]; intro h2; rw [h2] at h1; simp at h1
 refine zW (aT hl g0 hp.lenV hlen) ?_
 refine iteH.split (fun h=>?_) fun h=>?_
 ·have hx:x=0:=by
   by_cases h1:x=0
   ·exact h1
   ·simp [h1] at h
  subst hx
  refine zW (aw hl g0) ?_
  exact ⟨rfl,zK⟩
 ·have hx:x≠0:=fun h1=>by subst h1; simp at h
  refine zW (aw hl g0) ?_
  refine iteH.split (fun h=>?_) fun h=>?_
  ·refine zW (aw hl g0) ?_
   exact ⟨by simp [iS,h],zK⟩
  ·refine zW (aw hl g0) ?_
   exact ⟨by simp [iS,h,hx],zK⟩
theorem whole_Sign (C:Code tab) (hw:Wf H) {a:AV} {x:Int} (ha:IntV H a x) (hx:fz x):Ans tab (.fn gX [a]) H fun v H'=>v=.tup [.int .i64 (iS x),.int .i64 0]/\Kp H H':=by
 obtain ⟨p,rfl,hp⟩:=ha
 have op:=hp.one
 refine d9 C.whole_Sign (by decide) fun T hl g0=>?_
 refine zW (aw hl g0) ?_
 refine AnsH.eq (eB C zF ⟨p,rfl,hp.mono (Kp.sub (H:=H) zK)⟩ hx) fun H2 hk2=>?_
 obtain ⟨k2,_,w2⟩:=zT H zK hk2
 have b0:=hk2.get (b:=H.next) (e:=.cells [.bool (decide (x<0)),p] aa true) (eA)
 refine zW (aB hl g0 @b0) ?_
 refine AnsH.eq (whole_sign C zF ⟨p,rfl,hp.mono (Kp.sub (H:=H) zK)⟩) fun H3 hk3=>?_
 obtain ⟨k3,_,_⟩:=zT H zK hk3
 refine zW (aw hl g0) ?_
 exact zK
theorem whole_Add (C:Code tab) (hw:Wf H) {a b:AV} {x y:Int} (ha:IntV H a x) (hb:IntV H b y) (hx:fz x) (hy:fz y):Ans tab (.fn lc [a,b]) H fun v H'=>∃ r,v=.tup [r,.int .i64 0]/\IntV H' r (x+y)/\Kp H H':=by
 obtain ⟨p,rfl,hp⟩:=ha
 obtain ⟨q,rfl,hq⟩:=hb
 have op:=hp.one
 have oq:=hq.one
 refine cD C.whole_Add (by decide) fun T hl g0 g1=>?_
 refine zW (aB hl g0 g1) ?_
 refine AnsH.eq (fC C zF (Cx (x:=x) (y:=y) (H:=H) hp hq (Kp.sub (H:=H) zK) (by refine s9 ?_; rfl)) (by simp) fun z hz=>?_) fun H2 hk2=>?_
 ·simp at hz; rcases hz with rfl | rfl <;> assumption
 obtain ⟨k2,_,w2⟩:=zT H zK hk2
 have b0:=hk2.get (b:=H.next) (e:=.cells [.bool (decide (x<0)),p] aa true) (eA)
 have b1:=hk2.get (b:=H.next+1) (e:=.cells [.bool (decide (y<0)),q] aa true) (eA)
 have b2:=hk2.get (b:=H.next+2) (e:=.cells [.bool false,.nilSl] aa true) (eA)
 refine zW (da hl g0 g1 @b0 b1) ?_
 refine AnsH.use (whole_sum C zF ⟨p,rfl,hp.mono (Kp.sub (H:=H) zK)⟩ ⟨q,rfl,hq.mono (Kp.sub (H:=H) zK)⟩ hx hy) ?_
 rintro v H3 ⟨⟨r,rfl,hr⟩,hk3⟩
 obtain ⟨k3,_,_⟩:=zT H zK hk3
 have o3:=hr.one
 have d2:=hk3.get (b:=H.next+2) b2
 have lt2:=k3.wf _ _ d2
 refine zW (aT hl g0 g1 d2) ?_
 exact ⟨_,rfl,⟨r,rfl,hr.monoT (SubT.put_ty d2 (by decide))⟩,zK⟩
theorem whole_Sub (C:Code tab) (hw:Wf H) {a b:AV} {x y:Int} (ha:IntV H a x) (hb:IntV H b y) (hx:fz x) (hy:fz y):Ans tab (.fn kX [a,b]) H fun v H'=>∃ r,v=.tup [r,.int .i64 0]/\IntV H' r (x-y)/\Kp H H':=by
 obtain ⟨p,rfl,hp⟩:=ha
 obtain ⟨q,rfl,hq⟩:=hb
 have op:=hp.one
 have oq:=hq.one
 refine cD C.whole_Sub (by decide) fun T hl g0 g1=>?_
 refine zW (aB hl g0 g1) ?_
 refine AnsH.eq (fC C zF (Cx (x:=x) (y:=y) (H:=H) hp hq (Kp.sub (H:=H) zK) (by refine s9 ?_; rfl)) (by simp) fun z hz=>?_) fun H2 hk2=>?_
 ·simp at hz; rcases hz with rfl | rfl <;> assumption
 obtain ⟨k2,_,w2⟩:=zT H zK hk2
 have b0:=hk2.get (b:=H.next) (e:=.cells [.bool (decide (x<0)),p] aa true) (eA)
 have b1:=hk2.get (b:=H.next+1) (e:=.cells [.bool (decide (y<0)),q] aa true) (eA)
 have b2:=hk2.get (b:=H.next+2) (e:=.cells [.bool false,.nilSl] aa true) (eA)
 refine zW (aB hl g0 g1) ?_
 refine aR ?_
 refine zD (da hl g0 g1 @b0 b1) ?_
 refine AnsH.use (whole_made C zF (hq.mono (Kp.sub (H:=H) zK)) _) ?_
 rintro v3 H3 ⟨rfl,hk3⟩
 obtain ⟨k3,_,w3⟩:=zT H zK hk3
 have hm:=mr (!decide (y<0)) (hq.mono k3.sub)
 have e:(if (!decide (y<0))=true then -((y.natAbs:Nat):Int) else ((y.natAbs:Nat):Int)) = -y:=by
  by_cases h:y<0 <;> simp [h] <;> omega
 rw [e] at hm
 have hny:fz (-y):=by unfold fz at *; rwa [Int.natAbs_neg]
 refine zD (da hl g0 g1 @b0 b1) ?_
 refine AnsH.use (whole_sum C zF ⟨p,rfl,hp.mono (Kp.sub (H:=H) zK)⟩ hm hx hny) ?_
 rintro v H4 ⟨⟨r,rfl,hr⟩,hk4⟩
 obtain ⟨k4,_,_⟩:=zT H zK hk4
 have o3:=hr.one
 have c0:=hk3.get (b:=H.next) b0
 have d2:=hk4.get (b:=H.next+2) (hk3.get (b:=H.next+2) b2)
 have lt2:=k4.wf _ _ d2
 refine zD (kT hl g0 g1 @b0 b1 c0 d2) ?_
 refine ⟨_,rfl,⟨r,?_,hr.monoT (SubT.put_ty d2 (by decide))⟩,zK⟩
 rw [Int.sub_eq_add_neg]
end
section
variable {tab:Nat->Option aq} {H:Heap}
theorem Gx (x y:Nat) (hx:x<B) (hy:y<B) :
  ((x / 4294967296*(y / 4294967296) % B+((x / 4294967296*(y % 4294967296) % B+(x % 4294967296*(y % 4294967296) % B) / 4294967296) % B) / 4294967296) % B+((((x / 4294967296*(y % 4294967296) % B+(x % 4294967296*(y % 4294967296) % B) / 4294967296) % B) % 4294967296+x % 4294967296*(y / 4294967296) % B) % B) / 4294967296) % B=x*y / B:=by
 have e:x*y=(x / 4294967296*4294967296+x % 4294967296)*(y / 4294967296*4294967296+y % 4294967296):=by
  rw [Nat.div_add_mod',Nat.div_add_mod']
 have h1:x / 4294967296<4294967296:=by unfold B at hx; omega
 have h2:y / 4294967296<4294967296:=by unfold B at hy; omega
 have h3:x % 4294967296<4294967296:=by omega
 have h4:y % 4294967296<4294967296:=by omega
 generalize x / 4294967296=x1 at *
 generalize y / 4294967296=y1 at *
 generalize x % 4294967296=x0 at *
 generalize y % 4294967296=y0 at *
 have b1:x1*y1<=4294967295*4294967295:=Nat.mul_le_mul (by omega) (by omega)
 have b2:x1*y0<=4294967295*4294967295:=Nat.mul_le_mul (by omega) (by omega)
 have b3:x0*y1<=4294967295*4294967295:=Nat.mul_le_mul (by omega) (by omega)
 have b4:x0*y0<=4294967295*4294967295:=Nat.mul_le_mul (by omega) (by omega)
 have e2:x*y=x1*y1*18446744073709551616+(x1*y0)*4294967296+(x0*y1)*4294967296+x0*y0:=by rw [e]; grind
 rw [e2]
 clear e e2 hx hy h1 h2 h3 h4
 generalize x1*y1=p at *
 generalize x1*y0=q at *
 generalize x0*y1=r at *
 generalize x0*y0=t at *
 simp only [B]
 omega
theorem nf (C:Code tab) (hw:Wf H) {x y:Nat} (hx:x<B) (hy:y<B):Ans tab (.fn eW [.int .u64 (x:Nat),.int .u64 (y:Nat)]) H fun v H'=>v=.tup [.int .u64 ((x*y / B:Nat):Int),.int .u64 ((x*y % B:Nat):Int)]/\Kp H H':=by
 refine cD C.math_bits_Mul64 (by decide) fun T hl g0 g1=>?_
 have e:=Gx x y hx hy
 simp only [B] at e
 refine zW (aT hl g0 g1 e) ?_
 exact zK
end
end Go.Proofs.YtichbdepocojaaaGreat.Ev
