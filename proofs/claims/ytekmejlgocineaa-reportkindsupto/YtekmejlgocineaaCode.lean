/- A part. -/
import Derived.Test.YtekmejlgocineaaWp
import Derived.Test.YtekmejlgocineaaEvDefs
import Derived.Test.YtekmejlgocineaaProg
namespace Go.Proofs.Ytekmejlgocineaa.Ev
open Go
set_option linter.all false
set_option maxRecDepth 100000
abbrev cI:Nat:=3
abbrev cQ:Nat:=4
abbrev fP:Nat:=5
abbrev cN:Nat:=6
abbrev cr:Nat:=7
abbrev fT:Nat:=8
abbrev eO:Nat:=9
abbrev bu:Nat:=10
abbrev bi:Nat:=11
abbrev de:Nat:=12
abbrev cp:Nat:=13
abbrev cA:Nat:=14
abbrev bB:Nat:=15
abbrev fm:Nat:=16
abbrev fl:Nat:=18
abbrev aV:Nat:=17
abbrev iv:Nat:=20
abbrev gO:Nat:=21
abbrev cH:Nat:=23
abbrev aS:Nat:=22
abbrev bn:Nat:=24
abbrev cP:Nat:=25
abbrev cC:Nat:=27
abbrev cF:Nat:=26
abbrev cO:Nat:=28
abbrev bO:Nat:=29
abbrev iz:Nat:=19
abbrev ba:Nat:=30
abbrev fk:Nat:=34
abbrev ai:Nat:=35
abbrev fS:Nat:=36
abbrev fQ:Nat:=46
abbrev dc:Nat:=47
abbrev aW:Nat:=37
abbrev bJ:Nat:=38
abbrev bp:Nat:=39
abbrev bw:Nat:=40
abbrev bq:Nat:=41
abbrev aU:Nat:=42
abbrev aD:Nat:=43
abbrev bk:Nat:=44
abbrev bH:Nat:=45
abbrev bz:Nat:=48
abbrev cn:Nat:=49
abbrev bY:Nat:=50
abbrev iw:Nat:=31
abbrev fR:Nat:=33
abbrev aI:Nat:=32
abbrev bm:Nat:=54
abbrev cE:Nat:=55
abbrev cB:Nat:=56
abbrev aJ:Nat:=57
abbrev bt:Nat:=58
abbrev dg:Nat:=59
abbrev bT:Nat:=51
abbrev a8:Nat:=53
abbrev bf:Nat:=60
abbrev eC:Nat:=52
abbrev fM:Nat:=3
abbrev ap:Nat:=5
abbrev ah:Nat:=25
abbrev bR:Nat:=37
abbrev bc:Nat:=39
abbrev au:Nat:=42
abbrev aH:Nat:=46
abbrev kn:Nat:=57
abbrev nf:Nat:=65
abbrev bI:Nat:=66
abbrev bX:Nat:=89
def c_facetroomlaw31_ReportKinds:aN:=⟨2,33,[(4,none)],
 .seq (.region [
 ⟨(some 2),.box ah (.t 0),none⟩,
 ⟨(some 4),.mv (.c (.bool false)),none⟩]) <|
 .seq (.seq (.region [
 ⟨(some 9),.load (some 6) (.t 2),none⟩,
 ⟨(some 10),.call (.c (.fn (.func cQ) [] [])) [(.t 9)],none⟩]) <|
 .cond (.t 10)
 (.seq (.region [
  ⟨(some 4),.mv (.c (.bool true)),none⟩]) <|
 .ret)
 (.skip)) <|
 .seq (.region [
 ⟨(some 12),.load (some 6) (.t 2),none⟩,
 ⟨(some 13),.mv (.t 1),none⟩,
 ⟨(some 14),.call (.c (.fn (.func fP) [] [])) [(.t 12),(.t 13)],none⟩,
 ⟨(some 11),.mv (.t 14),none⟩,
 ⟨(some 15),.extract 0 (.t 11),none⟩,
 ⟨(some 16),.extract 1 (.t 11),none⟩,
 ⟨(some 5),.mv (.t 15),none⟩,
 ⟨(some 6),.mv (.t 16),none⟩]) <|
 .seq (.region [
 ⟨(some 18),.load (some 6) (.t 2),none⟩,
 ⟨(some 19),.mv (.t 1),none⟩,
 ⟨(some 20),.call (.c (.fn (.func cN) [] [])) [(.t 18),(.t 19)],none⟩,
 ⟨(some 17),.mv (.t 20),none⟩,
 ⟨(some 21),.extract 0 (.t 17),none⟩,
 ⟨(some 22),.extract 1 (.t 17),none⟩,
 ⟨(some 7),.mv (.t 21),none⟩,
 ⟨(some 8),.mv (.t 22),none⟩]) <|
 .seq (.region [
 ⟨(some 23),.mv (.t 5),none⟩,
 ⟨(some 24),.toStr (.t 23),none⟩,
 ⟨(some 25),.mv (.t 7),none⟩,
 ⟨(some 26),.toStr (.t 25),none⟩,
 ⟨(some 27),.bin .eql .str (.t 24) (.t 26),none⟩,
 ⟨(some 28),.mv (.t 27),none⟩,
 ⟨(some 29),.mv (.t 6),(some (28,true))⟩,
 ⟨(some 30),.mv (.t 8),(some (28,true))⟩,
 ⟨(some 31),.bin .eql .int (.t 29) (.t 30),(some (28,true))⟩,
 ⟨(some 32),.pick (.t 28) (.t 31) (.c (.bool false)),none⟩,
 ⟨(some 4),.mv (.t 32),none⟩]) <|
 .ret,
 none⟩
def fY:aN:=⟨1,43,[(2,none)],
 .seq (.region [
 ⟨(some 1),.box ah (.t 0),none⟩,
 ⟨(some 2),.mv (.c (.bool false)),none⟩]) <|
 .seq (.region [
 ⟨(some 3),.mv (.c (.int .i64 0)),none⟩]) <|
 .seq (.seq (.region [
 ⟨(some 4),.mv (.c (.int .i64 0)),none⟩]) <|
 dN 0 (.seq (.seq (.region [
  ⟨(some 5),.mv (.t 4),none⟩,
  ⟨(some 6),.fieldAddr 5 (.t 1),none⟩,
  ⟨(some 7),.load none (.t 6),none⟩,
  ⟨(some 8),.len (.t 7),none⟩,
  ⟨(some 9),.bin .lss .int (.t 5) (.t 8),none⟩,
  ⟨(some 10),.mv (.t 9),none⟩,
  ⟨(some 11),.mv (.t 3),(some (10,true))⟩,
  ⟨(some 12),.bin .leq .int (.t 11) (.c (.int .i64 5000)),(some (10,true))⟩,
  ⟨(some 13),.pick (.t 10) (.t 12) (.c (.bool false)),none⟩]) <|
 .cond (.t 13)
  (.skip)
  (.exit 0)) <|
 .seq (.block 1 (.region [
  ⟨(some 16),.mv (.t 3),none⟩,
  ⟨(some 17),.bin .add .int (.t 16) (.c (.int .i64 1)),none⟩,
  ⟨(some 18),.fieldAddr 5 (.t 1),none⟩,
  ⟨(some 19),.load none (.t 18),none⟩,
  ⟨(some 20),.mv (.t 4),none⟩,
  ⟨(some 21),.indexAddr 7 (.t 19) (.t 20),none⟩,
  ⟨(some 22),.fieldAddr 2 (.t 21),none⟩,
  ⟨(some 23),.fieldAddr 3 (.t 22),none⟩,
  ⟨(some 24),.load none (.t 23),none⟩,
  ⟨(some 25),.mv (.t 3),none⟩,
  ⟨(some 26),.bin .sub .int (.c (.int .i64 5000)) (.t 25),none⟩,
  ⟨(some 27),.call (.c (.fn (.func cr) [] [])) [(.t 24),(.t 26)],none⟩,
  ⟨(some 28),.bin .add .int (.t 17) (.t 27),none⟩,
  ⟨(some 3),.mv (.t 28),none⟩])) <|
 .region [
  ⟨(some 14),.mv (.t 4),none⟩,
  ⟨(some 15),.bin .add .int (.t 14) (.c (.int .i64 1)),none⟩,
  ⟨(some 4),.mv (.t 15),none⟩])) <|
 .seq (.region [
 ⟨(some 29),.mv (.t 3),none⟩,
 ⟨(some 30),.bin .gtr .int (.t 29) (.c (.int .i64 5000)),none⟩,
 ⟨(some 31),.mv (.t 30),none⟩,
 ⟨(some 32),.fieldAddr 5 (.t 1),(some (31,false))⟩,
 ⟨(some 33),.load none (.t 32),(some (31,false))⟩,
 ⟨(some 34),.len (.t 33),(some (31,false))⟩,
 ⟨(some 35),.bin .gtr .int (.t 34) (.c (.int .i64 300)),(some (31,false))⟩,
 ⟨(some 36),.pick (.t 31) (.c (.bool true)) (.t 35),none⟩,
 ⟨(some 37),.mv (.t 36),none⟩,
 ⟨(some 38),.fieldAddr 1 (.t 1),(some (37,false))⟩,
 ⟨(some 39),.load none (.t 38),(some (37,false))⟩,
 ⟨(some 40),.len (.t 39),(some (37,false))⟩,
 ⟨(some 41),.bin .gtr .int (.t 40) (.c (.int .i64 100)),(some (37,false))⟩,
 ⟨(some 42),.pick (.t 37) (.c (.bool true)) (.t 41),none⟩,
 ⟨(some 2),.mv (.t 42),none⟩]) <|
 .ret,
 none⟩
def c_report_Kinds:aN:=⟨2,56,[(4,none),(5,none)],
 .seq (.region [
 ⟨(some 2),.box ah (.t 0),none⟩,
 ⟨(some 4),.mv (.c .nilSl),none⟩,
 ⟨(some 5),.mv (.c (.int .i64 0)),none⟩]) <|
 .seq (.seq (.region [
 ⟨(some 9),.load (some 6) (.t 2),none⟩,
 ⟨(some 10),.call (.c (.fn (.func fT) [] [])) [(.t 9)],none⟩,
 ⟨(some 5),.mv (.t 10),none⟩]) <|
 .seq (.region [
 ⟨(some 11),.mv (.t 5),none⟩,
 ⟨(some 12),.bin .neq .int (.t 11) (.c (.int .i64 0)),none⟩]) <|
 .cond (.t 12)
 (.ret)
 (.skip)) <|
 .seq (.seq (.region [
 ⟨(some 13),.mv (.t 1),none⟩,
 ⟨(some 14),.bin .lss .int (.t 13) (.c (.int .i64 0)),none⟩,
 ⟨(some 15),.mv (.t 14),none⟩,
 ⟨(some 16),.mv (.t 1),(some (15,false))⟩,
 ⟨(some 17),.fieldAddr 5 (.t 2),(some (15,false))⟩,
 ⟨(some 18),.load none (.t 17),(some (15,false))⟩,
 ⟨(some 19),.len (.t 18),(some (15,false))⟩,
 ⟨(some 20),.bin .geq .int (.t 16) (.t 19),(some (15,false))⟩,
 ⟨(some 21),.pick (.t 15) (.c (.bool true)) (.t 20),none⟩]) <|
 .cond (.t 21)
 (.seq (.region [
  ⟨(some 4),.mv (.c .nilSl),none⟩,
  ⟨(some 5),.mv (.c (.int .i64 2)),none⟩]) <|
 .ret)
 (.skip)) <|
 .seq (.region [
 ⟨(some 22),.fieldAddr 5 (.t 2),none⟩,
 ⟨(some 23),.load none (.t 22),none⟩,
 ⟨(some 24),.mv (.t 1),none⟩,
 ⟨(some 25),.indexAddr 7 (.t 23) (.t 24),none⟩,
 ⟨(some 26),.fieldAddr 2 (.t 25),none⟩,
 ⟨(some 27),.load (some 4) (.t 26),none⟩,
 ⟨(some 6),.alloc bR [(.int .u8 0),(.int .i64 0),(.int .u8 0),.nilSl],none⟩,
 ⟨none,.store 4 (.t 6) (.t 27),none⟩]) <|
 .seq (.seq (.region [
 ⟨(some 28),.fieldAddr 3 (.t 6),none⟩,
 ⟨(some 29),.load none (.t 28),none⟩,
 ⟨(some 30),.len (.t 29),none⟩,
 ⟨(some 31),.mv (.c (.int .i64 0)),none⟩]) <|
 oS 0 1 31 30 32 39
 (.seq (.region [
  ⟨(some 33),.indexAddr 5 (.t 29) (.t 31),none⟩,
  ⟨(some 34),.load (some 5) (.t 33),none⟩,
  ⟨(some 8),.alloc au [(.int .u8 0),(.str ⟨#[]⟩),(.int .i64 0),.nilSl,(.int .i64 0)],none⟩,
  ⟨none,.store 5 (.t 8) (.t 34),none⟩]) <|
 .region [
  ⟨(some 35),.mv (.t 4),none⟩,
  ⟨(some 36),.load (some 5) (.t 8),none⟩,
  ⟨(some 37),.call (.c (.fn (.func eO) [] [])) [(.t 36)],none⟩,
  ⟨(some 38),.append 1 1 ap [(.int .u8 0)] (.t 35) (.t 37),none⟩,
  ⟨(some 4),.mv (.t 38),none⟩])) <|
 .seq (.seq (.region [
 ⟨(some 40),.fieldAddr 0 (.t 6),none⟩,
 ⟨(some 41),.load none (.t 40),none⟩]) <|
 .block 2 (.seq (.region [
  ⟨(some 43),.bin .eql .int (.t 41) (.c (.int .u8 7)),none⟩,
  ⟨(some 42),.mv (.t 43),none⟩]) <|
 .cond (.t 42)
  (.region [
  ⟨(some 44),.mv (.t 4),none⟩,
  ⟨(some 45),.buildSlice ap 1 [(.int .u8 0)] 1 [((0,1),(.c (.int .u8 1)))],none⟩,
  ⟨(some 46),.append 1 1 ap [(.int .u8 0)] (.t 44) (.t 45),none⟩,
  ⟨(some 4),.mv (.t 46),none⟩])
  (.seq (.region [
  ⟨(some 48),.bin .eql .int (.t 41) (.c (.int .u8 4)),none⟩,
  ⟨(some 47),.mv (.t 48),none⟩]) <|
  .cond (.t 47)
  (.region [
   ⟨(some 49),.mv (.t 4),none⟩,
   ⟨(some 50),.buildSlice ap 1 [(.int .u8 0)] 1 [((0,1),(.c (.int .u8 5)))],none⟩,
   ⟨(some 51),.append 1 1 ap [(.int .u8 0)] (.t 49) (.t 50),none⟩,
   ⟨(some 4),.mv (.t 51),none⟩])
  (.skip)))) <|
 .seq (.region [
 ⟨(some 52),.mv (.t 4),none⟩,
 ⟨(some 53),.call (.c (.fn (.func bu) [] [])) [(.t 52)],none⟩]) <|
 .seq (.region [
 ⟨(some 54),.mv (.t 4),none⟩,
 ⟨(some 55),.call (.c (.fn (.func bi) [] [])) [(.t 54)],none⟩,
 ⟨(some 4),.mv (.t 55),none⟩,
 ⟨(some 5),.mv (.c (.int .i64 0)),none⟩]) <|
 .ret,
 none⟩
def c_facetroomref31_Kinds:aN:=⟨2,52,[(4,none),(5,none)],
 .seq (.region [
 ⟨(some 2),.box ah (.t 0),none⟩,
 ⟨(some 4),.mv (.c .nilSl),none⟩,
 ⟨(some 5),.mv (.c (.int .i64 0)),none⟩]) <|
 .seq (.seq (.region [
 ⟨(some 10),.load (some 6) (.t 2),none⟩,
 ⟨(some 11),.call (.c (.fn (.func de) [] [])) [(.t 10)],none⟩,
 ⟨(some 12),.un .not (.t 11),none⟩]) <|
 .cond (.t 12)
 (.seq (.region [
  ⟨(some 4),.mv (.c .nilSl),none⟩,
  ⟨(some 5),.mv (.c (.int .i64 8)),none⟩]) <|
 .ret)
 (.skip)) <|
 .seq (.seq (.region [
 ⟨(some 13),.mv (.t 1),none⟩,
 ⟨(some 14),.bin .lss .int (.t 13) (.c (.int .i64 0)),none⟩,
 ⟨(some 15),.mv (.t 14),none⟩,
 ⟨(some 16),.mv (.t 1),(some (15,false))⟩,
 ⟨(some 17),.fieldAddr 5 (.t 2),(some (15,false))⟩,
 ⟨(some 18),.load none (.t 17),(some (15,false))⟩,
 ⟨(some 19),.len (.t 18),(some (15,false))⟩,
 ⟨(some 20),.bin .geq .int (.t 16) (.t 19),(some (15,false))⟩,
 ⟨(some 21),.pick (.t 15) (.c (.bool true)) (.t 20),none⟩]) <|
 .cond (.t 21)
 (.seq (.region [
  ⟨(some 4),.mv (.c .nilSl),none⟩,
  ⟨(some 5),.mv (.c (.int .i64 2)),none⟩]) <|
 .ret)
 (.skip)) <|
 .seq (.region [
 ⟨(some 22),.fieldAddr 5 (.t 2),none⟩,
 ⟨(some 23),.load none (.t 22),none⟩,
 ⟨(some 24),.mv (.t 1),none⟩,
 ⟨(some 25),.indexAddr 7 (.t 23) (.t 24),none⟩,
 ⟨(some 26),.fieldAddr 2 (.t 25),none⟩,
 ⟨(some 27),.load (some 4) (.t 26),none⟩,
 ⟨(some 6),.alloc bR [(.int .u8 0),(.int .i64 0),(.int .u8 0),.nilSl],none⟩,
 ⟨none,.store 4 (.t 6) (.t 27),none⟩]) <|
 .seq (.region [
 ⟨(some 7),.alloc aH [(.bool false),(.bool false),(.bool false),(.bool false),(.bool false),(.bool false)],none⟩]) <|
 .seq (.region [
 ⟨(some 28),.load (some 6) (.t 7),none⟩,
 ⟨(some 29),.fieldAddr 3 (.t 6),none⟩,
 ⟨(some 30),.load none (.t 29),none⟩,
 ⟨(some 31),.call (.c (.fn (.func cp) [] [])) [(.t 28),(.t 30)],none⟩,
 ⟨none,.store 6 (.t 7) (.t 31),none⟩]) <|
 .seq (.seq (.region [
 ⟨(some 32),.fieldAddr 0 (.t 6),none⟩,
 ⟨(some 33),.load none (.t 32),none⟩,
 ⟨(some 34),.bin .eql .int (.t 33) (.c (.int .u8 7)),none⟩]) <|
 .cond (.t 34)
 (.region [
  ⟨(some 35),.indexArr 6 1 (.t 7) (.c (.int .u8 1)),none⟩,
  ⟨none,.store 1 (.t 35) (.c (.bool true)),none⟩])
 (.skip)) <|
 .seq (.seq (.region [
 ⟨(some 36),.fieldAddr 0 (.t 6),none⟩,
 ⟨(some 37),.load none (.t 36),none⟩,
 ⟨(some 38),.bin .eql .int (.t 37) (.c (.int .u8 4)),none⟩]) <|
 .cond (.t 38)
 (.region [
  ⟨(some 39),.indexArr 6 1 (.t 7) (.c (.int .u8 5)),none⟩,
  ⟨none,.store 1 (.t 39) (.c (.bool true)),none⟩])
 (.skip)) <|
 .seq (.region [
 ⟨(some 8),.mv (.c .nilSl),none⟩]) <|
 .seq (.seq (.region [
 ⟨(some 9),.mv (.c (.int .u8 1)),none⟩]) <|
 dN 0 (.seq (.seq (.region [
  ⟨(some 40),.mv (.t 9),none⟩,
  ⟨(some 41),.bin .leq .int (.t 40) (.c (.int .u8 5)),none⟩]) <|
 .cond (.t 41)
  (.skip)
  (.exit 0)) <|
 .seq (.block 1 (.seq (.region [
  ⟨(some 44),.mv (.t 9),none⟩,
  ⟨(some 45),.indexArr 6 1 (.t 7) (.t 44),none⟩,
  ⟨(some 46),.load none (.t 45),none⟩]) <|
  .cond (.t 46)
  (.region [
   ⟨(some 47),.mv (.t 8),none⟩,
   ⟨(some 48),.mv (.t 9),none⟩,
   ⟨(some 49),.buildSlice ap 1 [(.int .u8 0)] 1 [((0,1),(.t 48))],none⟩,
   ⟨(some 50),.append 1 1 ap [(.int .u8 0)] (.t 47) (.t 49),none⟩,
   ⟨(some 8),.mv (.t 50),none⟩])
  (.skip))) <|
 .region [
  ⟨(some 42),.mv (.t 9),none⟩,
  ⟨(some 43),.bin .add .int (.t 42) (.c (.int .u8 1)),none⟩,
  ⟨(some 9),.mv (.t 43),none⟩])) <|
 .seq (.region [
 ⟨(some 51),.mv (.t 8),none⟩,
 ⟨(some 4),.mv (.t 51),none⟩,
 ⟨(some 5),.mv (.c (.int .i64 0)),none⟩]) <|
 .ret,
 none⟩
def gf:aN:=⟨2,39,[(4,none)],
 .seq (.region [
 ⟨(some 4),.mv (.c (.int .i64 0)),none⟩]) <|
 .seq (.region [
 ⟨(some 5),.mv (.c (.int .i64 0)),none⟩]) <|
 .seq (.seq (.region [
 ⟨(some 6),.mv (.c (.int .i64 0)),none⟩]) <|
 dN 0 (.seq (.seq (.region [
  ⟨(some 7),.mv (.t 6),none⟩,
  ⟨(some 8),.mv (.t 0),none⟩,
  ⟨(some 9),.len (.t 8),none⟩,
  ⟨(some 10),.bin .lss .int (.t 7) (.t 9),none⟩,
  ⟨(some 11),.mv (.t 10),none⟩,
  ⟨(some 12),.mv (.t 5),(some (11,true))⟩,
  ⟨(some 13),.mv (.t 1),(some (11,true))⟩,
  ⟨(some 14),.bin .leq .int (.t 12) (.t 13),(some (11,true))⟩,
  ⟨(some 15),.pick (.t 11) (.t 14) (.c (.bool false)),none⟩]) <|
 .cond (.t 15)
  (.skip)
  (.exit 0)) <|
 .seq (.block 1 (.seq (.region [
  ⟨(some 18),.mv (.t 5),none⟩,
  ⟨(some 19),.bin .add .int (.t 18) (.c (.int .i64 1)),none⟩,
  ⟨(some 20),.mv (.t 0),none⟩,
  ⟨(some 21),.mv (.t 6),none⟩,
  ⟨(some 22),.indexAddr 5 (.t 20) (.t 21),none⟩,
  ⟨(some 23),.fieldAddr 1 (.t 22),none⟩,
  ⟨(some 24),.load none (.t 23),none⟩,
  ⟨(some 25),.lenStr (.t 24),none⟩,
  ⟨(some 26),.bin .add .int (.t 19) (.t 25),none⟩,
  ⟨(some 5),.mv (.t 26),none⟩]) <|
  .region [
  ⟨(some 27),.mv (.t 5),none⟩,
  ⟨(some 28),.mv (.t 0),none⟩,
  ⟨(some 29),.mv (.t 6),none⟩,
  ⟨(some 30),.indexAddr 5 (.t 28) (.t 29),none⟩,
  ⟨(some 31),.fieldAddr 3 (.t 30),none⟩,
  ⟨(some 32),.load none (.t 31),none⟩,
  ⟨(some 33),.mv (.t 1),none⟩,
  ⟨(some 34),.mv (.t 5),none⟩,
  ⟨(some 35),.bin .sub .int (.t 33) (.t 34),none⟩,
  ⟨(some 36),.call (.c (.fn (.func cr) [] [])) [(.t 32),(.t 35)],none⟩,
  ⟨(some 37),.bin .add .int (.t 27) (.t 36),none⟩,
  ⟨(some 5),.mv (.t 37),none⟩])) <|
 .region [
  ⟨(some 16),.mv (.t 6),none⟩,
  ⟨(some 17),.bin .add .int (.t 16) (.c (.int .i64 1)),none⟩,
  ⟨(some 6),.mv (.t 17),none⟩])) <|
 .seq (.region [
 ⟨(some 38),.mv (.t 5),none⟩,
 ⟨(some 4),.mv (.t 38),none⟩]) <|
 .ret,
 none⟩
def c_flow_Check:aN:=⟨1,118,[(2,none)],
 .seq (.region [
 ⟨(some 1),.box ah (.t 0),none⟩,
 ⟨(some 2),.mv (.c (.int .i64 0)),none⟩]) <|
 .seq (.region [
 ⟨(some 9),.fieldAddr 0 (.t 1),none⟩,
 ⟨(some 10),.load none (.t 9),none⟩,
 ⟨(some 11),.bin .lss .int (.t 10) (.c (.int .i64 0)),none⟩,
 ⟨(some 12),.mv (.t 11),none⟩,
 ⟨(some 13),.fieldAddr 0 (.t 1),(some (12,false))⟩,
 ⟨(some 14),.load none (.t 13),(some (12,false))⟩,
 ⟨(some 15),.bin .gtr .int (.t 14) (.c (.int .i64 32)),(some (12,false))⟩,
 ⟨(some 16),.pick (.t 12) (.c (.bool true)) (.t 15),none⟩,
 ⟨(some 17),.mv (.t 16),none⟩,
 ⟨(some 18),.fieldAddr 1 (.t 1),(some (17,false))⟩,
 ⟨(some 19),.load none (.t 18),(some (17,false))⟩,
 ⟨(some 20),.len (.t 19),(some (17,false))⟩,
 ⟨(some 21),.bin .gtr .int (.t 20) (.c (.int .i64 4)),(some (17,false))⟩,
 ⟨(some 22),.pick (.t 17) (.c (.bool true)) (.t 21),none⟩,
 ⟨(some 23),.mv (.t 22),none⟩,
 ⟨(some 24),.fieldAddr 2 (.t 1),(some (23,false))⟩,
 ⟨(some 25),.load none (.t 24),(some (23,false))⟩,
 ⟨(some 26),.bin .lss .int (.t 25) (.c (.int .i64 2)),(some (23,false))⟩,
 ⟨(some 27),.pick (.t 23) (.c (.bool true)) (.t 26),none⟩,
 ⟨(some 28),.mv (.t 27),none⟩,
 ⟨(some 29),.fieldAddr 2 (.t 1),(some (28,false))⟩,
 ⟨(some 30),.load none (.t 29),(some (28,false))⟩,
 ⟨(some 31),.bin .gtr .int (.t 30) (.c (.int .i64 4096)),(some (28,false))⟩,
 ⟨(some 32),.pick (.t 28) (.c (.bool true)) (.t 31),none⟩,
 ⟨(some 33),.mv (.t 32),none⟩,
 ⟨(some 34),.fieldAddr 5 (.t 1),(some (33,false))⟩,
 ⟨(some 35),.load none (.t 34),(some (33,false))⟩,
 ⟨(some 36),.len (.t 35),(some (33,false))⟩,
 ⟨(some 37),.bin .gtr .int (.t 36) (.c (.int .i64 2048)),(some (33,false))⟩,
 ⟨(some 38),.pick (.t 33) (.c (.bool true)) (.t 37),none⟩,
 ⟨(some 3),.mv (.t 38),none⟩]) <|
 .seq (.seq (.region [
 ⟨(some 39),.mv (.t 3),none⟩,
 ⟨(some 40),.mv (.t 39),none⟩,
 ⟨(some 41),.fieldAddr 3 (.t 1),(some (40,false))⟩,
 ⟨(some 42),.load none (.t 41),(some (40,false))⟩,
 ⟨(some 43),.fieldAddr 2 (.t 1),(some (40,false))⟩,
 ⟨(some 44),.load none (.t 43),(some (40,false))⟩,
 ⟨(some 45),.call (.c (.fn (.func cA) [] [])) [(.t 42),(.t 44)],(some (40,false))⟩,
 ⟨(some 46),.un .not (.t 45),(some (40,false))⟩,
 ⟨(some 47),.pick (.t 40) (.c (.bool true)) (.t 46),none⟩,
 ⟨(some 48),.mv (.t 47),none⟩,
 ⟨(some 49),.fieldAddr 4 (.t 1),(some (48,false))⟩,
 ⟨(some 50),.load none (.t 49),(some (48,false))⟩,
 ⟨(some 51),.fieldAddr 2 (.t 1),(some (48,false))⟩,
 ⟨(some 52),.load none (.t 51),(some (48,false))⟩,
 ⟨(some 53),.call (.c (.fn (.func cA) [] [])) [(.t 50),(.t 52)],(some (48,false))⟩,
 ⟨(some 54),.un .not (.t 53),(some (48,false))⟩,
 ⟨(some 55),.pick (.t 48) (.c (.bool true)) (.t 54),none⟩,
 ⟨(some 56),.mv (.t 55),none⟩,
 ⟨(some 57),.fieldAddr 3 (.t 1),(some (56,false))⟩,
 ⟨(some 58),.load none (.t 57),(some (56,false))⟩,
 ⟨(some 59),.fieldAddr 4 (.t 1),(some (56,false))⟩,
 ⟨(some 60),.load none (.t 59),(some (56,false))⟩,
 ⟨(some 61),.bin .eql .int (.t 58) (.t 60),(some (56,false))⟩,
 ⟨(some 62),.pick (.t 56) (.c (.bool true)) (.t 61),none⟩,
 ⟨(some 63),.mv (.t 62),none⟩,
 ⟨(some 64),.fieldAddr 1 (.t 1),(some (63,false))⟩,
 ⟨(some 65),.load none (.t 64),(some (63,false))⟩,
 ⟨(some 66),.call (.c (.fn (.func bB) [] [])) [(.t 65),(.c (.fn (.func fm) [] []))],(some (63,false))⟩,
 ⟨(some 67),.pick (.t 63) (.c (.bool true)) (.t 66),none⟩]) <|
 .cond (.t 67)
 (.seq (.region [
  ⟨(some 2),.mv (.c (.int .i64 8)),none⟩]) <|
 .ret)
 (.skip)) <|
 .seq (.seq (.region [
 ⟨(some 68),.fieldAddr 5 (.t 1),none⟩,
 ⟨(some 69),.load none (.t 68),none⟩,
 ⟨(some 70),.mkfn (.func fl) [] [(.t 1)],none⟩,
 ⟨(some 71),.call (.c (.fn (.func aV) [] [])) [(.t 69),(.t 70)],none⟩]) <|
 .cond (.t 71)
 (.seq (.region [
  ⟨(some 2),.mv (.c (.int .i64 8)),none⟩]) <|
 .ret)
 (.skip)) <|
 .seq (.region [
 ⟨(some 72),.load (some 6) (.t 1),none⟩,
 ⟨(some 73),.call (.c (.fn (.func iv) [] [])) [(.t 72)],none⟩,
 ⟨(some 4),.mv (.t 73),none⟩]) <|
 .seq (.rangeM [⟨(some 74),.mv (.t 4),none⟩] (.t 74) 75 76 77 0 1 78 [
 ⟨(some 79),.extract 0 (.t 78),none⟩,
 ⟨(some 80),.extract 1 (.t 78),none⟩,
 ⟨(some 5),.mv (.t 79),none⟩,
 ⟨(some 6),.mv (.t 80),none⟩]
 (.seq (.seq (.region [
  ⟨(some 81),.mv (.t 5),none⟩,
  ⟨(some 82),.fieldAddr 4 (.t 1),none⟩,
  ⟨(some 83),.load none (.t 82),none⟩,
  ⟨(some 84),.bin .eql .int (.t 81) (.t 83),none⟩,
  ⟨(some 85),.mv (.t 84),none⟩,
  ⟨(some 86),.mv (.t 6),(some (85,false))⟩,
  ⟨(some 87),.call (.c (.fn (.func gO) [] [])) [(.t 86)],(some (85,false))⟩,
  ⟨(some 88),.un .not (.t 87),(some (85,false))⟩,
  ⟨(some 89),.pick (.t 85) (.c (.bool true)) (.t 88),none⟩]) <|
 .cond (.t 89)
  (.seq (.region [
  ⟨(some 2),.mv (.c (.int .i64 8)),none⟩]) <|
  .ret)
  (.skip)) <|
 .seq (.region [
  ⟨(some 90),.mv (.t 5),none⟩,
  ⟨(some 7),.mv (.t 90),none⟩]) <|
 .seq (.region [
  ⟨(some 91),.fieldAddr 5 (.t 1),none⟩,
  ⟨(some 92),.load none (.t 91),none⟩,
  ⟨(some 93),.len (.t 92),none⟩,
  ⟨(some 94),.mv (.c (.int .i64 0)),none⟩]) <|
 oS 2 3 94 93 95 117
  (.seq (.seq (.region [
  ⟨(some 96),.mv (.t 4),none⟩,
  ⟨(some 97),.mv (.t 7),none⟩,
  ⟨(some 98),.lookup .int .nilSl (.t 96) (.t 97) false,none⟩,
  ⟨(some 8),.mv (.t 98),none⟩]) <|
  .seq (.region [
  ⟨(some 99),.mv (.t 8),none⟩,
  ⟨(some 100),.len (.t 99),none⟩,
  ⟨(some 101),.bin .eql .int (.t 100) (.c (.int .i64 1)),none⟩,
  ⟨(some 102),.mv (.t 101),none⟩,
  ⟨(some 103),.mv (.t 8),(some (102,true))⟩,
  ⟨(some 104),.indexAddr 7 (.t 103) (.c (.int .i64 0)),(some (102,true))⟩,
  ⟨(some 105),.fieldAddr 2 (.t 104),(some (102,true))⟩,
  ⟨(some 106),.fieldAddr 0 (.t 105),(some (102,true))⟩,
  ⟨(some 107),.load none (.t 106),(some (102,true))⟩,
  ⟨(some 108),.bin .eql .int (.t 107) (.c (.int .u8 1)),(some (102,true))⟩,
  ⟨(some 109),.pick (.t 102) (.t 108) (.c (.bool false)),none⟩]) <|
  .cond (.t 109)
  (.region [
   ⟨(some 110),.mv (.t 8),none⟩,
   ⟨(some 111),.indexAddr 7 (.t 110) (.c (.int .i64 0)),none⟩,
   ⟨(some 112),.fieldAddr 1 (.t 111),none⟩,
   ⟨(some 113),.load none (.t 112),none⟩,
   ⟨(some 7),.mv (.t 113),none⟩])
  (.exit 2)) <|
  .seq (.region [
  ⟨(some 114),.mv (.t 7),none⟩,
  ⟨(some 115),.mv (.t 5),none⟩,
  ⟨(some 116),.bin .eql .int (.t 114) (.t 115),none⟩]) <|
  .cond (.t 116)
  (.seq (.region [
   ⟨(some 2),.mv (.c (.int .i64 8)),none⟩]) <|
  .ret)
  (.skip))) [79,80,5,6,81,82,83,84,85,86,87,88,89,2,90,7,91,92,93,94,95,96,97,98,8,99,100,101,102,103,104,105,106,107,108,109,110,111,112,113,7,114,115,116,2,117,94]) <|
 .seq (.region [
 ⟨(some 2),.mv (.c (.int .i64 0)),none⟩]) <|
 .ret,
 none⟩
def c_report_kinds:aN:=⟨1,34,[(2,none)],
 .seq (.region [
 ⟨(some 1),.box au (.t 0),none⟩,
 ⟨(some 2),.mv (.c .nilSl),none⟩]) <|
 .seq (.region [
 ⟨(some 6),.buildSlice ap 1 [(.int .u8 0)] 1 [((0,1),(.c (.int .u8 5)))],none⟩,
 ⟨(some 7),.buildSlice ap 1 [(.int .u8 0)] 1 [((0,1),(.c (.int .u8 2)))],none⟩,
 ⟨(some 8),.buildSlice ap 1 [(.int .u8 0)] 1 [((0,1),(.c (.int .u8 2)))],none⟩,
 ⟨(some 9),.buildSlice ap 1 [(.int .u8 0)] 1 [((0,1),(.c (.int .u8 2)))],none⟩,
 ⟨(some 10),.buildSlice ap 1 [(.int .u8 0)] 1 [((0,1),(.c (.int .u8 2)))],none⟩,
 ⟨(some 11),.buildSlice ap 1 [(.int .u8 0),(.int .u8 0)] 2 [((0,1),(.c (.int .u8 2))),((1,1),(.c (.int .u8 3)))],none⟩,
 ⟨(some 12),.buildSlice ap 1 [(.int .u8 0)] 1 [((0,1),(.c (.int .u8 3)))],none⟩,
 ⟨(some 13),.buildSlice ap 1 [(.int .u8 0),(.int .u8 0)] 2 [((0,1),(.c (.int .u8 2))),((1,1),(.c (.int .u8 4)))],none⟩,
 ⟨(some 14),.buildSlice ap 1 [(.int .u8 0)] 1 [((0,1),(.c (.int .u8 4)))],none⟩,
 ⟨(some 15),.build [.nilSl,.nilSl,.nilSl,.nilSl,.nilSl,.nilSl,.nilSl,.nilSl,.nilSl,.nilSl,.nilSl,.nilSl] [((3,1),(.t 6)),((4,1),(.t 7)),((5,1),(.t 8)),((6,1),(.t 9)),((7,1),(.t 10)),((8,1),(.t 11)),((9,1),(.t 12)),((10,1),(.t 13)),((11,1),(.t 14))],none⟩,
 ⟨(some 3),.alloc kn [.nilSl,.nilSl,.nilSl,.nilSl,.nilSl,.nilSl,.nilSl,.nilSl,.nilSl,.nilSl,.nilSl,.nilSl],none⟩,
 ⟨none,.store 12 (.t 3) (.t 15),none⟩]) <|
 .seq (.region [
 ⟨(some 16),.mv (.t 2),none⟩,
 ⟨(some 17),.fieldAddr 0 (.t 1),none⟩,
 ⟨(some 18),.load none (.t 17),none⟩,
 ⟨(some 19),.indexArr 12 1 (.t 3) (.t 18),none⟩,
 ⟨(some 20),.load none (.t 19),none⟩,
 ⟨(some 21),.append 1 1 ap [(.int .u8 0)] (.t 16) (.t 20),none⟩,
 ⟨(some 2),.mv (.t 21),none⟩]) <|
 .seq (.seq (.region [
 ⟨(some 22),.fieldAddr 3 (.t 1),none⟩,
 ⟨(some 23),.load none (.t 22),none⟩,
 ⟨(some 24),.len (.t 23),none⟩,
 ⟨(some 25),.mv (.c (.int .i64 0)),none⟩]) <|
 oS 0 1 25 24 26 33
 (.seq (.region [
  ⟨(some 27),.indexAddr 5 (.t 23) (.t 25),none⟩,
  ⟨(some 28),.load (some 5) (.t 27),none⟩,
  ⟨(some 5),.alloc au [(.int .u8 0),(.str ⟨#[]⟩),(.int .i64 0),.nilSl,(.int .i64 0)],none⟩,
  ⟨none,.store 5 (.t 5) (.t 28),none⟩]) <|
 .region [
  ⟨(some 29),.mv (.t 2),none⟩,
  ⟨(some 30),.load (some 5) (.t 5),none⟩,
  ⟨(some 31),.call (.c (.fn (.func eO) [] [])) [(.t 30)],none⟩,
  ⟨(some 32),.append 1 1 ap [(.int .u8 0)] (.t 29) (.t 31),none⟩,
  ⟨(some 2),.mv (.t 32),none⟩])) <|
 .ret,
 none⟩
def el:aN:=⟨1,11,[],
 .seq (.region [
 ⟨(some 3),.mv (.t 0),none⟩,
 ⟨(some 4),.len (.t 3),none⟩,
 ⟨(some 2),.mv (.t 4),none⟩]) <|
 .region [
 ⟨(some 5),.mv (.t 0),none⟩,
 ⟨(some 6),.mv (.t 2),none⟩,
 ⟨(some 7),.mv (.t 2),none⟩,
 ⟨(some 8),.conv .u64 (.t 7),none⟩,
 ⟨(some 9),.call (.c (.fn (.func cH) [] [])) [(.t 8)],none⟩,
 ⟨(some 10),.call (.c (.fn (.func aS) [] [])) [(.t 5),(.c (.int .i64 0)),(.t 6),(.t 9)],none⟩],
 none⟩
def dy:aN:=⟨1,61,[(2,none)],
 .seq (.region [
 ⟨(some 2),.mv (.c .nilSl),none⟩]) <|
 .seq (.seq (.region [
 ⟨(some 6),.mv (.t 0),none⟩,
 ⟨(some 7),.len (.t 6),none⟩,
 ⟨(some 8),.bin .lss .int (.t 7) (.c (.int .i64 2)),none⟩]) <|
 .cond (.t 8)
 (.seq (.region [
  ⟨(some 9),.mv (.t 0),none⟩,
  ⟨(some 2),.mv (.t 9),none⟩]) <|
 .ret)
 (.skip)) <|
 .seq (.seq (.region [
 ⟨(some 3),.mv (.c (.int .i64 1)),none⟩]) <|
 dN 0 (.seq (.seq (.region [
  ⟨(some 10),.mv (.t 3),none⟩,
  ⟨(some 11),.mv (.t 0),none⟩,
  ⟨(some 12),.len (.t 11),none⟩,
  ⟨(some 13),.bin .lss .int (.t 10) (.t 12),none⟩]) <|
 .cond (.t 13)
  (.skip)
  (.exit 0)) <|
 .seq (.block 1 (.seq (.draw [
  ⟨(some 16),.mv (.t 0),none,[(0,none)],0,[(0,[])]⟩,
  ⟨(some 17),.mv (.t 3),none,[(3,none)],0,[(0,[])]⟩,
  ⟨(some 18),.indexAddr 1 (.t 16) (.t 17),none,[(16,(some 0)),(17,(some 1))],0,[(0,[])]⟩,
  ⟨(some 19),.load none (.t 18),none,[(18,(some 2))],0,[(0,[])]⟩,
  ⟨(some 20),.mv (.t 0),none,[(0,none)],0,[(0,[])]⟩,
  ⟨(some 21),.mv (.t 3),none,[(3,none)],0,[(0,[])]⟩,
  ⟨(some 22),.bin .sub .int (.t 21) (.c (.int .i64 1)),none,[(21,(some 5))],0,[(0,[])]⟩,
  ⟨(some 23),.indexAddr 1 (.t 20) (.t 22),none,[(20,(some 4)),(22,(some 6))],0,[(0,[])]⟩,
  ⟨(some 24),.load none (.t 23),none,[(23,(some 7))],0,[(0,[])]⟩,
  ⟨(some 25),.bin .eql .int (.t 19) (.t 24),none,[(19,(some 3)),(24,(some 8))],0,[(0,[])]⟩] []) <|
  .cond (.t 25)
  (.seq (.region [
   ⟨(some 26),.mv (.t 0),none⟩,
   ⟨(some 27),.mv (.t 3),none⟩,
   ⟨(some 28),.slice 1 (.t 26) (some (.t 27)) none none,none⟩,
   ⟨(some 4),.mv (.t 28),none⟩]) <|
  .seq (.seq (.region [
   ⟨(some 5),.mv (.c (.int .i64 1)),none⟩]) <|
  dN 2 (.seq (.seq (.region [
   ⟨(some 29),.mv (.t 5),none⟩,
   ⟨(some 30),.mv (.t 4),none⟩,
   ⟨(some 31),.len (.t 30),none⟩,
   ⟨(some 32),.bin .lss .int (.t 29) (.t 31),none⟩]) <|
   .cond (.t 32)
   (.skip)
   (.exit 2)) <|
   .seq (.block 3 (.seq (.draw [
    ⟨(some 35),.mv (.t 4),none,[(4,none)],0,[(0,[])]⟩,
    ⟨(some 36),.mv (.t 5),none,[(5,none)],0,[(0,[])]⟩,
    ⟨(some 37),.indexAddr 1 (.t 35) (.t 36),none,[(35,(some 0)),(36,(some 1))],0,[(0,[])]⟩,
    ⟨(some 38),.load none (.t 37),none,[(37,(some 2))],0,[(0,[])]⟩,
    ⟨(some 39),.mv (.t 4),none,[(4,none)],0,[(0,[])]⟩,
    ⟨(some 40),.mv (.t 5),none,[(5,none)],0,[(0,[])]⟩,
    ⟨(some 41),.bin .sub .int (.t 40) (.c (.int .i64 1)),none,[(40,(some 5))],0,[(0,[])]⟩,
    ⟨(some 42),.indexAddr 1 (.t 39) (.t 41),none,[(39,(some 4)),(41,(some 6))],0,[(0,[])]⟩,
    ⟨(some 43),.load none (.t 42),none,[(42,(some 7))],0,[(0,[])]⟩,
    ⟨(some 44),.bin .neq .int (.t 38) (.t 43),none,[(38,(some 3)),(43,(some 8))],0,[(0,[])]⟩] []) <|
   .cond (.t 44)
    (.seq (.region [
    ⟨(some 45),.mv (.t 0),none⟩,
    ⟨(some 46),.mv (.t 3),none⟩,
    ⟨(some 47),.mv (.t 4),none⟩,
    ⟨(some 48),.mv (.t 5),none⟩,
    ⟨(some 49),.indexAddr 1 (.t 47) (.t 48),none⟩,
    ⟨(some 50),.load none (.t 49),none⟩,
    ⟨(some 51),.indexAddr 1 (.t 45) (.t 46),none⟩,
    ⟨none,.store 1 (.t 51) (.t 50),none⟩]) <|
    .region [
    ⟨(some 52),.mv (.t 3),none⟩,
    ⟨(some 53),.bin .add .int (.t 52) (.c (.int .i64 1)),none⟩,
    ⟨(some 3),.mv (.t 53),none⟩])
    (.skip))) <|
   .region [
   ⟨(some 33),.mv (.t 5),none⟩,
   ⟨(some 34),.bin .add .int (.t 33) (.c (.int .i64 1)),none⟩,
   ⟨(some 5),.mv (.t 34),none⟩])) <|
  .seq (.region [
   ⟨(some 54),.mv (.t 0),none⟩,
   ⟨(some 55),.mv (.t 3),none⟩,
   ⟨(some 56),.slice 1 (.t 54) (some (.t 55)) none none,none⟩,
   ⟨none,.clear 1 [(.int .u8 0)] (.t 56),none⟩]) <|
  .seq (.region [
   ⟨(some 57),.mv (.t 0),none⟩,
   ⟨(some 58),.mv (.t 3),none⟩,
   ⟨(some 59),.slice 1 (.t 57) none (some (.t 58)) none,none⟩,
   ⟨(some 2),.mv (.t 59),none⟩]) <|
  .ret)
  (.skip))) <|
 .region [
  ⟨(some 14),.mv (.t 3),none⟩,
  ⟨(some 15),.bin .add .int (.t 14) (.c (.int .i64 1)),none⟩,
  ⟨(some 3),.mv (.t 15),none⟩])) <|
 .seq (.region [
 ⟨(some 60),.mv (.t 0),none⟩,
 ⟨(some 2),.mv (.t 60),none⟩]) <|
 .ret,
 none⟩
def c_facetroomref13_May:aN:=⟨1,147,[(2,none)],
 .seq (.region [
 ⟨(some 1),.box ah (.t 0),none⟩,
 ⟨(some 2),.mv (.c (.bool false)),none⟩]) <|
 .seq (.seq (.region [
 ⟨(some 7),.fieldAddr 0 (.t 1),none⟩,
 ⟨(some 8),.load none (.t 7),none⟩,
 ⟨(some 9),.bin .lss .int (.t 8) (.c (.int .i64 0)),none⟩,
 ⟨(some 10),.mv (.t 9),none⟩,
 ⟨(some 11),.fieldAddr 0 (.t 1),(some (10,false))⟩,
 ⟨(some 12),.load none (.t 11),(some (10,false))⟩,
 ⟨(some 13),.bin .gtr .int (.t 12) (.c (.int .i64 32)),(some (10,false))⟩,
 ⟨(some 14),.pick (.t 10) (.c (.bool true)) (.t 13),none⟩,
 ⟨(some 15),.mv (.t 14),none⟩,
 ⟨(some 16),.fieldAddr 1 (.t 1),(some (15,false))⟩,
 ⟨(some 17),.load none (.t 16),(some (15,false))⟩,
 ⟨(some 18),.len (.t 17),(some (15,false))⟩,
 ⟨(some 19),.bin .gtr .int (.t 18) (.c (.int .i64 4)),(some (15,false))⟩,
 ⟨(some 20),.pick (.t 15) (.c (.bool true)) (.t 19),none⟩,
 ⟨(some 21),.mv (.t 20),none⟩,
 ⟨(some 22),.fieldAddr 2 (.t 1),(some (21,false))⟩,
 ⟨(some 23),.load none (.t 22),(some (21,false))⟩,
 ⟨(some 24),.bin .lss .int (.t 23) (.c (.int .i64 2)),(some (21,false))⟩,
 ⟨(some 25),.pick (.t 21) (.c (.bool true)) (.t 24),none⟩,
 ⟨(some 26),.mv (.t 25),none⟩,
 ⟨(some 27),.fieldAddr 2 (.t 1),(some (26,false))⟩,
 ⟨(some 28),.load none (.t 27),(some (26,false))⟩,
 ⟨(some 29),.bin .gtr .int (.t 28) (.c (.int .i64 4096)),(some (26,false))⟩,
 ⟨(some 30),.pick (.t 26) (.c (.bool true)) (.t 29),none⟩,
 ⟨(some 31),.mv (.t 30),none⟩,
 ⟨(some 32),.load (some 6) (.t 1),(some (31,false))⟩,
 ⟨(some 33),.fieldAddr 3 (.t 1),(some (31,false))⟩,
 ⟨(some 34),.load none (.t 33),(some (31,false))⟩,
 ⟨(some 35),.call (.c (.fn (.func bn) [] [])) [(.t 32),(.t 34)],(some (31,false))⟩,
 ⟨(some 36),.un .not (.t 35),(some (31,false))⟩,
 ⟨(some 37),.pick (.t 31) (.c (.bool true)) (.t 36),none⟩,
 ⟨(some 38),.mv (.t 37),none⟩,
 ⟨(some 39),.load (some 6) (.t 1),(some (38,false))⟩,
 ⟨(some 40),.fieldAddr 4 (.t 1),(some (38,false))⟩,
 ⟨(some 41),.load none (.t 40),(some (38,false))⟩,
 ⟨(some 42),.call (.c (.fn (.func bn) [] [])) [(.t 39),(.t 41)],(some (38,false))⟩,
 ⟨(some 43),.un .not (.t 42),(some (38,false))⟩,
 ⟨(some 44),.pick (.t 38) (.c (.bool true)) (.t 43),none⟩,
 ⟨(some 45),.mv (.t 44),none⟩,
 ⟨(some 46),.fieldAddr 3 (.t 1),(some (45,false))⟩,
 ⟨(some 47),.load none (.t 46),(some (45,false))⟩,
 ⟨(some 48),.fieldAddr 4 (.t 1),(some (45,false))⟩,
 ⟨(some 49),.load none (.t 48),(some (45,false))⟩,
 ⟨(some 50),.bin .eql .int (.t 47) (.t 49),(some (45,false))⟩,
 ⟨(some 51),.pick (.t 45) (.c (.bool true)) (.t 50),none⟩,
 ⟨(some 52),.mv (.t 51),none⟩,
 ⟨(some 53),.fieldAddr 5 (.t 1),(some (52,false))⟩,
 ⟨(some 54),.load none (.t 53),(some (52,false))⟩,
 ⟨(some 55),.len (.t 54),(some (52,false))⟩,
 ⟨(some 56),.bin .gtr .int (.t 55) (.c (.int .i64 2048)),(some (52,false))⟩,
 ⟨(some 57),.pick (.t 52) (.c (.bool true)) (.t 56),none⟩]) <|
 .cond (.t 57)
 (.seq (.region [
  ⟨(some 2),.mv (.c (.bool false)),none⟩]) <|
 .ret)
 (.skip)) <|
 .seq (.seq (.region [
 ⟨(some 3),.mv (.c (.int .i64 0)),none⟩]) <|
 dN 0 (.seq (.seq (.region [
  ⟨(some 58),.mv (.t 3),none⟩,
  ⟨(some 59),.fieldAddr 1 (.t 1),none⟩,
  ⟨(some 60),.load none (.t 59),none⟩,
  ⟨(some 61),.len (.t 60),none⟩,
  ⟨(some 62),.bin .lss .int (.t 58) (.t 61),none⟩]) <|
 .cond (.t 62)
  (.skip)
  (.exit 0)) <|
 .seq (.block 1 (.seq (.region [
  ⟨(some 65),.fieldAddr 1 (.t 1),none⟩,
  ⟨(some 66),.load none (.t 65),none⟩,
  ⟨(some 67),.mv (.t 3),none⟩,
  ⟨(some 68),.indexAddr 1 (.t 66) (.t 67),none⟩,
  ⟨(some 69),.load none (.t 68),none⟩,
  ⟨(some 70),.bin .lss .int (.t 69) (.c (.int .i64 1)),none⟩,
  ⟨(some 71),.mv (.t 70),none⟩,
  ⟨(some 72),.fieldAddr 1 (.t 1),(some (71,false))⟩,
  ⟨(some 73),.load none (.t 72),(some (71,false))⟩,
  ⟨(some 74),.mv (.t 3),(some (71,false))⟩,
  ⟨(some 75),.indexAddr 1 (.t 73) (.t 74),(some (71,false))⟩,
  ⟨(some 76),.load none (.t 75),(some (71,false))⟩,
  ⟨(some 77),.bin .gtr .int (.t 76) (.c (.int .i64 16)),(some (71,false))⟩,
  ⟨(some 78),.pick (.t 71) (.c (.bool true)) (.t 77),none⟩]) <|
  .cond (.t 78)
  (.seq (.region [
   ⟨(some 2),.mv (.c (.bool false)),none⟩]) <|
  .ret)
  (.skip))) <|
 .region [
  ⟨(some 63),.mv (.t 3),none⟩,
  ⟨(some 64),.bin .add .int (.t 63) (.c (.int .i64 1)),none⟩,
  ⟨(some 3),.mv (.t 64),none⟩])) <|
 .seq (.seq (.region [
 ⟨(some 4),.mv (.c (.int .i64 0)),none⟩]) <|
 dN 2 (.seq (.seq (.region [
  ⟨(some 79),.mv (.t 4),none⟩,
  ⟨(some 80),.fieldAddr 5 (.t 1),none⟩,
  ⟨(some 81),.load none (.t 80),none⟩,
  ⟨(some 82),.len (.t 81),none⟩,
  ⟨(some 83),.bin .lss .int (.t 79) (.t 82),none⟩]) <|
 .cond (.t 83)
  (.skip)
  (.exit 2)) <|
 .seq (.block 3 (.seq (.draw [
  ⟨(some 86),.load (some 6) (.t 1),none,[(1,none)],0,[(0,[])]⟩,
  ⟨(some 87),.fieldAddr 5 (.t 1),none,[(1,none)],0,[(0,[])]⟩,
  ⟨(some 88),.load none (.t 87),none,[(87,(some 1))],0,[(0,[])]⟩,
  ⟨(some 89),.mv (.t 4),none,[(4,none)],0,[(0,[])]⟩,
  ⟨(some 90),.indexAddr 7 (.t 88) (.t 89),none,[(88,(some 2)),(89,(some 3))],0,[(0,[])]⟩,
  ⟨(some 91),.fieldAddr 0 (.t 90),none,[(90,(some 4))],0,[(0,[])]⟩,
  ⟨(some 92),.load none (.t 91),none,[(91,(some 5))],0,[(0,[])]⟩,
  ⟨(some 93),.call (.c (.fn (.func bn) [] [])) [(.t 86),(.t 92)],none,[(86,(some 0)),(92,(some 6))],2,[(0,[])]⟩,
  ⟨(some 94),.un .not (.t 93),none,[(93,(some 7))],0,[(1,[])]⟩,
  ⟨(some 95),.mv (.t 94),none,[(94,(some 8))],0,[(1,[])]⟩,
  ⟨(some 96),.load (some 6) (.t 1),(some (95,false)),[(1,none),(95,(some 9))],0,[(1,[])]⟩,
  ⟨(some 97),.fieldAddr 5 (.t 1),(some (95,false)),[(1,none),(95,(some 9))],0,[(1,[])]⟩,
  ⟨(some 98),.load none (.t 97),(some (95,false)),[(97,(some 11)),(95,(some 9))],0,[(1,[])]⟩,
  ⟨(some 99),.mv (.t 4),(some (95,false)),[(4,none),(95,(some 9))],0,[(1,[])]⟩,
  ⟨(some 100),.indexAddr 7 (.t 98) (.t 99),(some (95,false)),[(98,(some 12)),(99,(some 13)),(95,(some 9))],0,[(1,[])]⟩,
  ⟨(some 101),.fieldAddr 1 (.t 100),(some (95,false)),[(100,(some 14)),(95,(some 9))],0,[(1,[])]⟩,
  ⟨(some 102),.load none (.t 101),(some (95,false)),[(101,(some 15)),(95,(some 9))],0,[(1,[])]⟩,
  ⟨(some 103),.call (.c (.fn (.func bn) [] [])) [(.t 96),(.t 102)],(some (95,false)),[(96,(some 10)),(102,(some 16)),(95,(some 9))],2,[(1,[])]⟩,
  ⟨(some 104),.un .not (.t 103),(some (95,false)),[(103,(some 17)),(95,(some 9))],0,[(2,[])]⟩,
  ⟨(some 105),.pick (.t 95) (.c (.bool true)) (.t 104),none,[(95,(some 9)),(104,(some 18))],0,[(2,[])]⟩,
  ⟨(some 106),.mv (.t 105),none,[(105,(some 19))],0,[(2,[])]⟩,
  ⟨(some 107),.load (some 6) (.t 1),(some (106,false)),[(1,none),(106,(some 20))],0,[(2,[])]⟩,
  ⟨(some 108),.fieldAddr 5 (.t 1),(some (106,false)),[(1,none),(106,(some 20))],0,[(2,[])]⟩,
  ⟨(some 109),.load none (.t 108),(some (106,false)),[(108,(some 22)),(106,(some 20))],0,[(2,[])]⟩,
  ⟨(some 110),.mv (.t 4),(some (106,false)),[(4,none),(106,(some 20))],0,[(2,[])]⟩,
  ⟨(some 111),.indexAddr 7 (.t 109) (.t 110),(some (106,false)),[(109,(some 23)),(110,(some 24)),(106,(some 20))],0,[(2,[])]⟩,
  ⟨(some 112),.fieldAddr 2 (.t 111),(some (106,false)),[(111,(some 25)),(106,(some 20))],0,[(2,[])]⟩,
  ⟨(some 113),.load (some 4) (.t 112),(some (106,false)),[(112,(some 26)),(106,(some 20))],0,[(2,[])]⟩,
  ⟨(some 114),.call (.c (.fn (.func cP) [] [])) [(.t 107),(.t 113)],(some (106,false)),[(107,(some 21)),(113,(some 27)),(106,(some 20))],2,[(2,[])]⟩,
  ⟨(some 115),.un .not (.t 114),(some (106,false)),[(114,(some 28)),(106,(some 20))],0,[(3,[])]⟩,
  ⟨(some 116),.pick (.t 106) (.c (.bool true)) (.t 115),none,[(106,(some 20)),(115,(some 29))],0,[(3,[])]⟩] []) <|
  .cond (.t 116)
  (.seq (.region [
   ⟨(some 2),.mv (.c (.bool false)),none⟩]) <|
  .ret)
  (.skip))) <|
 .region [
  ⟨(some 84),.mv (.t 4),none⟩,
  ⟨(some 85),.bin .add .int (.t 84) (.c (.int .i64 1)),none⟩,
  ⟨(some 4),.mv (.t 85),none⟩])) <|
 .seq (.seq (.region [
 ⟨(some 5),.mv (.c (.int .i64 0)),none⟩]) <|
 dN 4 (.seq (.seq (.region [
  ⟨(some 117),.mv (.t 5),none⟩,
  ⟨(some 118),.fieldAddr 5 (.t 1),none⟩,
  ⟨(some 119),.load none (.t 118),none⟩,
  ⟨(some 120),.len (.t 119),none⟩,
  ⟨(some 121),.bin .lss .int (.t 117) (.t 120),none⟩]) <|
 .cond (.t 121)
  (.skip)
  (.exit 4)) <|
 .seq (.block 5 (.seq (.region [
  ⟨(some 124),.fieldAddr 5 (.t 1),none⟩,
  ⟨(some 125),.load none (.t 124),none⟩,
  ⟨(some 126),.mv (.t 5),none⟩,
  ⟨(some 127),.indexAddr 7 (.t 125) (.t 126),none⟩,
  ⟨(some 128),.fieldAddr 0 (.t 127),none⟩,
  ⟨(some 129),.load none (.t 128),none⟩,
  ⟨(some 6),.mv (.t 129),none⟩]) <|
  .seq (.draw [
  ⟨(some 130),.mv (.t 6),none,[(6,none)],0,[(0,[])]⟩,
  ⟨(some 131),.fieldAddr 4 (.t 1),none,[(1,none)],0,[(0,[])]⟩,
  ⟨(some 132),.load none (.t 131),none,[(131,(some 1))],0,[(0,[])]⟩,
  ⟨(some 133),.bin .eql .int (.t 130) (.t 132),none,[(130,(some 0)),(132,(some 2))],0,[(0,[])]⟩,
  ⟨(some 134),.mv (.t 133),none,[(133,(some 3))],0,[(0,[])]⟩,
  ⟨(some 135),.load (some 6) (.t 1),(some (134,false)),[(1,none),(134,(some 4))],0,[(0,[]),(1,[])]⟩,
  ⟨(some 136),.load (some 6) (.t 1),(some (134,false)),[(1,none),(134,(some 4))],0,[(0,[])]⟩,
  ⟨(some 137),.mv (.t 6),(some (134,false)),[(6,none),(134,(some 4))],0,[(0,[])]⟩,
  ⟨(some 138),.call (.c (.fn (.func cC) [] [])) [(.t 136),(.t 137)],(some (134,false)),[(136,(some 6)),(137,(some 7)),(134,(some 4))],2,[(0,[])]⟩,
  ⟨(some 139),.call (.c (.fn (.func cF) [] [])) [(.t 135),(.t 138)],(some (134,false)),[(135,(some 5)),(138,(some 8)),(134,(some 4))],2,[(1,[])]⟩,
  ⟨(some 140),.un .not (.t 139),(some (134,false)),[(139,(some 9)),(134,(some 4))],0,[(2,[])]⟩,
  ⟨(some 141),.pick (.t 134) (.c (.bool true)) (.t 140),none,[(134,(some 4)),(140,(some 10))],0,[(2,[])]⟩,
  ⟨(some 142),.mv (.t 141),none,[(141,(some 11))],0,[(2,[])]⟩,
  ⟨(some 143),.load (some 6) (.t 1),(some (142,false)),[(1,none),(142,(some 12))],0,[(2,[])]⟩,
  ⟨(some 144),.mv (.t 6),(some (142,false)),[(6,none),(142,(some 12))],0,[(2,[])]⟩,
  ⟨(some 145),.call (.c (.fn (.func cO) [] [])) [(.t 143),(.t 144)],(some (142,false)),[(143,(some 13)),(144,(some 14)),(142,(some 12))],2,[(2,[])]⟩,
  ⟨(some 146),.pick (.t 142) (.c (.bool true)) (.t 145),none,[(142,(some 12)),(145,(some 15))],0,[(3,[])]⟩] []) <|
  .cond (.t 146)
  (.seq (.region [
   ⟨(some 2),.mv (.c (.bool false)),none⟩]) <|
  .ret)
  (.skip))) <|
 .region [
  ⟨(some 122),.mv (.t 5),none⟩,
  ⟨(some 123),.bin .add .int (.t 122) (.c (.int .i64 1)),none⟩,
  ⟨(some 5),.mv (.t 123),none⟩])) <|
 .seq (.region [
 ⟨(some 2),.mv (.c (.bool true)),none⟩]) <|
 .ret,
 none⟩
def gd:aN:=⟨2,54,[(4,some (some 6))],
 .seq (.region [
 ⟨(some 2),.box aH (.t 0),none⟩,
 ⟨(some 4),.alloc aH [(.bool false),(.bool false),(.bool false),(.bool false),(.bool false),(.bool false)],none⟩]) <|
 .seq (.seq (.region [
 ⟨(some 5),.mv (.c (.int .i64 0)),none⟩]) <|
 dN 0 (.seq (.seq (.region [
  ⟨(some 7),.mv (.t 5),none⟩,
  ⟨(some 8),.mv (.t 1),none⟩,
  ⟨(some 9),.len (.t 8),none⟩,
  ⟨(some 10),.bin .lss .int (.t 7) (.t 9),none⟩]) <|
 .cond (.t 10)
  (.skip)
  (.exit 0)) <|
 .seq (.block 1 (.seq (.region [
  ⟨(some 13),.mv (.t 1),none⟩,
  ⟨(some 14),.mv (.t 5),none⟩,
  ⟨(some 15),.indexAddr 5 (.t 13) (.t 14),none⟩,
  ⟨(some 16),.fieldAddr 0 (.t 15),none⟩,
  ⟨(some 17),.load none (.t 16),none⟩,
  ⟨(some 6),.mv (.t 17),none⟩]) <|
  .seq (.seq (.region [
  ⟨(some 18),.mv (.t 6),none⟩,
  ⟨(some 19),.bin .geq .int (.t 18) (.c (.int .u8 4)),none⟩,
  ⟨(some 20),.mv (.t 19),none⟩,
  ⟨(some 21),.mv (.t 6),(some (20,true))⟩,
  ⟨(some 22),.bin .leq .int (.t 21) (.c (.int .u8 8)),(some (20,true))⟩,
  ⟨(some 23),.pick (.t 20) (.t 22) (.c (.bool false)),none⟩,
  ⟨(some 24),.mv (.t 23),none⟩,
  ⟨(some 25),.mv (.t 6),(some (24,false))⟩,
  ⟨(some 26),.bin .eql .int (.t 25) (.c (.int .u8 10)),(some (24,false))⟩,
  ⟨(some 27),.pick (.t 24) (.c (.bool true)) (.t 26),none⟩]) <|
  .cond (.t 27)
  (.region [
   ⟨(some 28),.indexArr 6 1 (.t 2) (.c (.int .u8 2)),none⟩,
   ⟨none,.store 1 (.t 28) (.c (.bool true)),none⟩])
  (.skip)) <|
  .seq (.seq (.region [
  ⟨(some 29),.mv (.t 6),none⟩,
  ⟨(some 30),.bin .eql .int (.t 29) (.c (.int .u8 8)),none⟩,
  ⟨(some 31),.mv (.t 30),none⟩,
  ⟨(some 32),.mv (.t 6),(some (31,false))⟩,
  ⟨(some 33),.bin .eql .int (.t 32) (.c (.int .u8 9)),(some (31,false))⟩,
  ⟨(some 34),.pick (.t 31) (.c (.bool true)) (.t 33),none⟩]) <|
  .cond (.t 34)
  (.region [
   ⟨(some 35),.indexArr 6 1 (.t 2) (.c (.int .u8 3)),none⟩,
   ⟨none,.store 1 (.t 35) (.c (.bool true)),none⟩])
  (.skip)) <|
  .seq (.seq (.region [
  ⟨(some 36),.mv (.t 6),none⟩,
  ⟨(some 37),.bin .eql .int (.t 36) (.c (.int .u8 10)),none⟩,
  ⟨(some 38),.mv (.t 37),none⟩,
  ⟨(some 39),.mv (.t 6),(some (38,false))⟩,
  ⟨(some 40),.bin .eql .int (.t 39) (.c (.int .u8 11)),(some (38,false))⟩,
  ⟨(some 41),.pick (.t 38) (.c (.bool true)) (.t 40),none⟩]) <|
  .cond (.t 41)
  (.region [
   ⟨(some 42),.indexArr 6 1 (.t 2) (.c (.int .u8 4)),none⟩,
   ⟨none,.store 1 (.t 42) (.c (.bool true)),none⟩])
  (.skip)) <|
  .seq (.seq (.region [
  ⟨(some 43),.mv (.t 6),none⟩,
  ⟨(some 44),.bin .eql .int (.t 43) (.c (.int .u8 3)),none⟩]) <|
  .cond (.t 44)
  (.region [
   ⟨(some 45),.indexArr 6 1 (.t 2) (.c (.int .u8 5)),none⟩,
   ⟨none,.store 1 (.t 45) (.c (.bool true)),none⟩])
  (.skip)) <|
  .draw [
  ⟨(some 46),.load (some 6) (.t 2),none,[(2,none)],0,[(0,[])]⟩,
  ⟨(some 47),.mv (.t 1),none,[(1,none)],0,[(0,[])]⟩,
  ⟨(some 48),.mv (.t 5),none,[(5,none)],0,[(0,[])]⟩,
  ⟨(some 49),.indexAddr 5 (.t 47) (.t 48),none,[(47,(some 1)),(48,(some 2))],0,[(0,[])]⟩,
  ⟨(some 50),.fieldAddr 3 (.t 49),none,[(49,(some 3))],0,[(0,[])]⟩,
  ⟨(some 51),.load none (.t 50),none,[(50,(some 4))],0,[(0,[])]⟩,
  ⟨(some 52),.call (.c (.fn (.func cp) [] [])) [(.t 46),(.t 51)],none,[(46,(some 0)),(51,(some 5))],2,[(0,[])]⟩,
  ⟨none,.store 6 (.t 2) (.t 52),none,[(2,none),(52,(some 6))],2,[(1,[])]⟩] [])) <|
 .region [
  ⟨(some 11),.mv (.t 5),none⟩,
  ⟨(some 12),.bin .add .int (.t 11) (.c (.int .i64 1)),none⟩,
  ⟨(some 5),.mv (.t 12),none⟩])) <|
 .seq (.region [
 ⟨(some 53),.load (some 6) (.t 2),none⟩,
 ⟨none,.store 6 (.t 4) (.t 53),none⟩]) <|
 .ret,
 none⟩
def lR:aN:=⟨2,12,[(4,none)],
 .seq (.region [
 ⟨(some 4),.mv (.c (.bool false)),none⟩]) <|
 .seq (.region [
 ⟨(some 5),.mv (.t 0),none⟩,
 ⟨(some 6),.bin .geq .int (.t 5) (.c (.int .i64 0)),none⟩,
 ⟨(some 7),.mv (.t 6),none⟩,
 ⟨(some 8),.mv (.t 0),(some (7,true))⟩,
 ⟨(some 9),.mv (.t 1),(some (7,true))⟩,
 ⟨(some 10),.bin .lss .int (.t 8) (.t 9),(some (7,true))⟩,
 ⟨(some 11),.pick (.t 7) (.t 10) (.c (.bool false)),none⟩,
 ⟨(some 4),.mv (.t 11),none⟩]) <|
 .ret,
 none⟩
def dj:aN:=⟨2,9,[(4,none)],
 .seq (.region [
 ⟨(some 4),.mv (.c (.bool false)),none⟩]) <|
 .seq (.region [
 ⟨(some 5),.mv (.t 0),none⟩,
 ⟨(some 6),.mv (.t 1),none⟩,
 ⟨(some 7),.call (.c (.fn (.func bO) [] [])) [(.t 5),(.t 6)],none⟩,
 ⟨(some 8),.bin .geq .int (.t 7) (.c (.int .i64 0)),none⟩,
 ⟨(some 4),.mv (.t 8),none⟩]) <|
 .ret,
 none⟩
def jl:aN:=⟨1,9,[(2,none)],
 .seq (.region [
 ⟨(some 2),.mv (.c (.bool false)),none⟩]) <|
 .seq (.region [
 ⟨(some 3),.mv (.t 0),none⟩,
 ⟨(some 4),.bin .lss .int (.t 3) (.c (.int .i64 1)),none⟩,
 ⟨(some 5),.mv (.t 4),none⟩,
 ⟨(some 6),.mv (.t 0),(some (5,false))⟩,
 ⟨(some 7),.bin .gtr .int (.t 6) (.c (.int .i64 16)),(some (5,false))⟩,
 ⟨(some 8),.pick (.t 5) (.c (.bool true)) (.t 7),none⟩,
 ⟨(some 2),.mv (.t 8),none⟩]) <|
 .ret,
 none⟩
def jk:aN:=⟨2,25,[(3,none)],
 .seq (.region [
 ⟨(some 2),.box bc (.t 0),none⟩,
 ⟨(some 3),.mv (.c (.bool false)),none⟩]) <|
 .seq (.region [
 ⟨(some 4),.fieldAddr 0 (.t 2),none⟩,
 ⟨(some 5),.load none (.t 4),none⟩,
 ⟨(some 6),.fieldAddr 2 (.t 1),none⟩,
 ⟨(some 7),.load none (.t 6),none⟩,
 ⟨(some 8),.call (.c (.fn (.func cA) [] [])) [(.t 5),(.t 7)],none⟩,
 ⟨(some 9),.un .not (.t 8),none⟩,
 ⟨(some 10),.mv (.t 9),none⟩,
 ⟨(some 11),.fieldAddr 1 (.t 2),(some (10,false))⟩,
 ⟨(some 12),.load none (.t 11),(some (10,false))⟩,
 ⟨(some 13),.fieldAddr 2 (.t 1),(some (10,false))⟩,
 ⟨(some 14),.load none (.t 13),(some (10,false))⟩,
 ⟨(some 15),.call (.c (.fn (.func cA) [] [])) [(.t 12),(.t 14)],(some (10,false))⟩,
 ⟨(some 16),.un .not (.t 15),(some (10,false))⟩,
 ⟨(some 17),.pick (.t 10) (.c (.bool true)) (.t 16),none⟩,
 ⟨(some 18),.mv (.t 17),none⟩,
 ⟨(some 19),.load (some 6) (.t 1),(some (18,false))⟩,
 ⟨(some 20),.fieldAddr 2 (.t 2),(some (18,false))⟩,
 ⟨(some 21),.load (some 4) (.t 20),(some (18,false))⟩,
 ⟨(some 22),.call (.c (.fn (.func iz) [] [])) [(.t 19),(.t 21)],(some (18,false))⟩,
 ⟨(some 23),.un .not (.t 22),(some (18,false))⟩,
 ⟨(some 24),.pick (.t 18) (.c (.bool true)) (.t 23),none⟩,
 ⟨(some 3),.mv (.t 24),none⟩]) <|
 .ret,
 none⟩
def b7:aN:=⟨2,9,[(4,none)],
 .seq (.region [
 ⟨(some 4),.mv (.c (.bool false)),none⟩]) <|
 .seq (.region [
 ⟨(some 5),.mv (.t 0),none⟩,
 ⟨(some 6),.mv (.t 1),none⟩,
 ⟨(some 7),.call (.c (.fn (.func ba) [] [])) [(.t 5),(.t 6)],none⟩,
 ⟨(some 8),.bin .geq .int (.t 7) (.c (.int .i64 0)),none⟩,
 ⟨(some 4),.mv (.t 8),none⟩]) <|
 .ret,
 none⟩
def mQ:aN:=⟨1,26,[(2,none)],
 .seq (.region [
 ⟨(some 1),.box ah (.t 0),none⟩,
 ⟨(some 2),.mv (.c .nilMap),none⟩]) <|
 .seq (.region [
 ⟨(some 6),.mkmap,none⟩,
 ⟨(some 3),.mv (.t 6),none⟩]) <|
 .seq (.seq (.region [
 ⟨(some 7),.fieldAddr 5 (.t 1),none⟩,
 ⟨(some 8),.load none (.t 7),none⟩,
 ⟨(some 9),.len (.t 8),none⟩,
 ⟨(some 10),.mv (.c (.int .i64 0)),none⟩]) <|
 oS 0 1 10 9 11 24
 (.seq (.region [
  ⟨(some 12),.indexAddr 7 (.t 8) (.t 10),none⟩,
  ⟨(some 13),.load (some 7) (.t 12),none⟩,
  ⟨(some 5),.alloc bc [(.int .i64 0),(.int .i64 0),(.int .u8 0),(.int .i64 0),(.int .u8 0),.nilSl,(.int .i64 0)],none⟩,
  ⟨none,.store 7 (.t 5) (.t 13),none⟩]) <|
 .draw [
  ⟨(some 14),.mv (.t 3),none,[(3,none)],0,[(0,[]),(1,[])]⟩,
  ⟨(some 15),.fieldAddr 0 (.t 5),none,[(5,none)],0,[(0,[]),(1,[])]⟩,
  ⟨(some 16),.load none (.t 15),none,[(15,(some 1))],0,[(0,[]),(1,[])]⟩,
  ⟨(some 17),.mv (.t 3),none,[(3,none)],0,[(0,[])]⟩,
  ⟨(some 18),.fieldAddr 0 (.t 5),none,[(5,none)],0,[(0,[])]⟩,
  ⟨(some 19),.load none (.t 18),none,[(18,(some 4))],0,[(0,[])]⟩,
  ⟨(some 20),.lookup .int .nilSl (.t 17) (.t 19) false,none,[(17,(some 3)),(19,(some 5))],0,[(0,[])]⟩,
  ⟨(some 21),.load (some 7) (.t 5),none,[(5,none)],0,[(0,[])]⟩,
  ⟨(some 22),.buildSlice bc 7 [(.int .i64 0),(.int .i64 0),(.int .u8 0),(.int .i64 0),(.int .u8 0),.nilSl,(.int .i64 0)] 1 [((0,7),(.t 21))],none,[(21,(some 7))],1,[(0,[])]⟩,
  ⟨(some 23),.append 7 72 bc [(.int .i64 0),(.int .i64 0),(.int .u8 0),(.int .i64 0),(.int .u8 0),.nilSl,(.int .i64 0)] (.t 20) (.t 22),none,[(20,(some 6)),(22,(some 8))],2,[(0,[8])]⟩,
  ⟨none,.mapUpd .int (.t 14) (.t 16) (.t 23),none,[(14,(some 0)),(16,(some 2)),(23,(some 9))],2,[(1,[])]⟩] [])) <|
 .seq (.region [
 ⟨(some 25),.mv (.t 3),none⟩,
 ⟨(some 2),.mv (.t 25),none⟩]) <|
 .ret,
 none⟩
def lQ:aN:=⟨1,58,[(2,none)],
 .seq (.region [
 ⟨(some 2),.mv (.c (.bool false)),none⟩]) <|
 .seq (.seq (.region [
 ⟨(some 3),.mv (.t 0),none⟩,
 ⟨(some 4),.len (.t 3),none⟩,
 ⟨(some 5),.bin .eql .int (.t 4) (.c (.int .i64 1)),none⟩]) <|
 .cond (.t 5)
 (.seq (.region [
  ⟨(some 6),.mv (.t 0),none⟩,
  ⟨(some 7),.indexAddr 7 (.t 6) (.c (.int .i64 0)),none⟩,
  ⟨(some 8),.fieldAddr 2 (.t 7),none⟩,
  ⟨(some 9),.fieldAddr 0 (.t 8),none⟩,
  ⟨(some 10),.load none (.t 9),none⟩,
  ⟨(some 11),.bin .neq .int (.t 10) (.c (.int .u8 6)),none⟩,
  ⟨(some 2),.mv (.t 11),none⟩]) <|
 .ret)
 (.skip)) <|
 .seq (.draw [
 ⟨(some 12),.mv (.t 0),none,[(0,none)],0,[(0,[])]⟩,
 ⟨(some 13),.len (.t 12),none,[(12,(some 0))],0,[(0,[])]⟩,
 ⟨(some 14),.bin .eql .int (.t 13) (.c (.int .i64 2)),none,[(13,(some 1))],0,[(0,[])]⟩,
 ⟨(some 15),.mv (.t 14),none,[(14,(some 2))],0,[(0,[])]⟩,
 ⟨(some 16),.mv (.t 0),(some (15,true)),[(0,none),(15,(some 3))],0,[(0,[])]⟩,
 ⟨(some 17),.indexAddr 7 (.t 16) (.c (.int .i64 0)),(some (15,true)),[(16,(some 4)),(15,(some 3))],0,[(0,[])]⟩,
 ⟨(some 18),.fieldAddr 2 (.t 17),(some (15,true)),[(17,(some 5)),(15,(some 3))],0,[(0,[])]⟩,
 ⟨(some 19),.fieldAddr 0 (.t 18),(some (15,true)),[(18,(some 6)),(15,(some 3))],0,[(0,[])]⟩,
 ⟨(some 20),.load none (.t 19),(some (15,true)),[(19,(some 7)),(15,(some 3))],0,[(0,[])]⟩,
 ⟨(some 21),.bin .eql .int (.t 20) (.c (.int .u8 6)),(some (15,true)),[(20,(some 8)),(15,(some 3))],0,[(0,[])]⟩,
 ⟨(some 22),.pick (.t 15) (.t 21) (.c (.bool false)),none,[(15,(some 3)),(21,(some 9))],0,[(0,[])]⟩,
 ⟨(some 23),.mv (.t 22),none,[(22,(some 10))],0,[(0,[])]⟩,
 ⟨(some 24),.mv (.t 0),(some (23,true)),[(0,none),(23,(some 11))],0,[(0,[])]⟩,
 ⟨(some 25),.indexAddr 7 (.t 24) (.c (.int .i64 1)),(some (23,true)),[(24,(some 12)),(23,(some 11))],0,[(0,[])]⟩,
 ⟨(some 26),.fieldAddr 2 (.t 25),(some (23,true)),[(25,(some 13)),(23,(some 11))],0,[(0,[])]⟩,
 ⟨(some 27),.fieldAddr 0 (.t 26),(some (23,true)),[(26,(some 14)),(23,(some 11))],0,[(0,[])]⟩,
 ⟨(some 28),.load none (.t 27),(some (23,true)),[(27,(some 15)),(23,(some 11))],0,[(0,[])]⟩,
 ⟨(some 29),.bin .eql .int (.t 28) (.c (.int .u8 6)),(some (23,true)),[(28,(some 16)),(23,(some 11))],0,[(0,[])]⟩,
 ⟨(some 30),.pick (.t 23) (.t 29) (.c (.bool false)),none,[(23,(some 11)),(29,(some 17))],0,[(0,[])]⟩,
 ⟨(some 31),.mv (.t 30),none,[(30,(some 18))],0,[(0,[])]⟩,
 ⟨(some 32),.mv (.t 0),(some (31,true)),[(0,none),(31,(some 19))],0,[(0,[]),(1,[])]⟩,
 ⟨(some 33),.indexAddr 7 (.t 32) (.c (.int .i64 1)),(some (31,true)),[(32,(some 20)),(31,(some 19))],0,[(0,[]),(1,[])]⟩,
 ⟨(some 34),.fieldAddr 2 (.t 33),(some (31,true)),[(33,(some 21)),(31,(some 19))],0,[(0,[]),(1,[])]⟩,
 ⟨(some 35),.fieldAddr 2 (.t 34),(some (31,true)),[(34,(some 22)),(31,(some 19))],0,[(0,[]),(1,[])]⟩,
 ⟨(some 36),.load none (.t 35),(some (31,true)),[(35,(some 23)),(31,(some 19))],0,[(0,[]),(1,[])]⟩,
 ⟨(some 37),.mv (.t 0),(some (31,true)),[(0,none),(31,(some 19))],0,[(0,[])]⟩,
 ⟨(some 38),.indexAddr 7 (.t 37) (.c (.int .i64 0)),(some (31,true)),[(37,(some 25)),(31,(some 19))],0,[(0,[])]⟩,
 ⟨(some 39),.fieldAddr 2 (.t 38),(some (31,true)),[(38,(some 26)),(31,(some 19))],0,[(0,[])]⟩,
 ⟨(some 40),.fieldAddr 2 (.t 39),(some (31,true)),[(39,(some 27)),(31,(some 19))],0,[(0,[])]⟩,
 ⟨(some 41),.load none (.t 40),(some (31,true)),[(40,(some 28)),(31,(some 19))],0,[(0,[])]⟩,
 ⟨(some 42),.call (.c (.fn (.func fk) [] [])) [(.t 41)],(some (31,true)),[(41,(some 29)),(31,(some 19))],2,[(0,[])]⟩,
 ⟨(some 43),.bin .eql .int (.t 36) (.t 42),(some (31,true)),[(36,(some 24)),(42,(some 30)),(31,(some 19))],0,[(1,[])]⟩,
 ⟨(some 44),.pick (.t 31) (.t 43) (.c (.bool false)),none,[(31,(some 19)),(43,(some 31))],0,[(1,[])]⟩,
 ⟨(some 45),.mv (.t 44),none,[(44,(some 32))],0,[(1,[])]⟩,
 ⟨(some 46),.mv (.t 0),(some (45,true)),[(0,none),(45,(some 33))],0,[(1,[])]⟩,
 ⟨(some 47),.indexAddr 7 (.t 46) (.c (.int .i64 0)),(some (45,true)),[(46,(some 34)),(45,(some 33))],0,[(1,[])]⟩,
 ⟨(some 48),.fieldAddr 2 (.t 47),(some (45,true)),[(47,(some 35)),(45,(some 33))],0,[(1,[])]⟩,
 ⟨(some 49),.fieldAddr 3 (.t 48),(some (45,true)),[(48,(some 36)),(45,(some 33))],0,[(1,[])]⟩,
 ⟨(some 50),.load none (.t 49),(some (45,true)),[(49,(some 37)),(45,(some 33))],0,[(1,[])]⟩,
 ⟨(some 51),.mv (.t 0),(some (45,true)),[(0,none),(45,(some 33))],0,[(1,[])]⟩,
 ⟨(some 52),.indexAddr 7 (.t 51) (.c (.int .i64 1)),(some (45,true)),[(51,(some 39)),(45,(some 33))],0,[(1,[])]⟩,
 ⟨(some 53),.fieldAddr 2 (.t 52),(some (45,true)),[(52,(some 40)),(45,(some 33))],0,[(1,[])]⟩,
 ⟨(some 54),.fieldAddr 3 (.t 53),(some (45,true)),[(53,(some 41)),(45,(some 33))],0,[(1,[])]⟩,
 ⟨(some 55),.load none (.t 54),(some (45,true)),[(54,(some 42)),(45,(some 33))],0,[(1,[])]⟩,
 ⟨(some 56),.call (.c (.fn (.func ai) [] [])) [(.t 50),(.t 55),(.c (.fn (.func fS) [] []))],(some (45,true)),[(50,(some 38)),(55,(some 43)),(45,(some 33))],2,[(1,[])]⟩,
 ⟨(some 57),.pick (.t 45) (.t 56) (.c (.bool false)),none,[(45,(some 33)),(56,(some 44))],0,[(2,[])]⟩,
 ⟨(some 2),.mv (.t 57),none,[(57,(some 45))],0,[(2,[])]⟩] []) <|
 .ret,
 none⟩
def ji:aN:=⟨1,8,[(2,none)],
 .seq (.region [
 ⟨(some 2),.mv (.c (.int .i64 0)),none⟩]) <|
 .seq (.cond (.c (.bool false))
 (.seq (.region [
  ⟨(some 3),.mv (.t 0),none⟩,
  ⟨(some 4),.conv .u32 (.t 3),none⟩,
  ⟨(some 5),.call (.c (.fn (.func fQ) [] [])) [(.t 4)],none⟩,
  ⟨(some 2),.mv (.t 5),none⟩]) <|
 .ret)
 (.skip)) <|
 .seq (.region [
 ⟨(some 6),.mv (.t 0),none⟩,
 ⟨(some 7),.call (.c (.fn (.func dc) [] [])) [(.t 6)],none⟩,
 ⟨(some 2),.mv (.t 7),none⟩]) <|
 .ret,
 none⟩
def dQ:aN:=⟨4,134,[],
 .seq (.region [
 ⟨(some 8),.mv (.c (.bool true)),none⟩]) <|
 .seq (.region [
 ⟨(some 9),.mv (.c (.bool true)),none⟩]) <|
 dN 0 (.block 1 (.seq (.region [
  ⟨(some 19),.mv (.t 2),none⟩,
  ⟨(some 20),.mv (.t 1),none⟩,
  ⟨(some 21),.bin .sub .int (.t 19) (.t 20),none⟩,
  ⟨(some 10),.mv (.t 21),none⟩]) <|
  .seq (.seq (.region [
  ⟨(some 22),.mv (.t 10),none⟩,
  ⟨(some 23),.bin .leq .int (.t 22) (.c (.int .i64 12)),none⟩]) <|
  .cond (.t 23)
  (.seq (.region [
   ⟨(some 24),.mv (.t 0),none⟩,
   ⟨(some 25),.mv (.t 1),none⟩,
   ⟨(some 26),.mv (.t 2),none⟩,
   ⟨(some 27),.call (.c (.fn (.func aW) [] [])) [(.t 24),(.t 25),(.t 26)],none⟩]) <|
  .ret)
  (.skip)) <|
  .seq (.seq (.region [
  ⟨(some 28),.mv (.t 3),none⟩,
  ⟨(some 29),.bin .eql .int (.t 28) (.c (.int .i64 0)),none⟩]) <|
  .cond (.t 29)
  (.seq (.region [
   ⟨(some 30),.mv (.t 0),none⟩,
   ⟨(some 31),.mv (.t 1),none⟩,
   ⟨(some 32),.mv (.t 2),none⟩,
   ⟨(some 33),.call (.c (.fn (.func bJ) [] [])) [(.t 30),(.t 31),(.t 32)],none⟩]) <|
  .ret)
  (.skip)) <|
  .seq (.seq (.region [
  ⟨(some 34),.mv (.t 8),none⟩,
  ⟨(some 35),.un .not (.t 34),none⟩]) <|
  .cond (.t 35)
  (.seq (.region [
   ⟨(some 36),.mv (.t 0),none⟩,
   ⟨(some 37),.mv (.t 1),none⟩,
   ⟨(some 38),.mv (.t 2),none⟩,
   ⟨(some 39),.call (.c (.fn (.func bp) [] [])) [(.t 36),(.t 37),(.t 38)],none⟩]) <|
  .region [
   ⟨(some 40),.mv (.t 3),none⟩,
   ⟨(some 41),.bin .sub .int (.t 40) (.c (.int .i64 1)),none⟩,
   ⟨(some 3),.mv (.t 41),none⟩])
  (.skip)) <|
  .seq (.region [
  ⟨(some 43),.mv (.t 0),none⟩,
  ⟨(some 44),.mv (.t 1),none⟩,
  ⟨(some 45),.mv (.t 2),none⟩,
  ⟨(some 46),.call (.c (.fn (.func bw) [] [])) [(.t 43),(.t 44),(.t 45)],none⟩,
  ⟨(some 42),.mv (.t 46),none⟩,
  ⟨(some 47),.extract 0 (.t 42),none⟩,
  ⟨(some 48),.extract 1 (.t 42),none⟩,
  ⟨(some 11),.mv (.t 47),none⟩,
  ⟨(some 12),.mv (.t 48),none⟩]) <|
  .seq (.seq (.region [
  ⟨(some 49),.mv (.t 12),none⟩,
  ⟨(some 50),.bin .eql .int (.t 49) (.c (.int .i64 2)),none⟩]) <|
  .cond (.t 50)
  (.seq (.region [
   ⟨(some 51),.mv (.t 0),none⟩,
   ⟨(some 52),.mv (.t 1),none⟩,
   ⟨(some 53),.mv (.t 2),none⟩,
   ⟨(some 54),.call (.c (.fn (.func bq) [] [])) [(.t 51),(.t 52),(.t 53)],none⟩]) <|
  .seq (.region [
   ⟨(some 55),.mv (.t 2),none⟩,
   ⟨(some 56),.bin .sub .int (.t 55) (.c (.int .i64 1)),none⟩,
   ⟨(some 57),.mv (.t 11),none⟩,
   ⟨(some 58),.mv (.t 1),none⟩,
   ⟨(some 59),.bin .sub .int (.t 57) (.t 58),none⟩,
   ⟨(some 60),.bin .sub .int (.t 56) (.t 59),none⟩,
   ⟨(some 11),.mv (.t 60),none⟩]) <|
  .region [
   ⟨(some 12),.mv (.c (.int .i64 1)),none⟩])
  (.skip)) <|
  .seq (.seq (.region [
  ⟨(some 61),.mv (.t 8),none⟩,
  ⟨(some 62),.mv (.t 61),none⟩,
  ⟨(some 63),.mv (.t 9),(some (62,true))⟩,
  ⟨(some 64),.pick (.t 62) (.t 63) (.c (.bool false)),none⟩,
  ⟨(some 65),.mv (.t 64),none⟩,
  ⟨(some 66),.mv (.t 12),(some (65,true))⟩,
  ⟨(some 67),.bin .eql .int (.t 66) (.c (.int .i64 1)),(some (65,true))⟩,
  ⟨(some 68),.pick (.t 65) (.t 67) (.c (.bool false)),none⟩]) <|
  .cond (.t 68)
  (.seq (.region [
   ⟨(some 69),.mv (.t 0),none⟩,
   ⟨(some 70),.mv (.t 1),none⟩,
   ⟨(some 71),.mv (.t 2),none⟩,
   ⟨(some 72),.call (.c (.fn (.func aU) [] [])) [(.t 69),(.t 70),(.t 71)],none⟩]) <|
  .cond (.t 72)
   (.ret)
   (.skip))
  (.skip)) <|
  .seq (.seq (.draw [
  ⟨(some 73),.mv (.t 1),none,[(1,none)],0,[(0,[])]⟩,
  ⟨(some 74),.bin .gtr .int (.t 73) (.c (.int .i64 0)),none,[(73,(some 0))],0,[(0,[])]⟩,
  ⟨(some 75),.mv (.t 74),none,[(74,(some 1))],0,[(0,[])]⟩,
  ⟨(some 76),.mv (.t 0),(some (75,true)),[(0,none),(75,(some 2))],0,[(0,[])]⟩,
  ⟨(some 77),.mv (.t 1),(some (75,true)),[(1,none),(75,(some 2))],0,[(0,[])]⟩,
  ⟨(some 78),.bin .sub .int (.t 77) (.c (.int .i64 1)),(some (75,true)),[(77,(some 4)),(75,(some 2))],0,[(0,[])]⟩,
  ⟨(some 79),.indexAddr 1 (.t 76) (.t 78),(some (75,true)),[(76,(some 3)),(78,(some 5)),(75,(some 2))],0,[(0,[])]⟩,
  ⟨(some 80),.load none (.t 79),(some (75,true)),[(79,(some 6)),(75,(some 2))],0,[(0,[])]⟩,
  ⟨(some 81),.mv (.t 0),(some (75,true)),[(0,none),(75,(some 2))],0,[(0,[])]⟩,
  ⟨(some 82),.mv (.t 11),(some (75,true)),[(11,none),(75,(some 2))],0,[(0,[])]⟩,
  ⟨(some 83),.indexAddr 1 (.t 81) (.t 82),(some (75,true)),[(81,(some 8)),(82,(some 9)),(75,(some 2))],0,[(0,[])]⟩,
  ⟨(some 84),.load none (.t 83),(some (75,true)),[(83,(some 10)),(75,(some 2))],0,[(0,[])]⟩,
  ⟨(some 85),.call (.c (.fn (.func aD) [] [])) [(.t 80),(.t 84)],(some (75,true)),[(80,(some 7)),(84,(some 11)),(75,(some 2))],2,[(0,[])]⟩,
  ⟨(some 86),.un .not (.t 85),(some (75,true)),[(85,(some 12)),(75,(some 2))],0,[(1,[])]⟩,
  ⟨(some 87),.pick (.t 75) (.t 86) (.c (.bool false)),none,[(75,(some 2)),(86,(some 13))],0,[(1,[])]⟩] []) <|
  .cond (.t 87)
  (.seq (.region [
   ⟨(some 88),.mv (.t 0),none⟩,
   ⟨(some 89),.mv (.t 1),none⟩,
   ⟨(some 90),.mv (.t 2),none⟩,
   ⟨(some 91),.mv (.t 11),none⟩,
   ⟨(some 92),.call (.c (.fn (.func bk) [] [])) [(.t 88),(.t 89),(.t 90),(.t 91)],none⟩,
   ⟨(some 13),.mv (.t 92),none⟩]) <|
  .seq (.region [
   ⟨(some 93),.mv (.t 13),none⟩,
   ⟨(some 1),.mv (.t 93),none⟩]) <|
  .exit 1)
  (.skip)) <|
  .seq (.region [
  ⟨(some 95),.mv (.t 0),none⟩,
  ⟨(some 96),.mv (.t 1),none⟩,
  ⟨(some 97),.mv (.t 2),none⟩,
  ⟨(some 98),.mv (.t 11),none⟩,
  ⟨(some 99),.call (.c (.fn (.func bH) [] [])) [(.t 95),(.t 96),(.t 97),(.t 98)],none⟩,
  ⟨(some 94),.mv (.t 99),none⟩,
  ⟨(some 100),.extract 0 (.t 94),none⟩,
  ⟨(some 101),.extract 1 (.t 94),none⟩,
  ⟨(some 14),.mv (.t 100),none⟩,
  ⟨(some 15),.mv (.t 101),none⟩]) <|
  .seq (.region [
  ⟨(some 102),.mv (.t 15),none⟩,
  ⟨(some 9),.mv (.t 102),none⟩]) <|
  .seq (.region [
  ⟨(some 103),.mv (.t 14),none⟩,
  ⟨(some 104),.mv (.t 1),none⟩,
  ⟨(some 105),.bin .sub .int (.t 103) (.t 104),none⟩,
  ⟨(some 106),.mv (.t 2),none⟩,
  ⟨(some 107),.mv (.t 14),none⟩,
  ⟨(some 108),.bin .sub .int (.t 106) (.t 107),none⟩,
  ⟨(some 16),.mv (.t 105),none⟩,
  ⟨(some 17),.mv (.t 108),none⟩]) <|
  .seq (.region [
  ⟨(some 109),.mv (.t 10),none⟩,
  ⟨(some 110),.bin .quo .int (.t 109) (.c (.int .i64 8)),none⟩,
  ⟨(some 18),.mv (.t 110),none⟩]) <|
  .seq (.region [
  ⟨(some 111),.mv (.t 16),none⟩,
  ⟨(some 112),.mv (.t 17),none⟩,
  ⟨(some 113),.bin .lss .int (.t 111) (.t 112),none⟩]) <|
  .cond (.t 113)
  (.seq (.region [
   ⟨(some 114),.mv (.t 16),none⟩,
   ⟨(some 115),.mv (.t 18),none⟩,
   ⟨(some 116),.bin .geq .int (.t 114) (.t 115),none⟩,
   ⟨(some 8),.mv (.t 116),none⟩]) <|
  .seq (.region [
   ⟨(some 117),.mv (.t 0),none⟩,
   ⟨(some 118),.mv (.t 1),none⟩,
   ⟨(some 119),.mv (.t 14),none⟩,
   ⟨(some 120),.mv (.t 3),none⟩,
   ⟨(some 121),.call (.c (.fn (.func aS) [] [])) [(.t 117),(.t 118),(.t 119),(.t 120)],none⟩]) <|
  .region [
   ⟨(some 122),.mv (.t 14),none⟩,
   ⟨(some 123),.bin .add .int (.t 122) (.c (.int .i64 1)),none⟩,
   ⟨(some 1),.mv (.t 123),none⟩])
  (.seq (.region [
   ⟨(some 124),.mv (.t 17),none⟩,
   ⟨(some 125),.mv (.t 18),none⟩,
   ⟨(some 126),.bin .geq .int (.t 124) (.t 125),none⟩,
   ⟨(some 8),.mv (.t 126),none⟩]) <|
  .seq (.region [
   ⟨(some 127),.mv (.t 0),none⟩,
   ⟨(some 128),.mv (.t 14),none⟩,
   ⟨(some 129),.bin .add .int (.t 128) (.c (.int .i64 1)),none⟩,
   ⟨(some 130),.mv (.t 2),none⟩,
   ⟨(some 131),.mv (.t 3),none⟩,
   ⟨(some 132),.call (.c (.fn (.func aS) [] [])) [(.t 127),(.t 129),(.t 130),(.t 131)],none⟩]) <|
  .region [
   ⟨(some 133),.mv (.t 14),none⟩,
   ⟨(some 2),.mv (.t 133),none⟩]))),
 none⟩
def fK:aN:=⟨2,13,[(4,none)],
 .seq (.region [
 ⟨(some 2),.box ah (.t 0),none⟩,
 ⟨(some 4),.mv (.c (.bool false)),none⟩]) <|
 .seq (.region [
 ⟨(some 5),.mv (.t 1),none⟩,
 ⟨(some 6),.bin .geq .int (.t 5) (.c (.int .i64 0)),none⟩,
 ⟨(some 7),.mv (.t 6),none⟩,
 ⟨(some 8),.mv (.t 1),(some (7,true))⟩,
 ⟨(some 9),.fieldAddr 2 (.t 2),(some (7,true))⟩,
 ⟨(some 10),.load none (.t 9),(some (7,true))⟩,
 ⟨(some 11),.bin .lss .int (.t 8) (.t 10),(some (7,true))⟩,
 ⟨(some 12),.pick (.t 7) (.t 11) (.c (.bool false)),none⟩,
 ⟨(some 4),.mv (.t 12),none⟩]) <|
 .ret,
 none⟩
def c_facetroomref13_mayDo:aN:=⟨2,91,[(4,none)],
 .seq (.region [
 ⟨(some 2),.box ah (.t 0),none⟩,
 ⟨(some 3),.box bR (.t 1),none⟩,
 ⟨(some 4),.mv (.c (.bool false)),none⟩]) <|
 .seq (.region [
 ⟨(some 5),.mv (.c (.int .i64 0)),none⟩,
 ⟨(some 6),.mv (.c (.int .i64 1)),none⟩]) <|
 .seq (.seq (.region [
 ⟨(some 9),.fieldAddr 0 (.t 3),none⟩,
 ⟨(some 10),.load none (.t 9),none⟩]) <|
 .block 0 (.seq (.region [
  ⟨(some 12),.bin .eql .int (.t 10) (.c (.int .u8 3)),none⟩,
  ⟨(some 11),.mv (.t 12),none⟩]) <|
 .cond (.t 11)
  (.draw [
  ⟨(some 13),.fieldAddr 0 (.t 2),none,[(2,none)],0,[(0,[])]⟩,
  ⟨(some 14),.load none (.t 13),none,[(13,(some 0))],0,[(0,[])]⟩,
  ⟨(some 5),.mv (.c (.int .i64 1)),none,[],0,[(0,[])]⟩,
  ⟨(some 6),.mv (.t 14),none,[(14,(some 1))],0,[(0,[])]⟩] [])
  (.seq (.region [
  ⟨(some 16),.bin .eql .int (.t 10) (.c (.int .u8 5)),none⟩,
  ⟨(some 15),.mv (.t 16),none⟩]) <|
  .cond (.t 15)
  (.region [
   ⟨(some 17),.fieldAddr 0 (.t 2),none⟩,
   ⟨(some 18),.load none (.t 17),none⟩,
   ⟨(some 6),.mv (.t 18),none⟩])
  (.seq (.region [
   ⟨(some 20),.bin .eql .int (.t 10) (.c (.int .u8 4)),none⟩,
   ⟨(some 19),.mv (.t 20),none⟩]) <|
  .cond (.t 19)
   (.draw [
   ⟨(some 21),.fieldAddr 1 (.t 2),none,[(2,none)],0,[(0,[])]⟩,
   ⟨(some 22),.load none (.t 21),none,[(21,(some 0))],0,[(0,[])]⟩,
   ⟨(some 23),.len (.t 22),none,[(22,(some 1))],0,[(0,[])]⟩,
   ⟨(some 5),.mv (.c (.int .i64 2)),none,[],0,[(0,[])]⟩,
   ⟨(some 6),.mv (.t 23),none,[(23,(some 2))],0,[(0,[])]⟩] [])
   (.seq (.region [
   ⟨(some 25),.bin .eql .int (.t 10) (.c (.int .u8 6)),none⟩,
   ⟨(some 24),.mv (.t 25),none⟩]) <|
   .cond (.t 24)
   (.region [
    ⟨(some 5),.mv (.c (.int .i64 2)),none⟩])
   (.skip)))))) <|
 .seq (.region [
 ⟨(some 26),.fieldAddr 0 (.t 3),none⟩,
 ⟨(some 27),.load none (.t 26),none⟩,
 ⟨(some 28),.bin .eql .int (.t 27) (.c (.int .u8 6)),none⟩,
 ⟨(some 7),.mv (.t 28),none⟩]) <|
 .seq (.seq (.region [
 ⟨(some 29),.fieldAddr 0 (.t 3),none⟩,
 ⟨(some 30),.load none (.t 29),none⟩,
 ⟨(some 31),.bin .lss .int (.t 30) (.c (.int .u8 1)),none⟩,
 ⟨(some 32),.mv (.t 31),none⟩,
 ⟨(some 33),.fieldAddr 0 (.t 3),(some (32,false))⟩,
 ⟨(some 34),.load none (.t 33),(some (32,false))⟩,
 ⟨(some 35),.bin .gtr .int (.t 34) (.c (.int .u8 8)),(some (32,false))⟩,
 ⟨(some 36),.pick (.t 32) (.c (.bool true)) (.t 35),none⟩,
 ⟨(some 37),.mv (.t 36),none⟩,
 ⟨(some 38),.fieldAddr 1 (.t 3),(some (37,false))⟩,
 ⟨(some 39),.load none (.t 38),(some (37,false))⟩,
 ⟨(some 40),.bin .lss .int (.t 39) (.c (.int .i64 0)),(some (37,false))⟩,
 ⟨(some 41),.pick (.t 37) (.c (.bool true)) (.t 40),none⟩,
 ⟨(some 42),.mv (.t 41),none⟩,
 ⟨(some 43),.fieldAddr 1 (.t 3),(some (42,false))⟩,
 ⟨(some 44),.load none (.t 43),(some (42,false))⟩,
 ⟨(some 45),.mv (.t 6),(some (42,false))⟩,
 ⟨(some 46),.bin .geq .int (.t 44) (.t 45),(some (42,false))⟩,
 ⟨(some 47),.pick (.t 42) (.c (.bool true)) (.t 46),none⟩,
 ⟨(some 48),.mv (.t 47),none⟩,
 ⟨(some 49),.fieldAddr 3 (.t 3),(some (48,false))⟩,
 ⟨(some 50),.load none (.t 49),(some (48,false))⟩,
 ⟨(some 51),.len (.t 50),(some (48,false))⟩,
 ⟨(some 52),.mv (.t 5),(some (48,false))⟩,
 ⟨(some 53),.bin .neq .int (.t 51) (.t 52),(some (48,false))⟩,
 ⟨(some 54),.pick (.t 48) (.c (.bool true)) (.t 53),none⟩,
 ⟨(some 55),.mv (.t 54),none⟩,
 ⟨(some 56),.mv (.t 7),(some (55,false))⟩,
 ⟨(some 57),.fieldAddr 2 (.t 3),(some (55,false))⟩,
 ⟨(some 58),.load none (.t 57),(some (55,false))⟩,
 ⟨(some 59),.bin .geq .int (.t 58) (.c (.int .u8 3)),(some (55,false))⟩,
 ⟨(some 60),.mv (.t 59),(some (55,false))⟩,
 ⟨(some 61),.fieldAddr 2 (.t 3),(some (60,true))⟩,
 ⟨(some 62),.load none (.t 61),(some (60,true))⟩,
 ⟨(some 63),.bin .leq .int (.t 62) (.c (.int .u8 8)),(some (60,true))⟩,
 ⟨(some 64),.pick (.t 60) (.t 63) (.c (.bool false)),(some (55,false))⟩,
 ⟨(some 65),.bin .neq .bool (.t 56) (.t 64),(some (55,false))⟩,
 ⟨(some 66),.pick (.t 55) (.c (.bool true)) (.t 65),none⟩,
 ⟨(some 67),.mv (.t 66),none⟩,
 ⟨(some 68),.mv (.t 7),(some (67,false))⟩,
 ⟨(some 69),.un .not (.t 68),(some (67,false))⟩,
 ⟨(some 70),.mv (.t 69),(some (67,false))⟩,
 ⟨(some 71),.fieldAddr 2 (.t 3),(some (70,true))⟩,
 ⟨(some 72),.load none (.t 71),(some (70,true))⟩,
 ⟨(some 73),.bin .neq .int (.t 72) (.c (.int .u8 0)),(some (70,true))⟩,
 ⟨(some 74),.pick (.t 70) (.t 73) (.c (.bool false)),(some (67,false))⟩,
 ⟨(some 75),.pick (.t 67) (.c (.bool true)) (.t 74),none⟩]) <|
 .cond (.t 75)
 (.seq (.region [
  ⟨(some 4),.mv (.c (.bool false)),none⟩]) <|
 .ret)
 (.skip)) <|
 .seq (.seq (.region [
 ⟨(some 8),.mv (.c (.int .i64 0)),none⟩]) <|
 dN 1 (.seq (.seq (.region [
  ⟨(some 76),.mv (.t 8),none⟩,
  ⟨(some 77),.fieldAddr 3 (.t 3),none⟩,
  ⟨(some 78),.load none (.t 77),none⟩,
  ⟨(some 79),.len (.t 78),none⟩,
  ⟨(some 80),.bin .lss .int (.t 76) (.t 79),none⟩]) <|
 .cond (.t 80)
  (.skip)
  (.exit 1)) <|
 .seq (.block 2 (.seq (.draw [
  ⟨(some 83),.load (some 6) (.t 2),none,[(2,none)],0,[(0,[])]⟩,
  ⟨(some 84),.fieldAddr 3 (.t 3),none,[(3,none)],0,[(0,[])]⟩,
  ⟨(some 85),.load none (.t 84),none,[(84,(some 1))],0,[(0,[])]⟩,
  ⟨(some 86),.mv (.t 8),none,[(8,none)],0,[(0,[])]⟩,
  ⟨(some 87),.indexAddr 5 (.t 85) (.t 86),none,[(85,(some 2)),(86,(some 3))],0,[(0,[])]⟩,
  ⟨(some 88),.load (some 5) (.t 87),none,[(87,(some 4))],0,[(0,[])]⟩,
  ⟨(some 89),.call (.c (.fn (.func bz) [] [])) [(.t 83),(.t 88)],none,[(83,(some 0)),(88,(some 5))],2,[(0,[])]⟩,
  ⟨(some 90),.un .not (.t 89),none,[(89,(some 6))],0,[(1,[])]⟩] []) <|
  .cond (.t 90)
  (.seq (.region [
   ⟨(some 4),.mv (.c (.bool false)),none⟩]) <|
  .ret)
  (.skip))) <|
 .region [
  ⟨(some 81),.mv (.t 8),none⟩,
  ⟨(some 82),.bin .add .int (.t 81) (.c (.int .i64 1)),none⟩,
  ⟨(some 8),.mv (.t 82),none⟩])) <|
 .seq (.region [
 ⟨(some 4),.mv (.c (.bool true)),none⟩]) <|
 .ret,
 none⟩
def gB:aN:=⟨2,27,[(4,none)],
 .seq (.region [
 ⟨(some 2),.box ah (.t 0),none⟩,
 ⟨(some 4),.mv (.c .nilSl),none⟩]) <|
 .seq (.region [
 ⟨(some 5),.mv (.c .nilSl),none⟩]) <|
 .seq (.seq (.region [
 ⟨(some 6),.mv (.c (.int .i64 0)),none⟩]) <|
 dN 0 (.seq (.seq (.region [
  ⟨(some 7),.mv (.t 6),none⟩,
  ⟨(some 8),.fieldAddr 5 (.t 2),none⟩,
  ⟨(some 9),.load none (.t 8),none⟩,
  ⟨(some 10),.len (.t 9),none⟩,
  ⟨(some 11),.bin .lss .int (.t 7) (.t 10),none⟩]) <|
 .cond (.t 11)
  (.skip)
  (.exit 0)) <|
 .seq (.block 1 (.seq (.region [
  ⟨(some 14),.fieldAddr 5 (.t 2),none⟩,
  ⟨(some 15),.load none (.t 14),none⟩,
  ⟨(some 16),.mv (.t 6),none⟩,
  ⟨(some 17),.indexAddr 7 (.t 15) (.t 16),none⟩,
  ⟨(some 18),.fieldAddr 0 (.t 17),none⟩,
  ⟨(some 19),.load none (.t 18),none⟩,
  ⟨(some 20),.mv (.t 1),none⟩,
  ⟨(some 21),.bin .eql .int (.t 19) (.t 20),none⟩]) <|
  .cond (.t 21)
  (.region [
   ⟨(some 22),.mv (.t 5),none⟩,
   ⟨(some 23),.mv (.t 6),none⟩,
   ⟨(some 24),.buildSlice fM 1 [(.int .i64 0)] 1 [((0,1),(.t 23))],none⟩,
   ⟨(some 25),.append 1 8 fM [(.int .i64 0)] (.t 22) (.t 24),none⟩,
   ⟨(some 5),.mv (.t 25),none⟩])
  (.skip))) <|
 .region [
  ⟨(some 12),.mv (.t 6),none⟩,
  ⟨(some 13),.bin .add .int (.t 12) (.c (.int .i64 1)),none⟩,
  ⟨(some 6),.mv (.t 13),none⟩])) <|
 .seq (.region [
 ⟨(some 26),.mv (.t 5),none⟩,
 ⟨(some 4),.mv (.t 26),none⟩]) <|
 .ret,
 none⟩
def c_facetroomref13_mayOut:aN:=⟨2,60,[(4,none)],
 .seq (.region [
 ⟨(some 2),.box ah (.t 0),none⟩,
 ⟨(some 4),.mv (.c (.bool false)),none⟩]) <|
 .seq (.seq (.region [
 ⟨(some 7),.mv (.t 1),none⟩,
 ⟨(some 8),.len (.t 7),none⟩,
 ⟨(some 9),.bin .eql .int (.t 8) (.c (.int .i64 0)),none⟩]) <|
 .cond (.t 9)
 (.seq (.region [
  ⟨(some 4),.mv (.c (.bool true)),none⟩]) <|
 .ret)
 (.skip)) <|
 .seq (.draw [
 ⟨(some 10),.fieldAddr 5 (.t 2),none,[(2,none)],0,[(0,[])]⟩,
 ⟨(some 11),.load none (.t 10),none,[(10,(some 0))],0,[(0,[])]⟩,
 ⟨(some 12),.mv (.t 1),none,[(1,none)],0,[(0,[])]⟩,
 ⟨(some 13),.indexAddr 1 (.t 12) (.c (.int .i64 0)),none,[(12,(some 2))],0,[(0,[])]⟩,
 ⟨(some 14),.load none (.t 13),none,[(13,(some 3))],0,[(0,[])]⟩,
 ⟨(some 15),.indexAddr 7 (.t 11) (.t 14),none,[(11,(some 1)),(14,(some 4))],0,[(0,[])]⟩,
 ⟨(some 16),.fieldAddr 2 (.t 15),none,[(15,(some 5))],0,[(0,[])]⟩,
 ⟨(some 17),.load (some 4) (.t 16),none,[(16,(some 6))],0,[(0,[])]⟩,
 ⟨(some 5),.alloc bR [(.int .u8 0),(.int .i64 0),(.int .u8 0),.nilSl],none,[],1,[(0,[])]⟩,
 ⟨none,.store 4 (.t 5) (.t 17),none,[(5,(some 8)),(17,(some 7))],2,[(0,[8])]⟩] []) <|
 .seq (.seq (.region [
 ⟨(some 18),.mv (.t 1),none⟩,
 ⟨(some 19),.len (.t 18),none⟩,
 ⟨(some 20),.bin .eql .int (.t 19) (.c (.int .i64 1)),none⟩]) <|
 .cond (.t 20)
 (.seq (.region [
  ⟨(some 21),.fieldAddr 0 (.t 5),none⟩,
  ⟨(some 22),.load none (.t 21),none⟩,
  ⟨(some 23),.bin .neq .int (.t 22) (.c (.int .u8 6)),none⟩,
  ⟨(some 4),.mv (.t 23),none⟩]) <|
 .ret)
 (.skip)) <|
 .seq (.draw [
 ⟨(some 24),.fieldAddr 5 (.t 2),none,[(2,none)],0,[(0,[])]⟩,
 ⟨(some 25),.load none (.t 24),none,[(24,(some 0))],0,[(0,[])]⟩,
 ⟨(some 26),.mv (.t 1),none,[(1,none)],0,[(0,[])]⟩,
 ⟨(some 27),.indexAddr 1 (.t 26) (.c (.int .i64 1)),none,[(26,(some 2))],0,[(0,[])]⟩,
 ⟨(some 28),.load none (.t 27),none,[(27,(some 3))],0,[(0,[])]⟩,
 ⟨(some 29),.indexAddr 7 (.t 25) (.t 28),none,[(25,(some 1)),(28,(some 4))],0,[(0,[])]⟩,
 ⟨(some 30),.fieldAddr 2 (.t 29),none,[(29,(some 5))],0,[(0,[])]⟩,
 ⟨(some 31),.load (some 4) (.t 30),none,[(30,(some 6))],0,[(0,[])]⟩,
 ⟨(some 6),.alloc bR [(.int .u8 0),(.int .i64 0),(.int .u8 0),.nilSl],none,[],1,[(0,[])]⟩,
 ⟨none,.store 4 (.t 6) (.t 31),none,[(6,(some 8)),(31,(some 7))],2,[(0,[8])]⟩] []) <|
 .seq (.draw [
 ⟨(some 32),.mv (.t 1),none,[(1,none)],0,[(0,[])]⟩,
 ⟨(some 33),.len (.t 32),none,[(32,(some 0))],0,[(0,[])]⟩,
 ⟨(some 34),.bin .eql .int (.t 33) (.c (.int .i64 2)),none,[(33,(some 1))],0,[(0,[])]⟩,
 ⟨(some 35),.mv (.t 34),none,[(34,(some 2))],0,[(0,[])]⟩,
 ⟨(some 36),.fieldAddr 0 (.t 5),(some (35,true)),[(5,none),(35,(some 3))],0,[(0,[])]⟩,
 ⟨(some 37),.load none (.t 36),(some (35,true)),[(36,(some 4)),(35,(some 3))],0,[(0,[])]⟩,
 ⟨(some 38),.bin .eql .int (.t 37) (.c (.int .u8 6)),(some (35,true)),[(37,(some 5)),(35,(some 3))],0,[(0,[])]⟩,
 ⟨(some 39),.pick (.t 35) (.t 38) (.c (.bool false)),none,[(35,(some 3)),(38,(some 6))],0,[(0,[])]⟩,
 ⟨(some 40),.mv (.t 39),none,[(39,(some 7))],0,[(0,[])]⟩,
 ⟨(some 41),.fieldAddr 0 (.t 6),(some (40,true)),[(6,none),(40,(some 8))],0,[(0,[])]⟩,
 ⟨(some 42),.load none (.t 41),(some (40,true)),[(41,(some 9)),(40,(some 8))],0,[(0,[])]⟩,
 ⟨(some 43),.bin .eql .int (.t 42) (.c (.int .u8 6)),(some (40,true)),[(42,(some 10)),(40,(some 8))],0,[(0,[])]⟩,
 ⟨(some 44),.pick (.t 40) (.t 43) (.c (.bool false)),none,[(40,(some 8)),(43,(some 11))],0,[(0,[])]⟩,
 ⟨(some 45),.mv (.t 44),none,[(44,(some 12))],0,[(0,[])]⟩,
 ⟨(some 46),.fieldAddr 2 (.t 6),(some (45,true)),[(6,none),(45,(some 13))],0,[(0,[]),(1,[])]⟩,
 ⟨(some 47),.load none (.t 46),(some (45,true)),[(46,(some 14)),(45,(some 13))],0,[(0,[]),(1,[])]⟩,
 ⟨(some 48),.fieldAddr 2 (.t 5),(some (45,true)),[(5,none),(45,(some 13))],0,[(0,[])]⟩,
 ⟨(some 49),.load none (.t 48),(some (45,true)),[(48,(some 16)),(45,(some 13))],0,[(0,[])]⟩,
 ⟨(some 50),.call (.c (.fn (.func cn) [] [])) [(.t 49)],(some (45,true)),[(49,(some 17)),(45,(some 13))],2,[(0,[])]⟩,
 ⟨(some 51),.bin .eql .int (.t 47) (.t 50),(some (45,true)),[(47,(some 15)),(50,(some 18)),(45,(some 13))],0,[(1,[])]⟩,
 ⟨(some 52),.pick (.t 45) (.t 51) (.c (.bool false)),none,[(45,(some 13)),(51,(some 19))],0,[(1,[])]⟩,
 ⟨(some 53),.mv (.t 52),none,[(52,(some 20))],0,[(1,[])]⟩,
 ⟨(some 54),.fieldAddr 3 (.t 5),(some (53,true)),[(5,none),(53,(some 21))],0,[(1,[])]⟩,
 ⟨(some 55),.load none (.t 54),(some (53,true)),[(54,(some 22)),(53,(some 21))],0,[(1,[])]⟩,
 ⟨(some 56),.fieldAddr 3 (.t 6),(some (53,true)),[(6,none),(53,(some 21))],0,[(1,[])]⟩,
 ⟨(some 57),.load none (.t 56),(some (53,true)),[(56,(some 24)),(53,(some 21))],0,[(1,[])]⟩,
 ⟨(some 58),.call (.c (.fn (.func bY) [] [])) [(.t 55),(.t 57)],(some (53,true)),[(55,(some 23)),(57,(some 25)),(53,(some 21))],2,[(1,[])]⟩,
 ⟨(some 59),.pick (.t 53) (.t 58) (.c (.bool false)),none,[(53,(some 21)),(58,(some 26))],0,[(2,[])]⟩,
 ⟨(some 4),.mv (.t 59),none,[(59,(some 27))],0,[(2,[])]⟩] []) <|
 .ret,
 none⟩
def fW:aN:=⟨2,45,[(4,none)],
 .seq (.region [
 ⟨(some 2),.box ah (.t 0),none⟩,
 ⟨(some 4),.mv (.c (.bool false)),none⟩]) <|
 .seq (.region [
 ⟨(some 8),.mv (.t 1),none⟩,
 ⟨(some 5),.mv (.t 8),none⟩]) <|
 .seq (.seq (.region [
 ⟨(some 6),.mv (.c (.int .i64 0)),none⟩]) <|
 dN 0 (.seq (.seq (.region [
  ⟨(some 9),.mv (.t 6),none⟩,
  ⟨(some 10),.fieldAddr 5 (.t 2),none⟩,
  ⟨(some 11),.load none (.t 10),none⟩,
  ⟨(some 12),.len (.t 11),none⟩,
  ⟨(some 13),.bin .leq .int (.t 9) (.t 12),none⟩]) <|
 .cond (.t 13)
  (.skip)
  (.exit 0)) <|
 .seq (.block 1 (.seq (.region [
  ⟨(some 16),.load (some 6) (.t 2),none⟩,
  ⟨(some 17),.mv (.t 5),none⟩,
  ⟨(some 18),.call (.c (.fn (.func cC) [] [])) [(.t 16),(.t 17)],none⟩,
  ⟨(some 7),.mv (.t 18),none⟩]) <|
  .seq (.seq (.draw [
  ⟨(some 19),.mv (.t 7),none,[(7,none)],0,[(0,[])]⟩,
  ⟨(some 20),.len (.t 19),none,[(19,(some 0))],0,[(0,[])]⟩,
  ⟨(some 21),.bin .neq .int (.t 20) (.c (.int .i64 1)),none,[(20,(some 1))],0,[(0,[])]⟩,
  ⟨(some 22),.mv (.t 21),none,[(21,(some 2))],0,[(0,[])]⟩,
  ⟨(some 23),.fieldAddr 5 (.t 2),(some (22,false)),[(2,none),(22,(some 3))],0,[(0,[])]⟩,
  ⟨(some 24),.load none (.t 23),(some (22,false)),[(23,(some 4)),(22,(some 3))],0,[(0,[])]⟩,
  ⟨(some 25),.mv (.t 7),(some (22,false)),[(7,none),(22,(some 3))],0,[(0,[])]⟩,
  ⟨(some 26),.indexAddr 1 (.t 25) (.c (.int .i64 0)),(some (22,false)),[(25,(some 6)),(22,(some 3))],0,[(0,[])]⟩,
  ⟨(some 27),.load none (.t 26),(some (22,false)),[(26,(some 7)),(22,(some 3))],0,[(0,[])]⟩,
  ⟨(some 28),.indexAddr 7 (.t 24) (.t 27),(some (22,false)),[(24,(some 5)),(27,(some 8)),(22,(some 3))],0,[(0,[])]⟩,
  ⟨(some 29),.fieldAddr 2 (.t 28),(some (22,false)),[(28,(some 9)),(22,(some 3))],0,[(0,[])]⟩,
  ⟨(some 30),.fieldAddr 0 (.t 29),(some (22,false)),[(29,(some 10)),(22,(some 3))],0,[(0,[])]⟩,
  ⟨(some 31),.load none (.t 30),(some (22,false)),[(30,(some 11)),(22,(some 3))],0,[(0,[])]⟩,
  ⟨(some 32),.bin .neq .int (.t 31) (.c (.int .u8 1)),(some (22,false)),[(31,(some 12)),(22,(some 3))],0,[(0,[])]⟩,
  ⟨(some 33),.pick (.t 22) (.c (.bool true)) (.t 32),none,[(22,(some 3)),(32,(some 13))],0,[(0,[])]⟩] []) <|
  .cond (.t 33)
  (.seq (.region [
   ⟨(some 4),.mv (.c (.bool false)),none⟩]) <|
  .ret)
  (.skip)) <|
  .seq (.draw [
  ⟨(some 34),.fieldAddr 5 (.t 2),none,[(2,none)],0,[(0,[])]⟩,
  ⟨(some 35),.load none (.t 34),none,[(34,(some 0))],0,[(0,[])]⟩,
  ⟨(some 36),.mv (.t 7),none,[(7,none)],0,[(0,[])]⟩,
  ⟨(some 37),.indexAddr 1 (.t 36) (.c (.int .i64 0)),none,[(36,(some 2))],0,[(0,[])]⟩,
  ⟨(some 38),.load none (.t 37),none,[(37,(some 3))],0,[(0,[])]⟩,
  ⟨(some 39),.indexAddr 7 (.t 35) (.t 38),none,[(35,(some 1)),(38,(some 4))],0,[(0,[])]⟩,
  ⟨(some 40),.fieldAddr 1 (.t 39),none,[(39,(some 5))],0,[(0,[])]⟩,
  ⟨(some 41),.load none (.t 40),none,[(40,(some 6))],0,[(0,[])]⟩,
  ⟨(some 5),.mv (.t 41),none,[(41,(some 7))],0,[(0,[])]⟩] []) <|
  .seq (.region [
  ⟨(some 42),.mv (.t 5),none⟩,
  ⟨(some 43),.mv (.t 1),none⟩,
  ⟨(some 44),.bin .eql .int (.t 42) (.t 43),none⟩]) <|
  .cond (.t 44)
  (.seq (.region [
   ⟨(some 4),.mv (.c (.bool true)),none⟩]) <|
  .ret)
  (.skip))) <|
 .region [
  ⟨(some 14),.mv (.t 6),none⟩,
  ⟨(some 15),.bin .add .int (.t 14) (.c (.int .i64 1)),none⟩,
  ⟨(some 6),.mv (.t 15),none⟩])) <|
 .seq (.region [
 ⟨(some 4),.mv (.c (.bool false)),none⟩]) <|
 .ret,
 none⟩
def dR:aN:=⟨2,19,[(4,none)],
 .seq (.region [
 ⟨(some 4),.mv (.c (.int .i64 0)),none⟩]) <|
 .seq (.seq (.region [
 ⟨(some 6),.mv (.t 0),none⟩,
 ⟨(some 7),.len (.t 6),none⟩,
 ⟨(some 8),.mv (.c (.int .i64 0)),none⟩]) <|
 oS 0 1 8 7 9 18
 (.seq (.region [
  ⟨(some 10),.mv (.t 8),none⟩,
  ⟨(some 5),.mv (.t 10),none⟩]) <|
 .seq (.region [
  ⟨(some 11),.mv (.t 1),none⟩,
  ⟨(some 12),.mv (.t 0),none⟩,
  ⟨(some 13),.mv (.t 5),none⟩,
  ⟨(some 14),.indexAddr 1 (.t 12) (.t 13),none⟩,
  ⟨(some 15),.load none (.t 14),none⟩,
  ⟨(some 16),.call (.t 11) [(.t 15)],none⟩]) <|
 .cond (.t 16)
  (.seq (.region [
  ⟨(some 17),.mv (.t 5),none⟩,
  ⟨(some 4),.mv (.t 17),none⟩]) <|
  .ret)
  (.skip))) <|
 .seq (.region [
 ⟨(some 4),.mv (.c (.int .i64 (-1))),none⟩]) <|
 .ret,
 none⟩
def c_flow_deed:aN:=⟨2,75,[(4,none)],
 .seq (.region [
 ⟨(some 2),.box ah (.t 0),none⟩,
 ⟨(some 3),.box bR (.t 1),none⟩,
 ⟨(some 4),.mv (.c (.bool false)),none⟩]) <|
 .seq (.draw [
 ⟨(some 8),.build [(.int .i64 0),(.int .i64 0),(.int .i64 0),(.int .i64 0),(.int .i64 0),(.int .i64 0),(.int .i64 0),(.int .i64 0),(.int .i64 0)] [((3,1),(.c (.int .i64 1))),((4,1),(.c (.int .i64 2))),((6,1),(.c (.int .i64 2)))],none,[],0,[(0,[])]⟩,
 ⟨(some 9),.fieldAddr 0 (.t 2),none,[(2,none)],0,[(0,[]),(1,[])]⟩,
 ⟨(some 10),.load none (.t 9),none,[(9,(some 1))],0,[(0,[]),(1,[])]⟩,
 ⟨(some 11),.fieldAddr 0 (.t 2),none,[(2,none)],0,[(0,[]),(1,[])]⟩,
 ⟨(some 12),.load none (.t 11),none,[(11,(some 3))],0,[(0,[]),(1,[])]⟩,
 ⟨(some 13),.fieldAddr 1 (.t 2),none,[(2,none)],0,[(0,[]),(1,[])]⟩,
 ⟨(some 14),.load none (.t 13),none,[(13,(some 5))],0,[(0,[]),(1,[])]⟩,
 ⟨(some 15),.len (.t 14),none,[(14,(some 6))],0,[(0,[]),(1,[])]⟩,
 ⟨(some 16),.build [(.int .i64 0),(.int .i64 0),(.int .i64 0),(.int .i64 0),(.int .i64 0),(.int .i64 0),(.int .i64 0),(.int .i64 0),(.int .i64 0)] [((3,1),(.t 10)),((5,1),(.t 12)),((4,1),(.t 15)),((1,1),(.c (.int .i64 1))),((2,1),(.c (.int .i64 1))),((6,1),(.c (.int .i64 1))),((7,1),(.c (.int .i64 1))),((8,1),(.c (.int .i64 1)))],none,[(10,(some 2)),(12,(some 4)),(15,(some 7))],0,[(0,[]),(1,[])]⟩,
 ⟨(some 5),.alloc nf [(.int .i64 0),(.int .i64 0),(.int .i64 0),(.int .i64 0),(.int .i64 0),(.int .i64 0),(.int .i64 0),(.int .i64 0),(.int .i64 0)],none,[],1,[(0,[])]⟩,
 ⟨(some 6),.alloc nf [(.int .i64 0),(.int .i64 0),(.int .i64 0),(.int .i64 0),(.int .i64 0),(.int .i64 0),(.int .i64 0),(.int .i64 0),(.int .i64 0)],none,[],1,[(0,[])]⟩,
 ⟨none,.store 9 (.t 5) (.t 8),none,[(5,(some 9)),(8,(some 0))],2,[(0,[9,10])]⟩,
 ⟨none,.store 9 (.t 6) (.t 16),none,[(6,(some 10)),(16,(some 8))],2,[(1,[])]⟩] []) <|
 .seq (.seq (.draw [
 ⟨(some 17),.fieldAddr 0 (.t 3),none,[(3,none)],0,[(0,[])]⟩,
 ⟨(some 18),.load none (.t 17),none,[(17,(some 0))],0,[(0,[])]⟩,
 ⟨(some 19),.bin .lss .int (.t 18) (.c (.int .u8 1)),none,[(18,(some 1))],0,[(0,[])]⟩,
 ⟨(some 20),.mv (.t 19),none,[(19,(some 2))],0,[(0,[])]⟩,
 ⟨(some 21),.fieldAddr 0 (.t 3),(some (20,false)),[(3,none),(20,(some 3))],0,[(0,[])]⟩,
 ⟨(some 22),.load none (.t 21),(some (20,false)),[(21,(some 4)),(20,(some 3))],0,[(0,[])]⟩,
 ⟨(some 23),.bin .gtr .int (.t 22) (.c (.int .u8 8)),(some (20,false)),[(22,(some 5)),(20,(some 3))],0,[(0,[])]⟩,
 ⟨(some 24),.pick (.t 20) (.c (.bool true)) (.t 23),none,[(20,(some 3)),(23,(some 6))],0,[(0,[])]⟩,
 ⟨(some 25),.mv (.t 24),none,[(24,(some 7))],0,[(0,[])]⟩,
 ⟨(some 26),.fieldAddr 1 (.t 3),(some (25,false)),[(3,none),(25,(some 8))],0,[(0,[])]⟩,
 ⟨(some 27),.load none (.t 26),(some (25,false)),[(26,(some 9)),(25,(some 8))],0,[(0,[])]⟩,
 ⟨(some 28),.fieldAddr 0 (.t 3),(some (25,false)),[(3,none),(25,(some 8))],0,[(0,[])]⟩,
 ⟨(some 29),.load none (.t 28),(some (25,false)),[(28,(some 11)),(25,(some 8))],0,[(0,[])]⟩,
 ⟨(some 30),.indexArr 9 1 (.t 6) (.t 29),(some (25,false)),[(6,none),(29,(some 12)),(25,(some 8))],0,[(0,[])]⟩,
 ⟨(some 31),.load none (.t 30),(some (25,false)),[(30,(some 13)),(25,(some 8))],0,[(0,[])]⟩,
 ⟨(some 32),.call (.c (.fn (.func cA) [] [])) [(.t 27),(.t 31)],(some (25,false)),[(27,(some 10)),(31,(some 14)),(25,(some 8))],2,[(0,[])]⟩,
 ⟨(some 33),.un .not (.t 32),(some (25,false)),[(32,(some 15)),(25,(some 8))],0,[(1,[])]⟩,
 ⟨(some 34),.pick (.t 25) (.c (.bool true)) (.t 33),none,[(25,(some 8)),(33,(some 16))],0,[(1,[])]⟩,
 ⟨(some 35),.mv (.t 34),none,[(34,(some 17))],0,[(1,[])]⟩,
 ⟨(some 36),.fieldAddr 3 (.t 3),(some (35,false)),[(3,none),(35,(some 18))],0,[(1,[])]⟩,
 ⟨(some 37),.load none (.t 36),(some (35,false)),[(36,(some 19)),(35,(some 18))],0,[(1,[])]⟩,
 ⟨(some 38),.len (.t 37),(some (35,false)),[(37,(some 20)),(35,(some 18))],0,[(1,[])]⟩,
 ⟨(some 39),.fieldAddr 0 (.t 3),(some (35,false)),[(3,none),(35,(some 18))],0,[(1,[])]⟩,
 ⟨(some 40),.load none (.t 39),(some (35,false)),[(39,(some 22)),(35,(some 18))],0,[(1,[])]⟩,
 ⟨(some 41),.indexArr 9 1 (.t 5) (.t 40),(some (35,false)),[(5,none),(40,(some 23)),(35,(some 18))],0,[(1,[])]⟩,
 ⟨(some 42),.load none (.t 41),(some (35,false)),[(41,(some 24)),(35,(some 18))],0,[(1,[])]⟩,
 ⟨(some 43),.bin .neq .int (.t 38) (.t 42),(some (35,false)),[(38,(some 21)),(42,(some 25)),(35,(some 18))],0,[(1,[])]⟩,
 ⟨(some 44),.pick (.t 35) (.c (.bool true)) (.t 43),none,[(35,(some 18)),(43,(some 26))],0,[(1,[])]⟩] []) <|
 .cond (.t 44)
 (.seq (.region [
  ⟨(some 4),.mv (.c (.bool false)),none⟩]) <|
 .ret)
 (.skip)) <|
 .seq (.seq (.region [
 ⟨(some 45),.fieldAddr 0 (.t 3),none⟩,
 ⟨(some 46),.load none (.t 45),none⟩,
 ⟨(some 47),.bin .neq .int (.t 46) (.c (.int .u8 6)),none⟩,
 ⟨(some 48),.mv (.t 47),none⟩,
 ⟨(some 49),.fieldAddr 2 (.t 3),(some (48,true))⟩,
 ⟨(some 50),.load none (.t 49),(some (48,true))⟩,
 ⟨(some 51),.bin .neq .int (.t 50) (.c (.int .u8 0)),(some (48,true))⟩,
 ⟨(some 52),.pick (.t 48) (.t 51) (.c (.bool false)),none⟩,
 ⟨(some 53),.mv (.t 52),none⟩,
 ⟨(some 54),.fieldAddr 0 (.t 3),(some (53,false))⟩,
 ⟨(some 55),.load none (.t 54),(some (53,false))⟩,
 ⟨(some 56),.bin .eql .int (.t 55) (.c (.int .u8 6)),(some (53,false))⟩,
 ⟨(some 57),.mv (.t 56),(some (53,false))⟩,
 ⟨(some 58),.fieldAddr 2 (.t 3),(some (57,true))⟩,
 ⟨(some 59),.load none (.t 58),(some (57,true))⟩,
 ⟨(some 60),.bin .lss .int (.t 59) (.c (.int .u8 3)),(some (57,true))⟩,
 ⟨(some 61),.mv (.t 60),(some (57,true))⟩,
 ⟨(some 62),.fieldAddr 2 (.t 3),(some (61,false))⟩,
 ⟨(some 63),.load none (.t 62),(some (61,false))⟩,
 ⟨(some 64),.bin .gtr .int (.t 63) (.c (.int .u8 8)),(some (61,false))⟩,
 ⟨(some 65),.pick (.t 61) (.c (.bool true)) (.t 64),(some (57,true))⟩,
 ⟨(some 66),.pick (.t 57) (.t 65) (.c (.bool false)),(some (53,false))⟩,
 ⟨(some 67),.pick (.t 53) (.c (.bool true)) (.t 66),none⟩]) <|
 .cond (.t 67)
 (.seq (.region [
  ⟨(some 4),.mv (.c (.bool false)),none⟩]) <|
 .ret)
 (.skip)) <|
 .seq (.region [
 ⟨(some 68),.load (some 6) (.t 2),none⟩,
 ⟨(some 69),.call (.c (.fn (.func iw) [] [])) [(.t 68)],none⟩,
 ⟨(some 7),.alloc bI [.nilFn],none⟩,
 ⟨none,.store 1 (.t 7) (.t 69),none⟩]) <|
 .seq (.region [
 ⟨(some 70),.fieldAddr 3 (.t 3),none⟩,
 ⟨(some 71),.load none (.t 70),none⟩,
 ⟨(some 72),.mkfn (.func fR) [] [(.t 7)],none⟩,
 ⟨(some 73),.call (.c (.fn (.func aI) [] [])) [(.t 71),(.t 72)],none⟩,
 ⟨(some 74),.un .not (.t 73),none⟩,
 ⟨(some 4),.mv (.t 74),none⟩]) <|
 .ret,
 none⟩
def cz:aN:=⟨2,19,[(4,none)],
 .seq (.region [
 ⟨(some 4),.mv (.c (.int .i64 0)),none⟩]) <|
 .seq (.seq (.region [
 ⟨(some 6),.mv (.t 0),none⟩,
 ⟨(some 7),.len (.t 6),none⟩,
 ⟨(some 8),.mv (.c (.int .i64 0)),none⟩]) <|
 oS 0 1 8 7 9 18
 (.seq (.region [
  ⟨(some 10),.mv (.t 8),none⟩,
  ⟨(some 5),.mv (.t 10),none⟩]) <|
 .seq (.region [
  ⟨(some 11),.mv (.t 1),none⟩,
  ⟨(some 12),.mv (.t 0),none⟩,
  ⟨(some 13),.mv (.t 5),none⟩,
  ⟨(some 14),.indexAddr 7 (.t 12) (.t 13),none⟩,
  ⟨(some 15),.load (some 7) (.t 14),none⟩,
  ⟨(some 16),.call (.t 11) [(.t 15)],none⟩]) <|
 .cond (.t 16)
  (.seq (.region [
  ⟨(some 17),.mv (.t 5),none⟩,
  ⟨(some 4),.mv (.t 17),none⟩]) <|
  .ret)
  (.skip))) <|
 .seq (.region [
 ⟨(some 4),.mv (.c (.int .i64 (-1))),none⟩]) <|
 .ret,
 none⟩
def jj:aN:=⟨1,6,[(2,none)],
 .seq (.region [
 ⟨(some 2),.mv (.c (.int .u8 0)),none⟩]) <|
 .seq (.region [
 ⟨(some 3),.build [(.int .u8 0),(.int .u8 0),(.int .u8 0),(.int .u8 0),(.int .u8 0),(.int .u8 0),(.int .u8 0),(.int .u8 0),(.int .u8 0)] [((3,1),(.c (.int .u8 6))),((6,1),(.c (.int .u8 3))),((4,1),(.c (.int .u8 5))),((5,1),(.c (.int .u8 4))),((7,1),(.c (.int .u8 8))),((8,1),(.c (.int .u8 7)))],none⟩,
 ⟨(some 4),.mv (.t 0),none⟩,
 ⟨(some 5),.indexAgg 9 1 none (.t 3) (.t 4),none⟩,
 ⟨(some 2),.mv (.t 5),none⟩]) <|
 .ret,
 none⟩
def bj:aN:=⟨3,32,[(6,none)],
 .seq (.region [
 ⟨(some 6),.mv (.c (.bool false)),none⟩]) <|
 .seq (.seq (.region [
 ⟨(some 10),.mv (.t 0),none⟩,
 ⟨(some 11),.len (.t 10),none⟩,
 ⟨(some 12),.mv (.t 1),none⟩,
 ⟨(some 13),.len (.t 12),none⟩,
 ⟨(some 14),.bin .neq .int (.t 11) (.t 13),none⟩]) <|
 .cond (.t 14)
 (.seq (.region [
  ⟨(some 6),.mv (.c (.bool false)),none⟩]) <|
 .ret)
 (.skip)) <|
 .seq (.seq (.region [
 ⟨(some 15),.mv (.t 0),none⟩,
 ⟨(some 16),.len (.t 15),none⟩,
 ⟨(some 17),.mv (.c (.int .i64 0)),none⟩]) <|
 oS 0 1 17 16 18 31
 (.seq (.region [
  ⟨(some 19),.mv (.t 17),none⟩,
  ⟨(some 20),.indexAddr 5 (.t 15) (.t 17),none⟩,
  ⟨(some 21),.load (some 5) (.t 20),none⟩,
  ⟨(some 8),.alloc au [(.int .u8 0),(.str ⟨#[]⟩),(.int .i64 0),.nilSl,(.int .i64 0)],none⟩,
  ⟨(some 7),.mv (.t 19),none⟩,
  ⟨none,.store 5 (.t 8) (.t 21),none⟩]) <|
 .seq (.region [
  ⟨(some 22),.mv (.t 1),none⟩,
  ⟨(some 23),.mv (.t 7),none⟩,
  ⟨(some 24),.indexAddr 5 (.t 22) (.t 23),none⟩,
  ⟨(some 25),.load (some 5) (.t 24),none⟩,
  ⟨(some 9),.alloc au [(.int .u8 0),(.str ⟨#[]⟩),(.int .i64 0),.nilSl,(.int .i64 0)],none⟩,
  ⟨none,.store 5 (.t 9) (.t 25),none⟩]) <|
 .seq (.region [
  ⟨(some 26),.mv (.t 2),none⟩,
  ⟨(some 27),.load (some 5) (.t 8),none⟩,
  ⟨(some 28),.load (some 5) (.t 9),none⟩,
  ⟨(some 29),.call (.t 26) [(.t 27),(.t 28)],none⟩,
  ⟨(some 30),.un .not (.t 29),none⟩]) <|
 .cond (.t 30)
  (.seq (.region [
  ⟨(some 6),.mv (.c (.bool false)),none⟩]) <|
  .ret)
  (.skip))) <|
 .seq (.region [
 ⟨(some 6),.mv (.c (.bool true)),none⟩]) <|
 .ret,
 none⟩
def lS:aN:=⟨2,24,[(4,none)],
 .seq (.region [
 ⟨(some 2),.box au (.t 0),none⟩,
 ⟨(some 3),.box au (.t 1),none⟩,
 ⟨(some 4),.mv (.c (.bool false)),none⟩]) <|
 .seq (.region [
 ⟨(some 5),.fieldAddr 0 (.t 2),none⟩,
 ⟨(some 6),.load none (.t 5),none⟩,
 ⟨(some 7),.fieldAddr 0 (.t 3),none⟩,
 ⟨(some 8),.load none (.t 7),none⟩,
 ⟨(some 9),.bin .eql .int (.t 6) (.t 8),none⟩,
 ⟨(some 10),.mv (.t 9),none⟩,
 ⟨(some 11),.fieldAddr 2 (.t 2),(some (10,true))⟩,
 ⟨(some 12),.load none (.t 11),(some (10,true))⟩,
 ⟨(some 13),.fieldAddr 2 (.t 3),(some (10,true))⟩,
 ⟨(some 14),.load none (.t 13),(some (10,true))⟩,
 ⟨(some 15),.bin .eql .int (.t 12) (.t 14),(some (10,true))⟩,
 ⟨(some 16),.pick (.t 10) (.t 15) (.c (.bool false)),none⟩,
 ⟨(some 17),.mv (.t 16),none⟩,
 ⟨(some 18),.fieldAddr 3 (.t 2),(some (17,true))⟩,
 ⟨(some 19),.load none (.t 18),(some (17,true))⟩,
 ⟨(some 20),.fieldAddr 3 (.t 3),(some (17,true))⟩,
 ⟨(some 21),.load none (.t 20),(some (17,true))⟩,
 ⟨(some 22),.call (.c (.fn (.func ai) [] [])) [(.t 19),(.t 21),(.c (.fn (.func fS) [] []))],(some (17,true))⟩,
 ⟨(some 23),.pick (.t 17) (.t 22) (.c (.bool false)),none⟩,
 ⟨(some 4),.mv (.t 23),none⟩]) <|
 .ret,
 none⟩
def iE:aN:=⟨1,19,[(2,none)],
 .seq (.region [
 ⟨(some 2),.mv (.c (.int .i64 0)),none⟩]) <|
 .seq (.seq (.region [
 ⟨(some 3),.mv (.t 0),none⟩,
 ⟨(some 4),.bin .geq .int (.t 3) (.c (.int .u32 65536)),none⟩]) <|
 .cond (.t 4)
 (.seq (.region [
  ⟨(some 5),.mv (.t 0),none⟩,
  ⟨(some 6),.bin .shr .int (.t 5) (.c (.int .u64 16)),none⟩,
  ⟨(some 0),.mv (.t 6),none⟩]) <|
 .region [
  ⟨(some 2),.mv (.c (.int .i64 16)),none⟩])
 (.skip)) <|
 .seq (.seq (.region [
 ⟨(some 7),.mv (.t 0),none⟩,
 ⟨(some 8),.bin .geq .int (.t 7) (.c (.int .u32 256)),none⟩]) <|
 .cond (.t 8)
 (.seq (.region [
  ⟨(some 9),.mv (.t 0),none⟩,
  ⟨(some 10),.bin .shr .int (.t 9) (.c (.int .u64 8)),none⟩,
  ⟨(some 0),.mv (.t 10),none⟩]) <|
 .region [
  ⟨(some 11),.mv (.t 2),none⟩,
  ⟨(some 12),.bin .add .int (.t 11) (.c (.int .i64 8)),none⟩,
  ⟨(some 2),.mv (.t 12),none⟩])
 (.skip)) <|
 .seq (.region [
 ⟨(some 13),.mv (.t 2),none⟩,
 ⟨(some 14),.mv (.t 0),none⟩,
 ⟨(some 15),.conv .u8 (.t 14),none⟩,
 ⟨(some 16),.indexStr (.c (.str ⟨#[0,1,2,2,3,3,3,3,4,4,4,4,4,4,4,4,5,5,5,5,5,5,5,5,5,5,5,5,5,5,5,5,6,6,6,6,6,6,6,6,6,6,6,6,6,6,6,6,6,6,6,6,6,6,6,6,6,6,6,6,6,6,6,6,7,7,7,7,7,7,7,7,7,7,7,7,7,7,7,7,7,7,7,7,7,7,7,7,7,7,7,7,7,7,7,7,7,7,7,7,7,7,7,7,7,7,7,7,7,7,7,7,7,7,7,7,7,7,7,7,7,7,7,7,7,7,7,7,8,8,8,8,8,8,8,8,8,8,8,8,8,8,8,8,8,8,8,8,8,8,8,8,8,8,8,8,8,8,8,8,8,8,8,8,8,8,8,8,8,8,8,8,8,8,8,8,8,8,8,8,8,8,8,8,8,8,8,8,8,8,8,8,8,8,8,8,8,8,8,8,8,8,8,8,8,8,8,8,8,8,8,8,8,8,8,8,8,8,8,8,8,8,8,8,8,8,8,8,8,8,8,8,8,8,8,8,8,8,8,8,8,8,8,8,8,8,8,8,8,8,8,8,8,8,8,8]⟩)) (.t 15),none⟩,
 ⟨(some 17),.conv .i64 (.t 16),none⟩,
 ⟨(some 18),.bin .add .int (.t 13) (.t 17),none⟩,
 ⟨(some 2),.mv (.t 18),none⟩]) <|
 .ret,
 none⟩
def iD:aN:=⟨1,25,[(2,none)],
 .seq (.region [
 ⟨(some 2),.mv (.c (.int .i64 0)),none⟩]) <|
 .seq (.seq (.region [
 ⟨(some 3),.mv (.t 0),none⟩,
 ⟨(some 4),.bin .geq .int (.t 3) (.c (.int .u64 4294967296)),none⟩]) <|
 .cond (.t 4)
 (.seq (.region [
  ⟨(some 5),.mv (.t 0),none⟩,
  ⟨(some 6),.bin .shr .int (.t 5) (.c (.int .u64 32)),none⟩,
  ⟨(some 0),.mv (.t 6),none⟩]) <|
 .region [
  ⟨(some 2),.mv (.c (.int .i64 32)),none⟩])
 (.skip)) <|
 .seq (.seq (.region [
 ⟨(some 7),.mv (.t 0),none⟩,
 ⟨(some 8),.bin .geq .int (.t 7) (.c (.int .u64 65536)),none⟩]) <|
 .cond (.t 8)
 (.seq (.region [
  ⟨(some 9),.mv (.t 0),none⟩,
  ⟨(some 10),.bin .shr .int (.t 9) (.c (.int .u64 16)),none⟩,
  ⟨(some 0),.mv (.t 10),none⟩]) <|
 .region [
  ⟨(some 11),.mv (.t 2),none⟩,
  ⟨(some 12),.bin .add .int (.t 11) (.c (.int .i64 16)),none⟩,
  ⟨(some 2),.mv (.t 12),none⟩])
 (.skip)) <|
 .seq (.seq (.region [
 ⟨(some 13),.mv (.t 0),none⟩,
 ⟨(some 14),.bin .geq .int (.t 13) (.c (.int .u64 256)),none⟩]) <|
 .cond (.t 14)
 (.seq (.region [
  ⟨(some 15),.mv (.t 0),none⟩,
  ⟨(some 16),.bin .shr .int (.t 15) (.c (.int .u64 8)),none⟩,
  ⟨(some 0),.mv (.t 16),none⟩]) <|
 .region [
  ⟨(some 17),.mv (.t 2),none⟩,
  ⟨(some 18),.bin .add .int (.t 17) (.c (.int .i64 8)),none⟩,
  ⟨(some 2),.mv (.t 18),none⟩])
 (.skip)) <|
 .seq (.region [
 ⟨(some 19),.mv (.t 2),none⟩,
 ⟨(some 20),.mv (.t 0),none⟩,
 ⟨(some 21),.conv .u8 (.t 20),none⟩,
 ⟨(some 22),.indexStr (.c (.str ⟨#[0,1,2,2,3,3,3,3,4,4,4,4,4,4,4,4,5,5,5,5,5,5,5,5,5,5,5,5,5,5,5,5,6,6,6,6,6,6,6,6,6,6,6,6,6,6,6,6,6,6,6,6,6,6,6,6,6,6,6,6,6,6,6,6,7,7,7,7,7,7,7,7,7,7,7,7,7,7,7,7,7,7,7,7,7,7,7,7,7,7,7,7,7,7,7,7,7,7,7,7,7,7,7,7,7,7,7,7,7,7,7,7,7,7,7,7,7,7,7,7,7,7,7,7,7,7,7,7,8,8,8,8,8,8,8,8,8,8,8,8,8,8,8,8,8,8,8,8,8,8,8,8,8,8,8,8,8,8,8,8,8,8,8,8,8,8,8,8,8,8,8,8,8,8,8,8,8,8,8,8,8,8,8,8,8,8,8,8,8,8,8,8,8,8,8,8,8,8,8,8,8,8,8,8,8,8,8,8,8,8,8,8,8,8,8,8,8,8,8,8,8,8,8,8,8,8,8,8,8,8,8,8,8,8,8,8,8,8,8,8,8,8,8,8,8,8,8,8,8,8,8,8,8,8,8,8]⟩)) (.t 21),none⟩,
 ⟨(some 23),.conv .i64 (.t 22),none⟩,
 ⟨(some 24),.bin .add .int (.t 19) (.t 23),none⟩,
 ⟨(some 2),.mv (.t 24),none⟩]) <|
 .ret,
 none⟩
def cR:aN:=⟨3,49,[],
 .seq (.region [
 ⟨(some 8),.mv (.t 1),none⟩,
 ⟨(some 9),.bin .add .int (.t 8) (.c (.int .i64 1)),none⟩,
 ⟨(some 6),.mv (.t 9),none⟩]) <|
 dN 0 (.seq (.seq (.region [
  ⟨(some 10),.mv (.t 6),none⟩,
  ⟨(some 11),.mv (.t 2),none⟩,
  ⟨(some 12),.bin .lss .int (.t 10) (.t 11),none⟩]) <|
 .cond (.t 12)
  (.skip)
  (.exit 0)) <|
 .seq (.block 1 (.seq (.region [
  ⟨(some 15),.mv (.t 6),none⟩,
  ⟨(some 7),.mv (.t 15),none⟩]) <|
  dN 2 (.seq (.seq (.draw [
   ⟨(some 16),.mv (.t 7),none,[(7,none)],0,[(0,[])]⟩,
   ⟨(some 17),.mv (.t 1),none,[(1,none)],0,[(0,[])]⟩,
   ⟨(some 18),.bin .gtr .int (.t 16) (.t 17),none,[(16,(some 0)),(17,(some 1))],0,[(0,[])]⟩,
   ⟨(some 19),.mv (.t 18),none,[(18,(some 2))],0,[(0,[])]⟩,
   ⟨(some 20),.mv (.t 0),(some (19,true)),[(0,none),(19,(some 3))],0,[(0,[])]⟩,
   ⟨(some 21),.mv (.t 7),(some (19,true)),[(7,none),(19,(some 3))],0,[(0,[])]⟩,
   ⟨(some 22),.indexAddr 1 (.t 20) (.t 21),(some (19,true)),[(20,(some 4)),(21,(some 5)),(19,(some 3))],0,[(0,[])]⟩,
   ⟨(some 23),.load none (.t 22),(some (19,true)),[(22,(some 6)),(19,(some 3))],0,[(0,[])]⟩,
   ⟨(some 24),.mv (.t 0),(some (19,true)),[(0,none),(19,(some 3))],0,[(0,[])]⟩,
   ⟨(some 25),.mv (.t 7),(some (19,true)),[(7,none),(19,(some 3))],0,[(0,[])]⟩,
   ⟨(some 26),.bin .sub .int (.t 25) (.c (.int .i64 1)),(some (19,true)),[(25,(some 9)),(19,(some 3))],0,[(0,[])]⟩,
   ⟨(some 27),.indexAddr 1 (.t 24) (.t 26),(some (19,true)),[(24,(some 8)),(26,(some 10)),(19,(some 3))],0,[(0,[])]⟩,
   ⟨(some 28),.load none (.t 27),(some (19,true)),[(27,(some 11)),(19,(some 3))],0,[(0,[])]⟩,
   ⟨(some 29),.call (.c (.fn (.func aD) [] [])) [(.t 23),(.t 28)],(some (19,true)),[(23,(some 7)),(28,(some 12)),(19,(some 3))],2,[(0,[])]⟩,
   ⟨(some 30),.pick (.t 19) (.t 29) (.c (.bool false)),none,[(19,(some 3)),(29,(some 13))],0,[(1,[])]⟩] []) <|
  .cond (.t 30)
   (.skip)
   (.exit 2)) <|
  .seq (.block 3 (.draw [
   ⟨(some 33),.mv (.t 0),none,[(0,none)],0,[(0,[])]⟩,
   ⟨(some 34),.mv (.t 7),none,[(7,none)],0,[(0,[])]⟩,
   ⟨(some 35),.mv (.t 0),none,[(0,none)],0,[(0,[]),(1,[])]⟩,
   ⟨(some 36),.mv (.t 7),none,[(7,none)],0,[(0,[]),(1,[])]⟩,
   ⟨(some 37),.bin .sub .int (.t 36) (.c (.int .i64 1)),none,[(36,(some 3))],0,[(0,[]),(1,[])]⟩,
   ⟨(some 38),.mv (.t 0),none,[(0,none)],0,[(0,[])]⟩,
   ⟨(some 39),.mv (.t 7),none,[(7,none)],0,[(0,[])]⟩,
   ⟨(some 40),.bin .sub .int (.t 39) (.c (.int .i64 1)),none,[(39,(some 6))],0,[(0,[])]⟩,
   ⟨(some 41),.indexAddr 1 (.t 38) (.t 40),none,[(38,(some 5)),(40,(some 7))],0,[(0,[])]⟩,
   ⟨(some 42),.load none (.t 41),none,[(41,(some 8))],0,[(0,[])]⟩,
   ⟨(some 43),.mv (.t 0),none,[(0,none)],0,[(0,[])]⟩,
   ⟨(some 44),.mv (.t 7),none,[(7,none)],0,[(0,[])]⟩,
   ⟨(some 45),.indexAddr 1 (.t 43) (.t 44),none,[(43,(some 10)),(44,(some 11))],0,[(0,[])]⟩,
   ⟨(some 46),.load none (.t 45),none,[(45,(some 12))],0,[(0,[])]⟩,
   ⟨(some 47),.indexAddr 1 (.t 33) (.t 34),none,[(33,(some 0)),(34,(some 1))],0,[(0,[])]⟩,
   ⟨none,.store 1 (.t 47) (.t 42),none,[(47,(some 14)),(42,(some 9))],2,[(0,[])]⟩,
   ⟨(some 48),.indexAddr 1 (.t 35) (.t 37),none,[(35,(some 2)),(37,(some 4))],0,[(1,[])]⟩,
   ⟨none,.store 1 (.t 48) (.t 46),none,[(48,(some 16)),(46,(some 13))],2,[(1,[])]⟩] [])) <|
  .region [
   ⟨(some 31),.mv (.t 7),none⟩,
   ⟨(some 32),.bin .sub .int (.t 31) (.c (.int .i64 1)),none⟩,
   ⟨(some 7),.mv (.t 32),none⟩]))) <|
 .region [
  ⟨(some 13),.mv (.t 6),none⟩,
  ⟨(some 14),.bin .add .int (.t 13) (.c (.int .i64 1)),none⟩,
  ⟨(some 6),.mv (.t 14),none⟩]),
 none⟩
def dL:aN:=⟨3,56,[],
 .seq (.region [
 ⟨(some 11),.mv (.t 1),none⟩,
 ⟨(some 6),.mv (.t 11),none⟩]) <|
 .seq (.region [
 ⟨(some 7),.mv (.c (.int .i64 0)),none⟩]) <|
 .seq (.region [
 ⟨(some 12),.mv (.t 2),none⟩,
 ⟨(some 13),.mv (.t 1),none⟩,
 ⟨(some 14),.bin .sub .int (.t 12) (.t 13),none⟩,
 ⟨(some 8),.mv (.t 14),none⟩]) <|
 .seq (.seq (.region [
 ⟨(some 15),.mv (.t 8),none⟩,
 ⟨(some 16),.bin .sub .int (.t 15) (.c (.int .i64 1)),none⟩,
 ⟨(some 17),.bin .quo .int (.t 16) (.c (.int .i64 2)),none⟩,
 ⟨(some 9),.mv (.t 17),none⟩]) <|
 dN 0 (.seq (.seq (.region [
  ⟨(some 18),.mv (.t 9),none⟩,
  ⟨(some 19),.bin .geq .int (.t 18) (.c (.int .i64 0)),none⟩]) <|
 .cond (.t 19)
  (.skip)
  (.exit 0)) <|
 .seq (.block 1 (.region [
  ⟨(some 22),.mv (.t 0),none⟩,
  ⟨(some 23),.mv (.t 9),none⟩,
  ⟨(some 24),.mv (.t 8),none⟩,
  ⟨(some 25),.mv (.t 6),none⟩,
  ⟨(some 26),.call (.c (.fn (.func bm) [] [])) [(.t 22),(.t 23),(.t 24),(.t 25)],none⟩])) <|
 .region [
  ⟨(some 20),.mv (.t 9),none⟩,
  ⟨(some 21),.bin .sub .int (.t 20) (.c (.int .i64 1)),none⟩,
  ⟨(some 9),.mv (.t 21),none⟩])) <|
 .seq (.region [
 ⟨(some 27),.mv (.t 8),none⟩,
 ⟨(some 28),.bin .sub .int (.t 27) (.c (.int .i64 1)),none⟩,
 ⟨(some 10),.mv (.t 28),none⟩]) <|
 dN 2 (.seq (.seq (.region [
  ⟨(some 29),.mv (.t 10),none⟩,
  ⟨(some 30),.bin .geq .int (.t 29) (.c (.int .i64 0)),none⟩]) <|
 .cond (.t 30)
  (.skip)
  (.exit 2)) <|
 .seq (.block 3 (.seq (.draw [
  ⟨(some 33),.mv (.t 0),none,[(0,none)],0,[(0,[])]⟩,
  ⟨(some 34),.mv (.t 6),none,[(6,none)],0,[(0,[])]⟩,
  ⟨(some 35),.mv (.t 0),none,[(0,none)],0,[(0,[]),(1,[])]⟩,
  ⟨(some 36),.mv (.t 6),none,[(6,none)],0,[(0,[]),(1,[])]⟩,
  ⟨(some 37),.mv (.t 10),none,[(10,none)],0,[(0,[]),(1,[])]⟩,
  ⟨(some 38),.bin .add .int (.t 36) (.t 37),none,[(36,(some 3)),(37,(some 4))],0,[(0,[]),(1,[])]⟩,
  ⟨(some 39),.mv (.t 0),none,[(0,none)],0,[(0,[])]⟩,
  ⟨(some 40),.mv (.t 6),none,[(6,none)],0,[(0,[])]⟩,
  ⟨(some 41),.mv (.t 10),none,[(10,none)],0,[(0,[])]⟩,
  ⟨(some 42),.bin .add .int (.t 40) (.t 41),none,[(40,(some 7)),(41,(some 8))],0,[(0,[])]⟩,
  ⟨(some 43),.indexAddr 1 (.t 39) (.t 42),none,[(39,(some 6)),(42,(some 9))],0,[(0,[])]⟩,
  ⟨(some 44),.load none (.t 43),none,[(43,(some 10))],0,[(0,[])]⟩,
  ⟨(some 45),.mv (.t 0),none,[(0,none)],0,[(0,[])]⟩,
  ⟨(some 46),.mv (.t 6),none,[(6,none)],0,[(0,[])]⟩,
  ⟨(some 47),.indexAddr 1 (.t 45) (.t 46),none,[(45,(some 12)),(46,(some 13))],0,[(0,[])]⟩,
  ⟨(some 48),.load none (.t 47),none,[(47,(some 14))],0,[(0,[])]⟩,
  ⟨(some 49),.indexAddr 1 (.t 33) (.t 34),none,[(33,(some 0)),(34,(some 1))],0,[(0,[])]⟩,
  ⟨none,.store 1 (.t 49) (.t 44),none,[(49,(some 16)),(44,(some 11))],2,[(0,[])]⟩,
  ⟨(some 50),.indexAddr 1 (.t 35) (.t 38),none,[(35,(some 2)),(38,(some 5))],0,[(1,[])]⟩,
  ⟨none,.store 1 (.t 50) (.t 48),none,[(50,(some 18)),(48,(some 15))],2,[(1,[])]⟩] []) <|
  .region [
  ⟨(some 51),.mv (.t 0),none⟩,
  ⟨(some 52),.mv (.t 7),none⟩,
  ⟨(some 53),.mv (.t 10),none⟩,
  ⟨(some 54),.mv (.t 6),none⟩,
  ⟨(some 55),.call (.c (.fn (.func bm) [] [])) [(.t 51),(.t 52),(.t 53),(.t 54)],none⟩])) <|
 .region [
  ⟨(some 31),.mv (.t 10),none⟩,
  ⟨(some 32),.bin .sub .int (.t 31) (.c (.int .i64 1)),none⟩,
  ⟨(some 10),.mv (.t 32),none⟩]),
 none⟩
def cS:aN:=⟨3,65,[],
 .seq (.region [
 ⟨(some 11),.mv (.t 2),none⟩,
 ⟨(some 12),.mv (.t 1),none⟩,
 ⟨(some 13),.bin .sub .int (.t 11) (.t 12),none⟩,
 ⟨(some 6),.mv (.t 13),none⟩]) <|
 .seq (.region [
 ⟨(some 14),.mv (.t 6),none⟩,
 ⟨(some 15),.bin .geq .int (.t 14) (.c (.int .i64 8)),none⟩]) <|
 .cond (.t 15)
 (.seq (.region [
  ⟨(some 16),.mv (.t 6),none⟩,
  ⟨(some 17),.conv .u64 (.t 16),none⟩,
  ⟨(some 7),.alloc bX [(.int .u64 0)],none⟩,
  ⟨none,.store 1 (.t 7) (.t 17),none⟩]) <|
 .seq (.region [
  ⟨(some 18),.mv (.t 6),none⟩,
  ⟨(some 19),.call (.c (.fn (.func cE) [] [])) [(.t 18)],none⟩,
  ⟨(some 8),.mv (.t 19),none⟩]) <|
 .seq (.region [
  ⟨(some 20),.mv (.t 1),none⟩,
  ⟨(some 21),.mv (.t 6),none⟩,
  ⟨(some 22),.bin .quo .int (.t 21) (.c (.int .i64 4)),none⟩,
  ⟨(some 23),.bin .mul .int (.t 22) (.c (.int .i64 2)),none⟩,
  ⟨(some 24),.bin .add .int (.t 20) (.t 23),none⟩,
  ⟨(some 25),.bin .sub .int (.t 24) (.c (.int .i64 1)),none⟩,
  ⟨(some 9),.mv (.t 25),none⟩]) <|
 dN 0 (.seq (.seq (.region [
  ⟨(some 26),.mv (.t 9),none⟩,
  ⟨(some 27),.mv (.t 1),none⟩,
  ⟨(some 28),.mv (.t 6),none⟩,
  ⟨(some 29),.bin .quo .int (.t 28) (.c (.int .i64 4)),none⟩,
  ⟨(some 30),.bin .mul .int (.t 29) (.c (.int .i64 2)),none⟩,
  ⟨(some 31),.bin .add .int (.t 27) (.t 30),none⟩,
  ⟨(some 32),.bin .add .int (.t 31) (.c (.int .i64 1)),none⟩,
  ⟨(some 33),.bin .leq .int (.t 26) (.t 32),none⟩]) <|
  .cond (.t 33)
  (.skip)
  (.exit 0)) <|
  .seq (.block 1 (.seq (.region [
   ⟨(some 36),.call (.c (.fn (.func cB) [] [])) [(.t 7)],none⟩,
   ⟨(some 37),.mv (.t 8),none⟩,
   ⟨(some 38),.bin .sub .int (.t 37) (.c (.int .u64 1)),none⟩,
   ⟨(some 39),.bin .and .int (.t 36) (.t 38),none⟩,
   ⟨(some 40),.conv .i64 (.t 39),none⟩,
   ⟨(some 10),.mv (.t 40),none⟩]) <|
  .seq (.seq (.region [
   ⟨(some 41),.mv (.t 10),none⟩,
   ⟨(some 42),.mv (.t 6),none⟩,
   ⟨(some 43),.bin .geq .int (.t 41) (.t 42),none⟩]) <|
  .cond (.t 43)
   (.region [
   ⟨(some 44),.mv (.t 10),none⟩,
   ⟨(some 45),.mv (.t 6),none⟩,
   ⟨(some 46),.bin .sub .int (.t 44) (.t 45),none⟩,
   ⟨(some 10),.mv (.t 46),none⟩])
   (.skip)) <|
  .draw [
   ⟨(some 47),.mv (.t 0),none,[(0,none)],0,[(0,[])]⟩,
   ⟨(some 48),.mv (.t 9),none,[(9,none)],0,[(0,[])]⟩,
   ⟨(some 49),.mv (.t 0),none,[(0,none)],0,[(0,[]),(1,[])]⟩,
   ⟨(some 50),.mv (.t 1),none,[(1,none)],0,[(0,[]),(1,[])]⟩,
   ⟨(some 51),.mv (.t 10),none,[(10,none)],0,[(0,[]),(1,[])]⟩,
   ⟨(some 52),.bin .add .int (.t 50) (.t 51),none,[(50,(some 3)),(51,(some 4))],0,[(0,[]),(1,[])]⟩,
   ⟨(some 53),.mv (.t 0),none,[(0,none)],0,[(0,[])]⟩,
   ⟨(some 54),.mv (.t 1),none,[(1,none)],0,[(0,[])]⟩,
   ⟨(some 55),.mv (.t 10),none,[(10,none)],0,[(0,[])]⟩,
   ⟨(some 56),.bin .add .int (.t 54) (.t 55),none,[(54,(some 7)),(55,(some 8))],0,[(0,[])]⟩,
   ⟨(some 57),.indexAddr 1 (.t 53) (.t 56),none,[(53,(some 6)),(56,(some 9))],0,[(0,[])]⟩,
   ⟨(some 58),.load none (.t 57),none,[(57,(some 10))],0,[(0,[])]⟩,
   ⟨(some 59),.mv (.t 0),none,[(0,none)],0,[(0,[])]⟩,
   ⟨(some 60),.mv (.t 9),none,[(9,none)],0,[(0,[])]⟩,
   ⟨(some 61),.indexAddr 1 (.t 59) (.t 60),none,[(59,(some 12)),(60,(some 13))],0,[(0,[])]⟩,
   ⟨(some 62),.load none (.t 61),none,[(61,(some 14))],0,[(0,[])]⟩,
   ⟨(some 63),.indexAddr 1 (.t 47) (.t 48),none,[(47,(some 0)),(48,(some 1))],0,[(0,[])]⟩,
   ⟨none,.store 1 (.t 63) (.t 58),none,[(63,(some 16)),(58,(some 11))],2,[(0,[])]⟩,
   ⟨(some 64),.indexAddr 1 (.t 49) (.t 52),none,[(49,(some 2)),(52,(some 5))],0,[(1,[])]⟩,
   ⟨none,.store 1 (.t 64) (.t 62),none,[(64,(some 18)),(62,(some 15))],2,[(1,[])]⟩] [])) <|
  .region [
  ⟨(some 34),.mv (.t 9),none⟩,
  ⟨(some 35),.bin .add .int (.t 34) (.c (.int .i64 1)),none⟩,
  ⟨(some 9),.mv (.t 35),none⟩]))
 (.skip),
 none⟩
def db:aN:=⟨3,57,[(6,none),(7,none)],
 .seq (.region [
 ⟨(some 6),.mv (.c (.int .i64 0)),none⟩,
 ⟨(some 7),.mv (.c (.int .i64 0)),none⟩]) <|
 .seq (.region [
 ⟨(some 13),.mv (.t 2),none⟩,
 ⟨(some 14),.mv (.t 1),none⟩,
 ⟨(some 15),.bin .sub .int (.t 13) (.t 14),none⟩,
 ⟨(some 8),.mv (.t 15),none⟩]) <|
 .seq (.region [
 ⟨(some 9),.alloc fM [(.int .i64 0)],none⟩]) <|
 .seq (.region [
 ⟨(some 16),.mv (.t 1),none⟩,
 ⟨(some 17),.mv (.t 8),none⟩,
 ⟨(some 18),.bin .quo .int (.t 17) (.c (.int .i64 4)),none⟩,
 ⟨(some 19),.bin .mul .int (.t 18) (.c (.int .i64 1)),none⟩,
 ⟨(some 20),.bin .add .int (.t 16) (.t 19),none⟩,
 ⟨(some 10),.mv (.t 20),none⟩]) <|
 .seq (.region [
 ⟨(some 21),.mv (.t 1),none⟩,
 ⟨(some 22),.mv (.t 8),none⟩,
 ⟨(some 23),.bin .quo .int (.t 22) (.c (.int .i64 4)),none⟩,
 ⟨(some 24),.bin .mul .int (.t 23) (.c (.int .i64 2)),none⟩,
 ⟨(some 25),.bin .add .int (.t 21) (.t 24),none⟩,
 ⟨(some 11),.mv (.t 25),none⟩]) <|
 .seq (.region [
 ⟨(some 26),.mv (.t 1),none⟩,
 ⟨(some 27),.mv (.t 8),none⟩,
 ⟨(some 28),.bin .quo .int (.t 27) (.c (.int .i64 4)),none⟩,
 ⟨(some 29),.bin .mul .int (.t 28) (.c (.int .i64 3)),none⟩,
 ⟨(some 30),.bin .add .int (.t 26) (.t 29),none⟩,
 ⟨(some 12),.mv (.t 30),none⟩]) <|
 .seq (.seq (.region [
 ⟨(some 31),.mv (.t 8),none⟩,
 ⟨(some 32),.bin .geq .int (.t 31) (.c (.int .i64 8)),none⟩]) <|
 .cond (.t 32)
 (.seq (.seq (.region [
  ⟨(some 33),.mv (.t 8),none⟩,
  ⟨(some 34),.bin .geq .int (.t 33) (.c (.int .i64 50)),none⟩]) <|
 .cond (.t 34)
  (.seq (.region [
  ⟨(some 35),.mv (.t 0),none⟩,
  ⟨(some 36),.mv (.t 10),none⟩,
  ⟨(some 37),.call (.c (.fn (.func aJ) [] [])) [(.t 35),(.t 36),(.t 9)],none⟩,
  ⟨(some 10),.mv (.t 37),none⟩]) <|
  .seq (.region [
  ⟨(some 38),.mv (.t 0),none⟩,
  ⟨(some 39),.mv (.t 11),none⟩,
  ⟨(some 40),.call (.c (.fn (.func aJ) [] [])) [(.t 38),(.t 39),(.t 9)],none⟩,
  ⟨(some 11),.mv (.t 40),none⟩]) <|
  .region [
  ⟨(some 41),.mv (.t 0),none⟩,
  ⟨(some 42),.mv (.t 12),none⟩,
  ⟨(some 43),.call (.c (.fn (.func aJ) [] [])) [(.t 41),(.t 42),(.t 9)],none⟩,
  ⟨(some 12),.mv (.t 43),none⟩])
  (.skip)) <|
 .region [
  ⟨(some 44),.mv (.t 0),none⟩,
  ⟨(some 45),.mv (.t 10),none⟩,
  ⟨(some 46),.mv (.t 11),none⟩,
  ⟨(some 47),.mv (.t 12),none⟩,
  ⟨(some 48),.call (.c (.fn (.func bt) [] [])) [(.t 44),(.t 45),(.t 46),(.t 47),(.t 9)],none⟩,
  ⟨(some 11),.mv (.t 48),none⟩])
 (.skip)) <|
 .seq (.region [
 ⟨(some 49),.load none (.t 9),none⟩]) <|
 .block 0 (.seq (.region [
  ⟨(some 52),.bin .eql .int (.t 49) (.c (.int .i64 0)),none⟩,
  ⟨(some 51),.mv (.t 52),none⟩]) <|
 .cond (.t 51)
  (.seq (.region [
  ⟨(some 53),.mv (.t 11),none⟩,
  ⟨(some 6),.mv (.t 53),none⟩,
  ⟨(some 7),.mv (.c (.int .i64 1)),none⟩]) <|
  .ret)
  (.seq (.region [
  ⟨(some 55),.bin .eql .int (.t 49) (.c (.int .i64 12)),none⟩,
  ⟨(some 54),.mv (.t 55),none⟩]) <|
  .cond (.t 54)
  (.seq (.region [
   ⟨(some 56),.mv (.t 11),none⟩,
   ⟨(some 6),.mv (.t 56),none⟩,
   ⟨(some 7),.mv (.c (.int .i64 2)),none⟩]) <|
  .ret)
  (.seq (.region [
   ⟨(some 50),.mv (.t 11),none⟩,
   ⟨(some 6),.mv (.t 50),none⟩,
   ⟨(some 7),.mv (.c (.int .i64 0)),none⟩]) <|
  .ret))),
 none⟩
def da:aN:=⟨3,32,[],
 .seq (.region [
 ⟨(some 8),.mv (.t 1),none⟩,
 ⟨(some 6),.mv (.t 8),none⟩]) <|
 .seq (.region [
 ⟨(some 9),.mv (.t 2),none⟩,
 ⟨(some 10),.bin .sub .int (.t 9) (.c (.int .i64 1)),none⟩,
 ⟨(some 7),.mv (.t 10),none⟩]) <|
 dN 0 (.seq (.seq (.region [
  ⟨(some 11),.mv (.t 6),none⟩,
  ⟨(some 12),.mv (.t 7),none⟩,
  ⟨(some 13),.bin .lss .int (.t 11) (.t 12),none⟩]) <|
 .cond (.t 13)
  (.skip)
  (.exit 0)) <|
 .block 1 (.seq (.draw [
  ⟨(some 14),.mv (.t 0),none,[(0,none)],0,[(0,[])]⟩,
  ⟨(some 15),.mv (.t 6),none,[(6,none)],0,[(0,[])]⟩,
  ⟨(some 16),.mv (.t 0),none,[(0,none)],0,[(0,[]),(1,[])]⟩,
  ⟨(some 17),.mv (.t 7),none,[(7,none)],0,[(0,[]),(1,[])]⟩,
  ⟨(some 18),.mv (.t 0),none,[(0,none)],0,[(0,[])]⟩,
  ⟨(some 19),.mv (.t 7),none,[(7,none)],0,[(0,[])]⟩,
  ⟨(some 20),.indexAddr 1 (.t 18) (.t 19),none,[(18,(some 4)),(19,(some 5))],0,[(0,[])]⟩,
  ⟨(some 21),.load none (.t 20),none,[(20,(some 6))],0,[(0,[])]⟩,
  ⟨(some 22),.mv (.t 0),none,[(0,none)],0,[(0,[])]⟩,
  ⟨(some 23),.mv (.t 6),none,[(6,none)],0,[(0,[])]⟩,
  ⟨(some 24),.indexAddr 1 (.t 22) (.t 23),none,[(22,(some 8)),(23,(some 9))],0,[(0,[])]⟩,
  ⟨(some 25),.load none (.t 24),none,[(24,(some 10))],0,[(0,[])]⟩,
  ⟨(some 26),.indexAddr 1 (.t 14) (.t 15),none,[(14,(some 0)),(15,(some 1))],0,[(0,[])]⟩,
  ⟨none,.store 1 (.t 26) (.t 21),none,[(26,(some 12)),(21,(some 7))],2,[(0,[])]⟩,
  ⟨(some 27),.indexAddr 1 (.t 16) (.t 17),none,[(16,(some 2)),(17,(some 3))],0,[(1,[])]⟩,
  ⟨none,.store 1 (.t 27) (.t 25),none,[(27,(some 14)),(25,(some 11))],2,[(1,[])]⟩] []) <|
  .seq (.region [
  ⟨(some 28),.mv (.t 6),none⟩,
  ⟨(some 29),.bin .add .int (.t 28) (.c (.int .i64 1)),none⟩,
  ⟨(some 6),.mv (.t 29),none⟩]) <|
  .region [
  ⟨(some 30),.mv (.t 7),none⟩,
  ⟨(some 31),.bin .sub .int (.t 30) (.c (.int .i64 1)),none⟩,
  ⟨(some 7),.mv (.t 31),none⟩])),
 none⟩
def bZ:aN:=⟨3,133,[(6,none)],
 .seq (.region [
 ⟨(some 6),.mv (.c (.bool false)),none⟩]) <|
 .seq (.region [
 ⟨(some 11),.mv (.t 1),none⟩,
 ⟨(some 12),.bin .add .int (.t 11) (.c (.int .i64 1)),none⟩,
 ⟨(some 7),.mv (.t 12),none⟩]) <|
 .seq (.seq (.region [
 ⟨(some 8),.mv (.c (.int .i64 0)),none⟩]) <|
 dN 0 (.seq (.seq (.region [
  ⟨(some 13),.mv (.t 8),none⟩,
  ⟨(some 14),.bin .lss .int (.t 13) (.c (.int .i64 5)),none⟩]) <|
 .cond (.t 14)
  (.skip)
  (.exit 0)) <|
 .seq (.block 1 (.seq (dN 2 (.seq (.seq (.draw [
   ⟨(some 17),.mv (.t 7),none,[(7,none)],0,[(0,[])]⟩,
   ⟨(some 18),.mv (.t 2),none,[(2,none)],0,[(0,[])]⟩,
   ⟨(some 19),.bin .lss .int (.t 17) (.t 18),none,[(17,(some 0)),(18,(some 1))],0,[(0,[])]⟩,
   ⟨(some 20),.mv (.t 19),none,[(19,(some 2))],0,[(0,[])]⟩,
   ⟨(some 21),.mv (.t 0),(some (20,true)),[(0,none),(20,(some 3))],0,[(0,[])]⟩,
   ⟨(some 22),.mv (.t 7),(some (20,true)),[(7,none),(20,(some 3))],0,[(0,[])]⟩,
   ⟨(some 23),.indexAddr 1 (.t 21) (.t 22),(some (20,true)),[(21,(some 4)),(22,(some 5)),(20,(some 3))],0,[(0,[])]⟩,
   ⟨(some 24),.load none (.t 23),(some (20,true)),[(23,(some 6)),(20,(some 3))],0,[(0,[])]⟩,
   ⟨(some 25),.mv (.t 0),(some (20,true)),[(0,none),(20,(some 3))],0,[(0,[])]⟩,
   ⟨(some 26),.mv (.t 7),(some (20,true)),[(7,none),(20,(some 3))],0,[(0,[])]⟩,
   ⟨(some 27),.bin .sub .int (.t 26) (.c (.int .i64 1)),(some (20,true)),[(26,(some 9)),(20,(some 3))],0,[(0,[])]⟩,
   ⟨(some 28),.indexAddr 1 (.t 25) (.t 27),(some (20,true)),[(25,(some 8)),(27,(some 10)),(20,(some 3))],0,[(0,[])]⟩,
   ⟨(some 29),.load none (.t 28),(some (20,true)),[(28,(some 11)),(20,(some 3))],0,[(0,[])]⟩,
   ⟨(some 30),.call (.c (.fn (.func aD) [] [])) [(.t 24),(.t 29)],(some (20,true)),[(24,(some 7)),(29,(some 12)),(20,(some 3))],2,[(0,[])]⟩,
   ⟨(some 31),.un .not (.t 30),(some (20,true)),[(30,(some 13)),(20,(some 3))],0,[(1,[])]⟩,
   ⟨(some 32),.pick (.t 20) (.t 31) (.c (.bool false)),none,[(20,(some 3)),(31,(some 14))],0,[(1,[])]⟩] []) <|
  .cond (.t 32)
   (.skip)
   (.exit 2)) <|
  .block 3 (.region [
   ⟨(some 33),.mv (.t 7),none⟩,
   ⟨(some 34),.bin .add .int (.t 33) (.c (.int .i64 1)),none⟩,
   ⟨(some 7),.mv (.t 34),none⟩]))) <|
  .seq (.seq (.region [
  ⟨(some 35),.mv (.t 7),none⟩,
  ⟨(some 36),.mv (.t 2),none⟩,
  ⟨(some 37),.bin .eql .int (.t 35) (.t 36),none⟩]) <|
  .cond (.t 37)
  (.seq (.region [
   ⟨(some 6),.mv (.c (.bool true)),none⟩]) <|
  .ret)
  (.skip)) <|
  .seq (.seq (.region [
  ⟨(some 38),.mv (.t 2),none⟩,
  ⟨(some 39),.mv (.t 1),none⟩,
  ⟨(some 40),.bin .sub .int (.t 38) (.t 39),none⟩,
  ⟨(some 41),.bin .lss .int (.t 40) (.c (.int .i64 50)),none⟩]) <|
  .cond (.t 41)
  (.seq (.region [
   ⟨(some 6),.mv (.c (.bool false)),none⟩]) <|
  .ret)
  (.skip)) <|
  .seq (.draw [
  ⟨(some 42),.mv (.t 0),none,[(0,none)],0,[(0,[])]⟩,
  ⟨(some 43),.mv (.t 7),none,[(7,none)],0,[(0,[])]⟩,
  ⟨(some 44),.mv (.t 0),none,[(0,none)],0,[(0,[]),(1,[])]⟩,
  ⟨(some 45),.mv (.t 7),none,[(7,none)],0,[(0,[]),(1,[])]⟩,
  ⟨(some 46),.bin .sub .int (.t 45) (.c (.int .i64 1)),none,[(45,(some 3))],0,[(0,[]),(1,[])]⟩,
  ⟨(some 47),.mv (.t 0),none,[(0,none)],0,[(0,[])]⟩,
  ⟨(some 48),.mv (.t 7),none,[(7,none)],0,[(0,[])]⟩,
  ⟨(some 49),.bin .sub .int (.t 48) (.c (.int .i64 1)),none,[(48,(some 6))],0,[(0,[])]⟩,
  ⟨(some 50),.indexAddr 1 (.t 47) (.t 49),none,[(47,(some 5)),(49,(some 7))],0,[(0,[])]⟩,
  ⟨(some 51),.load none (.t 50),none,[(50,(some 8))],0,[(0,[])]⟩,
  ⟨(some 52),.mv (.t 0),none,[(0,none)],0,[(0,[])]⟩,
  ⟨(some 53),.mv (.t 7),none,[(7,none)],0,[(0,[])]⟩,
  ⟨(some 54),.indexAddr 1 (.t 52) (.t 53),none,[(52,(some 10)),(53,(some 11))],0,[(0,[])]⟩,
  ⟨(some 55),.load none (.t 54),none,[(54,(some 12))],0,[(0,[])]⟩,
  ⟨(some 56),.indexAddr 1 (.t 42) (.t 43),none,[(42,(some 0)),(43,(some 1))],0,[(0,[])]⟩,
  ⟨none,.store 1 (.t 56) (.t 51),none,[(56,(some 14)),(51,(some 9))],2,[(0,[])]⟩,
  ⟨(some 57),.indexAddr 1 (.t 44) (.t 46),none,[(44,(some 2)),(46,(some 4))],0,[(1,[])]⟩,
  ⟨none,.store 1 (.t 57) (.t 55),none,[(57,(some 16)),(55,(some 13))],2,[(1,[])]⟩] []) <|
  .seq (.seq (.region [
  ⟨(some 58),.mv (.t 7),none⟩,
  ⟨(some 59),.mv (.t 1),none⟩,
  ⟨(some 60),.bin .sub .int (.t 58) (.t 59),none⟩,
  ⟨(some 61),.bin .geq .int (.t 60) (.c (.int .i64 2)),none⟩]) <|
  .cond (.t 61)
  (.seq (.region [
   ⟨(some 62),.mv (.t 7),none⟩,
   ⟨(some 63),.bin .sub .int (.t 62) (.c (.int .i64 1)),none⟩,
   ⟨(some 9),.mv (.t 63),none⟩]) <|
  dN 4 (.seq (.seq (.region [
   ⟨(some 64),.mv (.t 9),none⟩,
   ⟨(some 65),.bin .geq .int (.t 64) (.c (.int .i64 1)),none⟩]) <|
   .cond (.t 65)
   (.skip)
   (.exit 4)) <|
   .seq (.block 5 (.seq (.seq (.draw [
    ⟨(some 68),.mv (.t 0),none,[(0,none)],0,[(0,[])]⟩,
    ⟨(some 69),.mv (.t 9),none,[(9,none)],0,[(0,[])]⟩,
    ⟨(some 70),.indexAddr 1 (.t 68) (.t 69),none,[(68,(some 0)),(69,(some 1))],0,[(0,[])]⟩,
    ⟨(some 71),.load none (.t 70),none,[(70,(some 2))],0,[(0,[])]⟩,
    ⟨(some 72),.mv (.t 0),none,[(0,none)],0,[(0,[])]⟩,
    ⟨(some 73),.mv (.t 9),none,[(9,none)],0,[(0,[])]⟩,
    ⟨(some 74),.bin .sub .int (.t 73) (.c (.int .i64 1)),none,[(73,(some 5))],0,[(0,[])]⟩,
    ⟨(some 75),.indexAddr 1 (.t 72) (.t 74),none,[(72,(some 4)),(74,(some 6))],0,[(0,[])]⟩,
    ⟨(some 76),.load none (.t 75),none,[(75,(some 7))],0,[(0,[])]⟩,
    ⟨(some 77),.call (.c (.fn (.func aD) [] [])) [(.t 71),(.t 76)],none,[(71,(some 3)),(76,(some 8))],2,[(0,[])]⟩,
    ⟨(some 78),.un .not (.t 77),none,[(77,(some 9))],0,[(1,[])]⟩] []) <|
   .cond (.t 78)
    (.exit 4)
    (.skip)) <|
   .draw [
    ⟨(some 79),.mv (.t 0),none,[(0,none)],0,[(0,[])]⟩,
    ⟨(some 80),.mv (.t 9),none,[(9,none)],0,[(0,[])]⟩,
    ⟨(some 81),.mv (.t 0),none,[(0,none)],0,[(0,[]),(1,[])]⟩,
    ⟨(some 82),.mv (.t 9),none,[(9,none)],0,[(0,[]),(1,[])]⟩,
    ⟨(some 83),.bin .sub .int (.t 82) (.c (.int .i64 1)),none,[(82,(some 3))],0,[(0,[]),(1,[])]⟩,
    ⟨(some 84),.mv (.t 0),none,[(0,none)],0,[(0,[])]⟩,
    ⟨(some 85),.mv (.t 9),none,[(9,none)],0,[(0,[])]⟩,
    ⟨(some 86),.bin .sub .int (.t 85) (.c (.int .i64 1)),none,[(85,(some 6))],0,[(0,[])]⟩,
    ⟨(some 87),.indexAddr 1 (.t 84) (.t 86),none,[(84,(some 5)),(86,(some 7))],0,[(0,[])]⟩,
    ⟨(some 88),.load none (.t 87),none,[(87,(some 8))],0,[(0,[])]⟩,
    ⟨(some 89),.mv (.t 0),none,[(0,none)],0,[(0,[])]⟩,
    ⟨(some 90),.mv (.t 9),none,[(9,none)],0,[(0,[])]⟩,
    ⟨(some 91),.indexAddr 1 (.t 89) (.t 90),none,[(89,(some 10)),(90,(some 11))],0,[(0,[])]⟩,
    ⟨(some 92),.load none (.t 91),none,[(91,(some 12))],0,[(0,[])]⟩,
    ⟨(some 93),.indexAddr 1 (.t 79) (.t 80),none,[(79,(some 0)),(80,(some 1))],0,[(0,[])]⟩,
    ⟨none,.store 1 (.t 93) (.t 88),none,[(93,(some 14)),(88,(some 9))],2,[(0,[])]⟩,
    ⟨(some 94),.indexAddr 1 (.t 81) (.t 83),none,[(81,(some 2)),(83,(some 4))],0,[(1,[])]⟩,
    ⟨none,.store 1 (.t 94) (.t 92),none,[(94,(some 16)),(92,(some 13))],2,[(1,[])]⟩] [])) <|
   .region [
   ⟨(some 66),.mv (.t 9),none⟩,
   ⟨(some 67),.bin .sub .int (.t 66) (.c (.int .i64 1)),none⟩,
   ⟨(some 9),.mv (.t 67),none⟩]))
  (.skip)) <|
  .seq (.region [
  ⟨(some 95),.mv (.t 2),none⟩,
  ⟨(some 96),.mv (.t 7),none⟩,
  ⟨(some 97),.bin .sub .int (.t 95) (.t 96),none⟩,
  ⟨(some 98),.bin .geq .int (.t 97) (.c (.int .i64 2)),none⟩]) <|
  .cond (.t 98)
  (.seq (.region [
   ⟨(some 99),.mv (.t 7),none⟩,
   ⟨(some 100),.bin .add .int (.t 99) (.c (.int .i64 1)),none⟩,
   ⟨(some 10),.mv (.t 100),none⟩]) <|
  dN 6 (.seq (.seq (.region [
   ⟨(some 101),.mv (.t 10),none⟩,
   ⟨(some 102),.mv (.t 2),none⟩,
   ⟨(some 103),.bin .lss .int (.t 101) (.t 102),none⟩]) <|
   .cond (.t 103)
   (.skip)
   (.exit 6)) <|
   .seq (.block 7 (.seq (.seq (.draw [
    ⟨(some 106),.mv (.t 0),none,[(0,none)],0,[(0,[])]⟩,
    ⟨(some 107),.mv (.t 10),none,[(10,none)],0,[(0,[])]⟩,
    ⟨(some 108),.indexAddr 1 (.t 106) (.t 107),none,[(106,(some 0)),(107,(some 1))],0,[(0,[])]⟩,
    ⟨(some 109),.load none (.t 108),none,[(108,(some 2))],0,[(0,[])]⟩,
    ⟨(some 110),.mv (.t 0),none,[(0,none)],0,[(0,[])]⟩,
    ⟨(some 111),.mv (.t 10),none,[(10,none)],0,[(0,[])]⟩,
    ⟨(some 112),.bin .sub .int (.t 111) (.c (.int .i64 1)),none,[(111,(some 5))],0,[(0,[])]⟩,
    ⟨(some 113),.indexAddr 1 (.t 110) (.t 112),none,[(110,(some 4)),(112,(some 6))],0,[(0,[])]⟩,
    ⟨(some 114),.load none (.t 113),none,[(113,(some 7))],0,[(0,[])]⟩,
    ⟨(some 115),.call (.c (.fn (.func aD) [] [])) [(.t 109),(.t 114)],none,[(109,(some 3)),(114,(some 8))],2,[(0,[])]⟩,
    ⟨(some 116),.un .not (.t 115),none,[(115,(some 9))],0,[(1,[])]⟩] []) <|
   .cond (.t 116)
    (.exit 6)
    (.skip)) <|
   .draw [
    ⟨(some 117),.mv (.t 0),none,[(0,none)],0,[(0,[])]⟩,
    ⟨(some 118),.mv (.t 10),none,[(10,none)],0,[(0,[])]⟩,
    ⟨(some 119),.mv (.t 0),none,[(0,none)],0,[(0,[]),(1,[])]⟩,
    ⟨(some 120),.mv (.t 10),none,[(10,none)],0,[(0,[]),(1,[])]⟩,
    ⟨(some 121),.bin .sub .int (.t 120) (.c (.int .i64 1)),none,[(120,(some 3))],0,[(0,[]),(1,[])]⟩,
    ⟨(some 122),.mv (.t 0),none,[(0,none)],0,[(0,[])]⟩,
    ⟨(some 123),.mv (.t 10),none,[(10,none)],0,[(0,[])]⟩,
    ⟨(some 124),.bin .sub .int (.t 123) (.c (.int .i64 1)),none,[(123,(some 6))],0,[(0,[])]⟩,
    ⟨(some 125),.indexAddr 1 (.t 122) (.t 124),none,[(122,(some 5)),(124,(some 7))],0,[(0,[])]⟩,
    ⟨(some 126),.load none (.t 125),none,[(125,(some 8))],0,[(0,[])]⟩,
    ⟨(some 127),.mv (.t 0),none,[(0,none)],0,[(0,[])]⟩,
    ⟨(some 128),.mv (.t 10),none,[(10,none)],0,[(0,[])]⟩,
    ⟨(some 129),.indexAddr 1 (.t 127) (.t 128),none,[(127,(some 10)),(128,(some 11))],0,[(0,[])]⟩,
    ⟨(some 130),.load none (.t 129),none,[(129,(some 12))],0,[(0,[])]⟩,
    ⟨(some 131),.indexAddr 1 (.t 117) (.t 118),none,[(117,(some 0)),(118,(some 1))],0,[(0,[])]⟩,
    ⟨none,.store 1 (.t 131) (.t 126),none,[(131,(some 14)),(126,(some 9))],2,[(0,[])]⟩,
    ⟨(some 132),.indexAddr 1 (.t 119) (.t 121),none,[(119,(some 2)),(121,(some 4))],0,[(1,[])]⟩,
    ⟨none,.store 1 (.t 132) (.t 130),none,[(132,(some 16)),(130,(some 13))],2,[(1,[])]⟩] [])) <|
   .region [
   ⟨(some 104),.mv (.t 10),none⟩,
   ⟨(some 105),.bin .add .int (.t 104) (.c (.int .i64 1)),none⟩,
   ⟨(some 10),.mv (.t 105),none⟩]))
  (.skip))) <|
 .region [
  ⟨(some 15),.mv (.t 8),none⟩,
  ⟨(some 16),.bin .add .int (.t 15) (.c (.int .i64 1)),none⟩,
  ⟨(some 8),.mv (.t 16),none⟩])) <|
 .seq (.region [
 ⟨(some 6),.mv (.c (.bool false)),none⟩]) <|
 .ret,
 none⟩
def iS:aN:=⟨2,17,[(4,none)],
 .seq (.region [
 ⟨(some 4),.mv (.c (.bool false)),none⟩]) <|
 .seq (.region [
 ⟨(some 5),.mv (.t 0),none⟩,
 ⟨(some 6),.call (.c (.fn (.func dg) [] [])) [(.t 5)],none⟩,
 ⟨(some 7),.mv (.t 6),none⟩,
 ⟨(some 8),.mv (.t 1),(some (7,true))⟩,
 ⟨(some 9),.call (.c (.fn (.func dg) [] [])) [(.t 8)],(some (7,true))⟩,
 ⟨(some 10),.un .not (.t 9),(some (7,true))⟩,
 ⟨(some 11),.pick (.t 7) (.t 10) (.c (.bool false)),none⟩,
 ⟨(some 12),.mv (.t 11),none⟩,
 ⟨(some 13),.mv (.t 0),(some (12,false))⟩,
 ⟨(some 14),.mv (.t 1),(some (12,false))⟩,
 ⟨(some 15),.bin .lss .int (.t 13) (.t 14),(some (12,false))⟩,
 ⟨(some 16),.pick (.t 12) (.c (.bool true)) (.t 15),none⟩,
 ⟨(some 4),.mv (.t 16),none⟩]) <|
 .ret,
 none⟩
def cK:aN:=⟨4,84,[(8,none)],
 .seq (.region [
 ⟨(some 8),.mv (.c (.int .i64 0)),none⟩]) <|
 .seq (.draw [
 ⟨(some 11),.mv (.t 0),none,[(0,none)],0,[(0,[])]⟩,
 ⟨(some 12),.mv (.t 1),none,[(1,none)],0,[(0,[])]⟩,
 ⟨(some 13),.mv (.t 0),none,[(0,none)],0,[(0,[]),(1,[])]⟩,
 ⟨(some 14),.mv (.t 3),none,[(3,none)],0,[(0,[]),(1,[])]⟩,
 ⟨(some 15),.mv (.t 0),none,[(0,none)],0,[(0,[])]⟩,
 ⟨(some 16),.mv (.t 3),none,[(3,none)],0,[(0,[])]⟩,
 ⟨(some 17),.indexAddr 1 (.t 15) (.t 16),none,[(15,(some 4)),(16,(some 5))],0,[(0,[])]⟩,
 ⟨(some 18),.load none (.t 17),none,[(17,(some 6))],0,[(0,[])]⟩,
 ⟨(some 19),.mv (.t 0),none,[(0,none)],0,[(0,[])]⟩,
 ⟨(some 20),.mv (.t 1),none,[(1,none)],0,[(0,[])]⟩,
 ⟨(some 21),.indexAddr 1 (.t 19) (.t 20),none,[(19,(some 8)),(20,(some 9))],0,[(0,[])]⟩,
 ⟨(some 22),.load none (.t 21),none,[(21,(some 10))],0,[(0,[])]⟩,
 ⟨(some 23),.indexAddr 1 (.t 11) (.t 12),none,[(11,(some 0)),(12,(some 1))],0,[(0,[])]⟩,
 ⟨none,.store 1 (.t 23) (.t 18),none,[(23,(some 12)),(18,(some 7))],2,[(0,[])]⟩,
 ⟨(some 24),.indexAddr 1 (.t 13) (.t 14),none,[(13,(some 2)),(14,(some 3))],0,[(1,[])]⟩,
 ⟨none,.store 1 (.t 24) (.t 22),none,[(24,(some 14)),(22,(some 11))],2,[(1,[])]⟩] []) <|
 .seq (.region [
 ⟨(some 25),.mv (.t 1),none⟩,
 ⟨(some 26),.bin .add .int (.t 25) (.c (.int .i64 1)),none⟩,
 ⟨(some 27),.mv (.t 2),none⟩,
 ⟨(some 28),.bin .sub .int (.t 27) (.c (.int .i64 1)),none⟩,
 ⟨(some 9),.mv (.t 26),none⟩,
 ⟨(some 10),.mv (.t 28),none⟩]) <|
 .seq (dN 0 (.block 1 (.seq (dN 2 (.seq (.seq (.draw [
   ⟨(some 29),.mv (.t 9),none,[(9,none)],0,[(0,[])]⟩,
   ⟨(some 30),.mv (.t 10),none,[(10,none)],0,[(0,[])]⟩,
   ⟨(some 31),.bin .leq .int (.t 29) (.t 30),none,[(29,(some 0)),(30,(some 1))],0,[(0,[])]⟩,
   ⟨(some 32),.mv (.t 31),none,[(31,(some 2))],0,[(0,[])]⟩,
   ⟨(some 33),.mv (.t 0),(some (32,true)),[(0,none),(32,(some 3))],0,[(0,[])]⟩,
   ⟨(some 34),.mv (.t 1),(some (32,true)),[(1,none),(32,(some 3))],0,[(0,[])]⟩,
   ⟨(some 35),.indexAddr 1 (.t 33) (.t 34),(some (32,true)),[(33,(some 4)),(34,(some 5)),(32,(some 3))],0,[(0,[])]⟩,
   ⟨(some 36),.load none (.t 35),(some (32,true)),[(35,(some 6)),(32,(some 3))],0,[(0,[])]⟩,
   ⟨(some 37),.mv (.t 0),(some (32,true)),[(0,none),(32,(some 3))],0,[(0,[])]⟩,
   ⟨(some 38),.mv (.t 9),(some (32,true)),[(9,none),(32,(some 3))],0,[(0,[])]⟩,
   ⟨(some 39),.indexAddr 1 (.t 37) (.t 38),(some (32,true)),[(37,(some 8)),(38,(some 9)),(32,(some 3))],0,[(0,[])]⟩,
   ⟨(some 40),.load none (.t 39),(some (32,true)),[(39,(some 10)),(32,(some 3))],0,[(0,[])]⟩,
   ⟨(some 41),.call (.c (.fn (.func aD) [] [])) [(.t 36),(.t 40)],(some (32,true)),[(36,(some 7)),(40,(some 11)),(32,(some 3))],2,[(0,[])]⟩,
   ⟨(some 42),.un .not (.t 41),(some (32,true)),[(41,(some 12)),(32,(some 3))],0,[(1,[])]⟩,
   ⟨(some 43),.pick (.t 32) (.t 42) (.c (.bool false)),none,[(32,(some 3)),(42,(some 13))],0,[(1,[])]⟩] []) <|
  .cond (.t 43)
   (.skip)
   (.exit 2)) <|
  .block 3 (.region [
   ⟨(some 44),.mv (.t 9),none⟩,
   ⟨(some 45),.bin .add .int (.t 44) (.c (.int .i64 1)),none⟩,
   ⟨(some 9),.mv (.t 45),none⟩]))) <|
  .seq (dN 4 (.seq (.seq (.draw [
   ⟨(some 46),.mv (.t 9),none,[(9,none)],0,[(0,[])]⟩,
   ⟨(some 47),.mv (.t 10),none,[(10,none)],0,[(0,[])]⟩,
   ⟨(some 48),.bin .leq .int (.t 46) (.t 47),none,[(46,(some 0)),(47,(some 1))],0,[(0,[])]⟩,
   ⟨(some 49),.mv (.t 48),none,[(48,(some 2))],0,[(0,[])]⟩,
   ⟨(some 50),.mv (.t 0),(some (49,true)),[(0,none),(49,(some 3))],0,[(0,[])]⟩,
   ⟨(some 51),.mv (.t 1),(some (49,true)),[(1,none),(49,(some 3))],0,[(0,[])]⟩,
   ⟨(some 52),.indexAddr 1 (.t 50) (.t 51),(some (49,true)),[(50,(some 4)),(51,(some 5)),(49,(some 3))],0,[(0,[])]⟩,
   ⟨(some 53),.load none (.t 52),(some (49,true)),[(52,(some 6)),(49,(some 3))],0,[(0,[])]⟩,
   ⟨(some 54),.mv (.t 0),(some (49,true)),[(0,none),(49,(some 3))],0,[(0,[])]⟩,
   ⟨(some 55),.mv (.t 10),(some (49,true)),[(10,none),(49,(some 3))],0,[(0,[])]⟩,
   ⟨(some 56),.indexAddr 1 (.t 54) (.t 55),(some (49,true)),[(54,(some 8)),(55,(some 9)),(49,(some 3))],0,[(0,[])]⟩,
   ⟨(some 57),.load none (.t 56),(some (49,true)),[(56,(some 10)),(49,(some 3))],0,[(0,[])]⟩,
   ⟨(some 58),.call (.c (.fn (.func aD) [] [])) [(.t 53),(.t 57)],(some (49,true)),[(53,(some 7)),(57,(some 11)),(49,(some 3))],2,[(0,[])]⟩,
   ⟨(some 59),.pick (.t 49) (.t 58) (.c (.bool false)),none,[(49,(some 3)),(58,(some 12))],0,[(1,[])]⟩] []) <|
  .cond (.t 59)
   (.skip)
   (.exit 4)) <|
  .block 5 (.region [
   ⟨(some 60),.mv (.t 10),none⟩,
   ⟨(some 61),.bin .sub .int (.t 60) (.c (.int .i64 1)),none⟩,
   ⟨(some 10),.mv (.t 61),none⟩]))) <|
  .seq (.seq (.region [
  ⟨(some 62),.mv (.t 9),none⟩,
  ⟨(some 63),.mv (.t 10),none⟩,
  ⟨(some 64),.bin .gtr .int (.t 62) (.t 63),none⟩]) <|
  .cond (.t 64)
  (.exit 0)
  (.skip)) <|
  .seq (.draw [
  ⟨(some 65),.mv (.t 0),none,[(0,none)],0,[(0,[])]⟩,
  ⟨(some 66),.mv (.t 9),none,[(9,none)],0,[(0,[])]⟩,
  ⟨(some 67),.mv (.t 0),none,[(0,none)],0,[(0,[]),(1,[])]⟩,
  ⟨(some 68),.mv (.t 10),none,[(10,none)],0,[(0,[]),(1,[])]⟩,
  ⟨(some 69),.mv (.t 0),none,[(0,none)],0,[(0,[])]⟩,
  ⟨(some 70),.mv (.t 10),none,[(10,none)],0,[(0,[])]⟩,
  ⟨(some 71),.indexAddr 1 (.t 69) (.t 70),none,[(69,(some 4)),(70,(some 5))],0,[(0,[])]⟩,
  ⟨(some 72),.load none (.t 71),none,[(71,(some 6))],0,[(0,[])]⟩,
  ⟨(some 73),.mv (.t 0),none,[(0,none)],0,[(0,[])]⟩,
  ⟨(some 74),.mv (.t 9),none,[(9,none)],0,[(0,[])]⟩,
  ⟨(some 75),.indexAddr 1 (.t 73) (.t 74),none,[(73,(some 8)),(74,(some 9))],0,[(0,[])]⟩,
  ⟨(some 76),.load none (.t 75),none,[(75,(some 10))],0,[(0,[])]⟩,
  ⟨(some 77),.indexAddr 1 (.t 65) (.t 66),none,[(65,(some 0)),(66,(some 1))],0,[(0,[])]⟩,
  ⟨none,.store 1 (.t 77) (.t 72),none,[(77,(some 12)),(72,(some 7))],2,[(0,[])]⟩,
  ⟨(some 78),.indexAddr 1 (.t 67) (.t 68),none,[(67,(some 2)),(68,(some 3))],0,[(1,[])]⟩,
  ⟨none,.store 1 (.t 78) (.t 76),none,[(78,(some 14)),(76,(some 11))],2,[(1,[])]⟩] []) <|
  .seq (.region [
  ⟨(some 79),.mv (.t 9),none⟩,
  ⟨(some 80),.bin .add .int (.t 79) (.c (.int .i64 1)),none⟩,
  ⟨(some 9),.mv (.t 80),none⟩]) <|
  .region [
  ⟨(some 81),.mv (.t 10),none⟩,
  ⟨(some 82),.bin .sub .int (.t 81) (.c (.int .i64 1)),none⟩,
  ⟨(some 10),.mv (.t 82),none⟩]))) <|
 .seq (.region [
 ⟨(some 83),.mv (.t 9),none⟩,
 ⟨(some 8),.mv (.t 83),none⟩]) <|
 .ret,
 none⟩
def dw:aN:=⟨4,168,[(8,none),(9,none)],
 .seq (.region [
 ⟨(some 8),.mv (.c (.int .i64 0)),none⟩,
 ⟨(some 9),.mv (.c (.bool false)),none⟩]) <|
 .seq (.draw [
 ⟨(some 12),.mv (.t 0),none,[(0,none)],0,[(0,[])]⟩,
 ⟨(some 13),.mv (.t 1),none,[(1,none)],0,[(0,[])]⟩,
 ⟨(some 14),.mv (.t 0),none,[(0,none)],0,[(0,[]),(1,[])]⟩,
 ⟨(some 15),.mv (.t 3),none,[(3,none)],0,[(0,[]),(1,[])]⟩,
 ⟨(some 16),.mv (.t 0),none,[(0,none)],0,[(0,[])]⟩,
 ⟨(some 17),.mv (.t 3),none,[(3,none)],0,[(0,[])]⟩,
 ⟨(some 18),.indexAddr 1 (.t 16) (.t 17),none,[(16,(some 4)),(17,(some 5))],0,[(0,[])]⟩,
 ⟨(some 19),.load none (.t 18),none,[(18,(some 6))],0,[(0,[])]⟩,
 ⟨(some 20),.mv (.t 0),none,[(0,none)],0,[(0,[])]⟩,
 ⟨(some 21),.mv (.t 1),none,[(1,none)],0,[(0,[])]⟩,
 ⟨(some 22),.indexAddr 1 (.t 20) (.t 21),none,[(20,(some 8)),(21,(some 9))],0,[(0,[])]⟩,
 ⟨(some 23),.load none (.t 22),none,[(22,(some 10))],0,[(0,[])]⟩,
 ⟨(some 24),.indexAddr 1 (.t 12) (.t 13),none,[(12,(some 0)),(13,(some 1))],0,[(0,[])]⟩,
 ⟨none,.store 1 (.t 24) (.t 19),none,[(24,(some 12)),(19,(some 7))],2,[(0,[])]⟩,
 ⟨(some 25),.indexAddr 1 (.t 14) (.t 15),none,[(14,(some 2)),(15,(some 3))],0,[(1,[])]⟩,
 ⟨none,.store 1 (.t 25) (.t 23),none,[(25,(some 14)),(23,(some 11))],2,[(1,[])]⟩] []) <|
 .seq (.region [
 ⟨(some 26),.mv (.t 1),none⟩,
 ⟨(some 27),.bin .add .int (.t 26) (.c (.int .i64 1)),none⟩,
 ⟨(some 28),.mv (.t 2),none⟩,
 ⟨(some 29),.bin .sub .int (.t 28) (.c (.int .i64 1)),none⟩,
 ⟨(some 10),.mv (.t 27),none⟩,
 ⟨(some 11),.mv (.t 29),none⟩]) <|
 .seq (dN 0 (.seq (.seq (.draw [
  ⟨(some 30),.mv (.t 10),none,[(10,none)],0,[(0,[])]⟩,
  ⟨(some 31),.mv (.t 11),none,[(11,none)],0,[(0,[])]⟩,
  ⟨(some 32),.bin .leq .int (.t 30) (.t 31),none,[(30,(some 0)),(31,(some 1))],0,[(0,[])]⟩,
  ⟨(some 33),.mv (.t 32),none,[(32,(some 2))],0,[(0,[])]⟩,
  ⟨(some 34),.mv (.t 0),(some (33,true)),[(0,none),(33,(some 3))],0,[(0,[])]⟩,
  ⟨(some 35),.mv (.t 10),(some (33,true)),[(10,none),(33,(some 3))],0,[(0,[])]⟩,
  ⟨(some 36),.indexAddr 1 (.t 34) (.t 35),(some (33,true)),[(34,(some 4)),(35,(some 5)),(33,(some 3))],0,[(0,[])]⟩,
  ⟨(some 37),.load none (.t 36),(some (33,true)),[(36,(some 6)),(33,(some 3))],0,[(0,[])]⟩,
  ⟨(some 38),.mv (.t 0),(some (33,true)),[(0,none),(33,(some 3))],0,[(0,[])]⟩,
  ⟨(some 39),.mv (.t 1),(some (33,true)),[(1,none),(33,(some 3))],0,[(0,[])]⟩,
  ⟨(some 40),.indexAddr 1 (.t 38) (.t 39),(some (33,true)),[(38,(some 8)),(39,(some 9)),(33,(some 3))],0,[(0,[])]⟩,
  ⟨(some 41),.load none (.t 40),(some (33,true)),[(40,(some 10)),(33,(some 3))],0,[(0,[])]⟩,
  ⟨(some 42),.call (.c (.fn (.func aD) [] [])) [(.t 37),(.t 41)],(some (33,true)),[(37,(some 7)),(41,(some 11)),(33,(some 3))],2,[(0,[])]⟩,
  ⟨(some 43),.pick (.t 33) (.t 42) (.c (.bool false)),none,[(33,(some 3)),(42,(some 12))],0,[(1,[])]⟩] []) <|
 .cond (.t 43)
  (.skip)
  (.exit 0)) <|
 .block 1 (.region [
  ⟨(some 44),.mv (.t 10),none⟩,
  ⟨(some 45),.bin .add .int (.t 44) (.c (.int .i64 1)),none⟩,
  ⟨(some 10),.mv (.t 45),none⟩]))) <|
 .seq (dN 2 (.seq (.seq (.draw [
  ⟨(some 46),.mv (.t 10),none,[(10,none)],0,[(0,[])]⟩,
  ⟨(some 47),.mv (.t 11),none,[(11,none)],0,[(0,[])]⟩,
  ⟨(some 48),.bin .leq .int (.t 46) (.t 47),none,[(46,(some 0)),(47,(some 1))],0,[(0,[])]⟩,
  ⟨(some 49),.mv (.t 48),none,[(48,(some 2))],0,[(0,[])]⟩,
  ⟨(some 50),.mv (.t 0),(some (49,true)),[(0,none),(49,(some 3))],0,[(0,[])]⟩,
  ⟨(some 51),.mv (.t 11),(some (49,true)),[(11,none),(49,(some 3))],0,[(0,[])]⟩,
  ⟨(some 52),.indexAddr 1 (.t 50) (.t 51),(some (49,true)),[(50,(some 4)),(51,(some 5)),(49,(some 3))],0,[(0,[])]⟩,
  ⟨(some 53),.load none (.t 52),(some (49,true)),[(52,(some 6)),(49,(some 3))],0,[(0,[])]⟩,
  ⟨(some 54),.mv (.t 0),(some (49,true)),[(0,none),(49,(some 3))],0,[(0,[])]⟩,
  ⟨(some 55),.mv (.t 1),(some (49,true)),[(1,none),(49,(some 3))],0,[(0,[])]⟩,
  ⟨(some 56),.indexAddr 1 (.t 54) (.t 55),(some (49,true)),[(54,(some 8)),(55,(some 9)),(49,(some 3))],0,[(0,[])]⟩,
  ⟨(some 57),.load none (.t 56),(some (49,true)),[(56,(some 10)),(49,(some 3))],0,[(0,[])]⟩,
  ⟨(some 58),.call (.c (.fn (.func aD) [] [])) [(.t 53),(.t 57)],(some (49,true)),[(53,(some 7)),(57,(some 11)),(49,(some 3))],2,[(0,[])]⟩,
  ⟨(some 59),.un .not (.t 58),(some (49,true)),[(58,(some 12)),(49,(some 3))],0,[(1,[])]⟩,
  ⟨(some 60),.pick (.t 49) (.t 59) (.c (.bool false)),none,[(49,(some 3)),(59,(some 13))],0,[(1,[])]⟩] []) <|
 .cond (.t 60)
  (.skip)
  (.exit 2)) <|
 .block 3 (.region [
  ⟨(some 61),.mv (.t 11),none⟩,
  ⟨(some 62),.bin .sub .int (.t 61) (.c (.int .i64 1)),none⟩,
  ⟨(some 11),.mv (.t 62),none⟩]))) <|
 .seq (.seq (.region [
 ⟨(some 63),.mv (.t 10),none⟩,
 ⟨(some 64),.mv (.t 11),none⟩,
 ⟨(some 65),.bin .gtr .int (.t 63) (.t 64),none⟩]) <|
 .cond (.t 65)
 (.seq (.draw [
  ⟨(some 66),.mv (.t 0),none,[(0,none)],0,[(0,[])]⟩,
  ⟨(some 67),.mv (.t 11),none,[(11,none)],0,[(0,[])]⟩,
  ⟨(some 68),.mv (.t 0),none,[(0,none)],0,[(0,[]),(1,[])]⟩,
  ⟨(some 69),.mv (.t 1),none,[(1,none)],0,[(0,[]),(1,[])]⟩,
  ⟨(some 70),.mv (.t 0),none,[(0,none)],0,[(0,[])]⟩,
  ⟨(some 71),.mv (.t 1),none,[(1,none)],0,[(0,[])]⟩,
  ⟨(some 72),.indexAddr 1 (.t 70) (.t 71),none,[(70,(some 4)),(71,(some 5))],0,[(0,[])]⟩,
  ⟨(some 73),.load none (.t 72),none,[(72,(some 6))],0,[(0,[])]⟩,
  ⟨(some 74),.mv (.t 0),none,[(0,none)],0,[(0,[])]⟩,
  ⟨(some 75),.mv (.t 11),none,[(11,none)],0,[(0,[])]⟩,
  ⟨(some 76),.indexAddr 1 (.t 74) (.t 75),none,[(74,(some 8)),(75,(some 9))],0,[(0,[])]⟩,
  ⟨(some 77),.load none (.t 76),none,[(76,(some 10))],0,[(0,[])]⟩,
  ⟨(some 78),.indexAddr 1 (.t 66) (.t 67),none,[(66,(some 0)),(67,(some 1))],0,[(0,[])]⟩,
  ⟨none,.store 1 (.t 78) (.t 73),none,[(78,(some 12)),(73,(some 7))],2,[(0,[])]⟩,
  ⟨(some 79),.indexAddr 1 (.t 68) (.t 69),none,[(68,(some 2)),(69,(some 3))],0,[(1,[])]⟩,
  ⟨none,.store 1 (.t 79) (.t 77),none,[(79,(some 14)),(77,(some 11))],2,[(1,[])]⟩] []) <|
 .seq (.region [
  ⟨(some 80),.mv (.t 11),none⟩,
  ⟨(some 8),.mv (.t 80),none⟩,
  ⟨(some 9),.mv (.c (.bool true)),none⟩]) <|
 .ret)
 (.skip)) <|
 .seq (.draw [
 ⟨(some 81),.mv (.t 0),none,[(0,none)],0,[(0,[])]⟩,
 ⟨(some 82),.mv (.t 10),none,[(10,none)],0,[(0,[])]⟩,
 ⟨(some 83),.mv (.t 0),none,[(0,none)],0,[(0,[]),(1,[])]⟩,
 ⟨(some 84),.mv (.t 11),none,[(11,none)],0,[(0,[]),(1,[])]⟩,
 ⟨(some 85),.mv (.t 0),none,[(0,none)],0,[(0,[])]⟩,
 ⟨(some 86),.mv (.t 11),none,[(11,none)],0,[(0,[])]⟩,
 ⟨(some 87),.indexAddr 1 (.t 85) (.t 86),none,[(85,(some 4)),(86,(some 5))],0,[(0,[])]⟩,
 ⟨(some 88),.load none (.t 87),none,[(87,(some 6))],0,[(0,[])]⟩,
 ⟨(some 89),.mv (.t 0),none,[(0,none)],0,[(0,[])]⟩,
 ⟨(some 90),.mv (.t 10),none,[(10,none)],0,[(0,[])]⟩,
 ⟨(some 91),.indexAddr 1 (.t 89) (.t 90),none,[(89,(some 8)),(90,(some 9))],0,[(0,[])]⟩,
 ⟨(some 92),.load none (.t 91),none,[(91,(some 10))],0,[(0,[])]⟩,
 ⟨(some 93),.indexAddr 1 (.t 81) (.t 82),none,[(81,(some 0)),(82,(some 1))],0,[(0,[])]⟩,
 ⟨none,.store 1 (.t 93) (.t 88),none,[(93,(some 12)),(88,(some 7))],2,[(0,[])]⟩,
 ⟨(some 94),.indexAddr 1 (.t 83) (.t 84),none,[(83,(some 2)),(84,(some 3))],0,[(1,[])]⟩,
 ⟨none,.store 1 (.t 94) (.t 92),none,[(94,(some 14)),(92,(some 11))],2,[(1,[])]⟩] []) <|
 .seq (.region [
 ⟨(some 95),.mv (.t 10),none⟩,
 ⟨(some 96),.bin .add .int (.t 95) (.c (.int .i64 1)),none⟩,
 ⟨(some 10),.mv (.t 96),none⟩]) <|
 .seq (.region [
 ⟨(some 97),.mv (.t 11),none⟩,
 ⟨(some 98),.bin .sub .int (.t 97) (.c (.int .i64 1)),none⟩,
 ⟨(some 11),.mv (.t 98),none⟩]) <|
 .seq (dN 4 (.block 5 (.seq (dN 6 (.seq (.seq (.draw [
   ⟨(some 99),.mv (.t 10),none,[(10,none)],0,[(0,[])]⟩,
   ⟨(some 100),.mv (.t 11),none,[(11,none)],0,[(0,[])]⟩,
   ⟨(some 101),.bin .leq .int (.t 99) (.t 100),none,[(99,(some 0)),(100,(some 1))],0,[(0,[])]⟩,
   ⟨(some 102),.mv (.t 101),none,[(101,(some 2))],0,[(0,[])]⟩,
   ⟨(some 103),.mv (.t 0),(some (102,true)),[(0,none),(102,(some 3))],0,[(0,[])]⟩,
   ⟨(some 104),.mv (.t 10),(some (102,true)),[(10,none),(102,(some 3))],0,[(0,[])]⟩,
   ⟨(some 105),.indexAddr 1 (.t 103) (.t 104),(some (102,true)),[(103,(some 4)),(104,(some 5)),(102,(some 3))],0,[(0,[])]⟩,
   ⟨(some 106),.load none (.t 105),(some (102,true)),[(105,(some 6)),(102,(some 3))],0,[(0,[])]⟩,
   ⟨(some 107),.mv (.t 0),(some (102,true)),[(0,none),(102,(some 3))],0,[(0,[])]⟩,
   ⟨(some 108),.mv (.t 1),(some (102,true)),[(1,none),(102,(some 3))],0,[(0,[])]⟩,
   ⟨(some 109),.indexAddr 1 (.t 107) (.t 108),(some (102,true)),[(107,(some 8)),(108,(some 9)),(102,(some 3))],0,[(0,[])]⟩,
   ⟨(some 110),.load none (.t 109),(some (102,true)),[(109,(some 10)),(102,(some 3))],0,[(0,[])]⟩,
   ⟨(some 111),.call (.c (.fn (.func aD) [] [])) [(.t 106),(.t 110)],(some (102,true)),[(106,(some 7)),(110,(some 11)),(102,(some 3))],2,[(0,[])]⟩,
   ⟨(some 112),.pick (.t 102) (.t 111) (.c (.bool false)),none,[(102,(some 3)),(111,(some 12))],0,[(1,[])]⟩] []) <|
  .cond (.t 112)
   (.skip)
   (.exit 6)) <|
  .block 7 (.region [
   ⟨(some 113),.mv (.t 10),none⟩,
   ⟨(some 114),.bin .add .int (.t 113) (.c (.int .i64 1)),none⟩,
   ⟨(some 10),.mv (.t 114),none⟩]))) <|
  .seq (dN 8 (.seq (.seq (.draw [
   ⟨(some 115),.mv (.t 10),none,[(10,none)],0,[(0,[])]⟩,
   ⟨(some 116),.mv (.t 11),none,[(11,none)],0,[(0,[])]⟩,
   ⟨(some 117),.bin .leq .int (.t 115) (.t 116),none,[(115,(some 0)),(116,(some 1))],0,[(0,[])]⟩,
   ⟨(some 118),.mv (.t 117),none,[(117,(some 2))],0,[(0,[])]⟩,
   ⟨(some 119),.mv (.t 0),(some (118,true)),[(0,none),(118,(some 3))],0,[(0,[])]⟩,
   ⟨(some 120),.mv (.t 11),(some (118,true)),[(11,none),(118,(some 3))],0,[(0,[])]⟩,
   ⟨(some 121),.indexAddr 1 (.t 119) (.t 120),(some (118,true)),[(119,(some 4)),(120,(some 5)),(118,(some 3))],0,[(0,[])]⟩,
   ⟨(some 122),.load none (.t 121),(some (118,true)),[(121,(some 6)),(118,(some 3))],0,[(0,[])]⟩,
   ⟨(some 123),.mv (.t 0),(some (118,true)),[(0,none),(118,(some 3))],0,[(0,[])]⟩,
   ⟨(some 124),.mv (.t 1),(some (118,true)),[(1,none),(118,(some 3))],0,[(0,[])]⟩,
   ⟨(some 125),.indexAddr 1 (.t 123) (.t 124),(some (118,true)),[(123,(some 8)),(124,(some 9)),(118,(some 3))],0,[(0,[])]⟩,
   ⟨(some 126),.load none (.t 125),(some (118,true)),[(125,(some 10)),(118,(some 3))],0,[(0,[])]⟩,
   ⟨(some 127),.call (.c (.fn (.func aD) [] [])) [(.t 122),(.t 126)],(some (118,true)),[(122,(some 7)),(126,(some 11)),(118,(some 3))],2,[(0,[])]⟩,
   ⟨(some 128),.un .not (.t 127),(some (118,true)),[(127,(some 12)),(118,(some 3))],0,[(1,[])]⟩,
   ⟨(some 129),.pick (.t 118) (.t 128) (.c (.bool false)),none,[(118,(some 3)),(128,(some 13))],0,[(1,[])]⟩] []) <|
  .cond (.t 129)
   (.skip)
   (.exit 8)) <|
  .block 9 (.region [
   ⟨(some 130),.mv (.t 11),none⟩,
   ⟨(some 131),.bin .sub .int (.t 130) (.c (.int .i64 1)),none⟩,
   ⟨(some 11),.mv (.t 131),none⟩]))) <|
  .seq (.seq (.region [
  ⟨(some 132),.mv (.t 10),none⟩,
  ⟨(some 133),.mv (.t 11),none⟩,
  ⟨(some 134),.bin .gtr .int (.t 132) (.t 133),none⟩]) <|
  .cond (.t 134)
  (.exit 4)
  (.skip)) <|
  .seq (.draw [
  ⟨(some 135),.mv (.t 0),none,[(0,none)],0,[(0,[])]⟩,
  ⟨(some 136),.mv (.t 10),none,[(10,none)],0,[(0,[])]⟩,
  ⟨(some 137),.mv (.t 0),none,[(0,none)],0,[(0,[]),(1,[])]⟩,
  ⟨(some 138),.mv (.t 11),none,[(11,none)],0,[(0,[]),(1,[])]⟩,
  ⟨(some 139),.mv (.t 0),none,[(0,none)],0,[(0,[])]⟩,
  ⟨(some 140),.mv (.t 11),none,[(11,none)],0,[(0,[])]⟩,
  ⟨(some 141),.indexAddr 1 (.t 139) (.t 140),none,[(139,(some 4)),(140,(some 5))],0,[(0,[])]⟩,
  ⟨(some 142),.load none (.t 141),none,[(141,(some 6))],0,[(0,[])]⟩,
  ⟨(some 143),.mv (.t 0),none,[(0,none)],0,[(0,[])]⟩,
  ⟨(some 144),.mv (.t 10),none,[(10,none)],0,[(0,[])]⟩,
  ⟨(some 145),.indexAddr 1 (.t 143) (.t 144),none,[(143,(some 8)),(144,(some 9))],0,[(0,[])]⟩,
  ⟨(some 146),.load none (.t 145),none,[(145,(some 10))],0,[(0,[])]⟩,
  ⟨(some 147),.indexAddr 1 (.t 135) (.t 136),none,[(135,(some 0)),(136,(some 1))],0,[(0,[])]⟩,
  ⟨none,.store 1 (.t 147) (.t 142),none,[(147,(some 12)),(142,(some 7))],2,[(0,[])]⟩,
  ⟨(some 148),.indexAddr 1 (.t 137) (.t 138),none,[(137,(some 2)),(138,(some 3))],0,[(1,[])]⟩,
  ⟨none,.store 1 (.t 148) (.t 146),none,[(148,(some 14)),(146,(some 11))],2,[(1,[])]⟩] []) <|
  .seq (.region [
  ⟨(some 149),.mv (.t 10),none⟩,
  ⟨(some 150),.bin .add .int (.t 149) (.c (.int .i64 1)),none⟩,
  ⟨(some 10),.mv (.t 150),none⟩]) <|
  .region [
  ⟨(some 151),.mv (.t 11),none⟩,
  ⟨(some 152),.bin .sub .int (.t 151) (.c (.int .i64 1)),none⟩,
  ⟨(some 11),.mv (.t 152),none⟩]))) <|
 .seq (.draw [
 ⟨(some 153),.mv (.t 0),none,[(0,none)],0,[(0,[])]⟩,
 ⟨(some 154),.mv (.t 11),none,[(11,none)],0,[(0,[])]⟩,
 ⟨(some 155),.mv (.t 0),none,[(0,none)],0,[(0,[]),(1,[])]⟩,
 ⟨(some 156),.mv (.t 1),none,[(1,none)],0,[(0,[]),(1,[])]⟩,
 ⟨(some 157),.mv (.t 0),none,[(0,none)],0,[(0,[])]⟩,
 ⟨(some 158),.mv (.t 1),none,[(1,none)],0,[(0,[])]⟩,
 ⟨(some 159),.indexAddr 1 (.t 157) (.t 158),none,[(157,(some 4)),(158,(some 5))],0,[(0,[])]⟩,
 ⟨(some 160),.load none (.t 159),none,[(159,(some 6))],0,[(0,[])]⟩,
 ⟨(some 161),.mv (.t 0),none,[(0,none)],0,[(0,[])]⟩,
 ⟨(some 162),.mv (.t 11),none,[(11,none)],0,[(0,[])]⟩,
 ⟨(some 163),.indexAddr 1 (.t 161) (.t 162),none,[(161,(some 8)),(162,(some 9))],0,[(0,[])]⟩,
 ⟨(some 164),.load none (.t 163),none,[(163,(some 10))],0,[(0,[])]⟩,
 ⟨(some 165),.indexAddr 1 (.t 153) (.t 154),none,[(153,(some 0)),(154,(some 1))],0,[(0,[])]⟩,
 ⟨none,.store 1 (.t 165) (.t 160),none,[(165,(some 12)),(160,(some 7))],2,[(0,[])]⟩,
 ⟨(some 166),.indexAddr 1 (.t 155) (.t 156),none,[(155,(some 2)),(156,(some 3))],0,[(1,[])]⟩,
 ⟨none,.store 1 (.t 166) (.t 164),none,[(166,(some 14)),(164,(some 11))],2,[(1,[])]⟩] []) <|
 .seq (.region [
 ⟨(some 167),.mv (.t 11),none⟩,
 ⟨(some 8),.mv (.t 167),none⟩,
 ⟨(some 9),.mv (.c (.bool false)),none⟩]) <|
 .ret,
 none⟩
def c_facetroomref13_MayExpr:aN:=⟨2,81,[(4,none)],
 .seq (.region [
 ⟨(some 2),.box ah (.t 0),none⟩,
 ⟨(some 3),.box au (.t 1),none⟩,
 ⟨(some 4),.mv (.c (.bool false)),none⟩]) <|
 .seq (.region [
 ⟨(some 5),.mv (.c (.int .i64 2)),none⟩]) <|
 .seq (.seq (.region [
 ⟨(some 7),.fieldAddr 0 (.t 3),none⟩,
 ⟨(some 8),.load none (.t 7),none⟩]) <|
 .block 0 (.seq (.region [
  ⟨(some 10),.bin .eql .int (.t 8) (.c (.int .u8 1)),none⟩,
  ⟨(some 9),.mv (.t 10),none⟩]) <|
 .cond (.t 9)
  (.seq (.region [
  ⟨(some 5),.mv (.c (.int .i64 0)),none⟩]) <|
  .seq (.region [
  ⟨(some 11),.fieldAddr 2 (.t 3),none⟩,
  ⟨(some 12),.load none (.t 11),none⟩,
  ⟨(some 13),.bin .lss .int (.t 12) (.c (.int .i64 0)),none⟩]) <|
  .cond (.t 13)
  (.seq (.region [
   ⟨(some 4),.mv (.c (.bool false)),none⟩]) <|
  .ret)
  (.skip))
  (.seq (.region [
  ⟨(some 15),.bin .eql .int (.t 8) (.c (.int .u8 2)),none⟩,
  ⟨(some 14),.mv (.t 15),none⟩]) <|
  .cond (.t 14)
  (.seq (.region [
   ⟨(some 5),.mv (.c (.int .i64 0)),none⟩]) <|
  .seq (.region [
   ⟨(some 16),.fieldAddr 2 (.t 3),none⟩,
   ⟨(some 17),.load none (.t 16),none⟩,
   ⟨(some 18),.bin .lss .int (.t 17) (.c (.int .i64 0)),none⟩,
   ⟨(some 19),.mv (.t 18),none⟩,
   ⟨(some 20),.fieldAddr 2 (.t 3),(some (19,false))⟩,
   ⟨(some 21),.load none (.t 20),(some (19,false))⟩,
   ⟨(some 22),.fieldAddr 0 (.t 2),(some (19,false))⟩,
   ⟨(some 23),.load none (.t 22),(some (19,false))⟩,
   ⟨(some 24),.bin .geq .int (.t 21) (.t 23),(some (19,false))⟩,
   ⟨(some 25),.pick (.t 19) (.c (.bool true)) (.t 24),none⟩]) <|
  .cond (.t 25)
   (.seq (.region [
   ⟨(some 4),.mv (.c (.bool false)),none⟩]) <|
   .ret)
   (.skip))
  (.seq (.region [
   ⟨(some 27),.bin .eql .int (.t 8) (.c (.int .u8 3)),none⟩,
   ⟨(some 26),.mv (.t 27),none⟩]) <|
  .cond (.t 26)
   (.seq (.region [
   ⟨(some 5),.mv (.c (.int .i64 1)),none⟩]) <|
   .seq (.region [
   ⟨(some 28),.fieldAddr 2 (.t 3),none⟩,
   ⟨(some 29),.load none (.t 28),none⟩,
   ⟨(some 30),.bin .lss .int (.t 29) (.c (.int .i64 0)),none⟩,
   ⟨(some 31),.mv (.t 30),none⟩,
   ⟨(some 32),.fieldAddr 2 (.t 3),(some (31,false))⟩,
   ⟨(some 33),.load none (.t 32),(some (31,false))⟩,
   ⟨(some 34),.fieldAddr 1 (.t 2),(some (31,false))⟩,
   ⟨(some 35),.load none (.t 34),(some (31,false))⟩,
   ⟨(some 36),.len (.t 35),(some (31,false))⟩,
   ⟨(some 37),.bin .geq .int (.t 33) (.t 36),(some (31,false))⟩,
   ⟨(some 38),.pick (.t 31) (.c (.bool true)) (.t 37),none⟩]) <|
   .cond (.t 38)
   (.seq (.region [
    ⟨(some 4),.mv (.c (.bool false)),none⟩]) <|
   .ret)
   (.skip))
   (.seq (.region [
   ⟨(some 40),.bin .eql .int (.t 8) (.c (.int .u8 4)),none⟩,
   ⟨(some 39),.mv (.t 40),none⟩]) <|
   .cond (.t 39)
   (.region [
    ⟨(some 5),.mv (.c (.int .i64 1)),none⟩])
   (.skip)))))) <|
 .seq (.seq (.region [
 ⟨(some 41),.fieldAddr 0 (.t 3),none⟩,
 ⟨(some 42),.load none (.t 41),none⟩,
 ⟨(some 43),.bin .lss .int (.t 42) (.c (.int .u8 1)),none⟩,
 ⟨(some 44),.mv (.t 43),none⟩,
 ⟨(some 45),.fieldAddr 0 (.t 3),(some (44,false))⟩,
 ⟨(some 46),.load none (.t 45),(some (44,false))⟩,
 ⟨(some 47),.bin .gtr .int (.t 46) (.c (.int .u8 11)),(some (44,false))⟩,
 ⟨(some 48),.pick (.t 44) (.c (.bool true)) (.t 47),none⟩,
 ⟨(some 49),.mv (.t 48),none⟩,
 ⟨(some 50),.fieldAddr 3 (.t 3),(some (49,false))⟩,
 ⟨(some 51),.load none (.t 50),(some (49,false))⟩,
 ⟨(some 52),.len (.t 51),(some (49,false))⟩,
 ⟨(some 53),.mv (.t 5),(some (49,false))⟩,
 ⟨(some 54),.bin .neq .int (.t 52) (.t 53),(some (49,false))⟩,
 ⟨(some 55),.pick (.t 49) (.c (.bool true)) (.t 54),none⟩,
 ⟨(some 56),.mv (.t 55),none⟩,
 ⟨(some 57),.fieldAddr 0 (.t 3),(some (56,false))⟩,
 ⟨(some 58),.load none (.t 57),(some (56,false))⟩,
 ⟨(some 59),.bin .gtr .int (.t 58) (.c (.int .u8 3)),(some (56,false))⟩,
 ⟨(some 60),.mv (.t 59),(some (56,false))⟩,
 ⟨(some 61),.fieldAddr 2 (.t 3),(some (60,true))⟩,
 ⟨(some 62),.load none (.t 61),(some (60,true))⟩,
 ⟨(some 63),.bin .neq .int (.t 62) (.c (.int .i64 0)),(some (60,true))⟩,
 ⟨(some 64),.pick (.t 60) (.t 63) (.c (.bool false)),(some (56,false))⟩,
 ⟨(some 65),.pick (.t 56) (.c (.bool true)) (.t 64),none⟩]) <|
 .cond (.t 65)
 (.seq (.region [
  ⟨(some 4),.mv (.c (.bool false)),none⟩]) <|
 .ret)
 (.skip)) <|
 .seq (.seq (.region [
 ⟨(some 6),.mv (.c (.int .i64 0)),none⟩]) <|
 dN 1 (.seq (.seq (.region [
  ⟨(some 66),.mv (.t 6),none⟩,
  ⟨(some 67),.fieldAddr 3 (.t 3),none⟩,
  ⟨(some 68),.load none (.t 67),none⟩,
  ⟨(some 69),.len (.t 68),none⟩,
  ⟨(some 70),.bin .lss .int (.t 66) (.t 69),none⟩]) <|
 .cond (.t 70)
  (.skip)
  (.exit 1)) <|
 .seq (.block 2 (.seq (.draw [
  ⟨(some 73),.load (some 6) (.t 2),none,[(2,none)],0,[(0,[])]⟩,
  ⟨(some 74),.fieldAddr 3 (.t 3),none,[(3,none)],0,[(0,[])]⟩,
  ⟨(some 75),.load none (.t 74),none,[(74,(some 1))],0,[(0,[])]⟩,
  ⟨(some 76),.mv (.t 6),none,[(6,none)],0,[(0,[])]⟩,
  ⟨(some 77),.indexAddr 5 (.t 75) (.t 76),none,[(75,(some 2)),(76,(some 3))],0,[(0,[])]⟩,
  ⟨(some 78),.load (some 5) (.t 77),none,[(77,(some 4))],0,[(0,[])]⟩,
  ⟨(some 79),.call (.c (.fn (.func bz) [] [])) [(.t 73),(.t 78)],none,[(73,(some 0)),(78,(some 5))],2,[(0,[])]⟩,
  ⟨(some 80),.un .not (.t 79),none,[(79,(some 6))],0,[(1,[])]⟩] []) <|
  .cond (.t 80)
  (.seq (.region [
   ⟨(some 4),.mv (.c (.bool false)),none⟩]) <|
  .ret)
  (.skip))) <|
 .region [
  ⟨(some 71),.mv (.t 6),none⟩,
  ⟨(some 72),.bin .add .int (.t 71) (.c (.int .i64 1)),none⟩,
  ⟨(some 6),.mv (.t 72),none⟩])) <|
 .seq (.region [
 ⟨(some 4),.mv (.c (.bool true)),none⟩]) <|
 .ret,
 none⟩
def fc:aN:=⟨1,10,[(2,none)],
 .seq (.region [
 ⟨(some 2),.mv (.c (.int .u8 0)),none⟩]) <|
 .seq (.region [
 ⟨(some 4),.buildSlice ap 1 [(.int .u8 0),(.int .u8 0),(.int .u8 0),(.int .u8 0),(.int .u8 0),(.int .u8 0)] 6 [((0,1),(.c (.int .u8 6))),((1,1),(.c (.int .u8 5))),((2,1),(.c (.int .u8 4))),((3,1),(.c (.int .u8 3))),((4,1),(.c (.int .u8 8))),((5,1),(.c (.int .u8 7)))],none⟩,
 ⟨(some 3),.mv (.t 4),none⟩]) <|
 .seq (.region [
 ⟨(some 5),.mv (.t 3),none⟩,
 ⟨(some 6),.mv (.t 0),none⟩,
 ⟨(some 7),.bin .sub .int (.t 6) (.c (.int .u8 3)),none⟩,
 ⟨(some 8),.indexAddr 1 (.t 5) (.t 7),none⟩,
 ⟨(some 9),.load none (.t 8),none⟩,
 ⟨(some 2),.mv (.t 9),none⟩]) <|
 .ret,
 none⟩
def c_facetroomref13_alike:aN:=⟨2,55,[(4,none)],
 .seq (.region [
 ⟨(some 4),.mv (.c (.bool false)),none⟩]) <|
 .seq (.seq (.region [
 ⟨(some 6),.mv (.t 0),none⟩,
 ⟨(some 7),.len (.t 6),none⟩,
 ⟨(some 8),.mv (.t 1),none⟩,
 ⟨(some 9),.len (.t 8),none⟩,
 ⟨(some 10),.bin .neq .int (.t 7) (.t 9),none⟩]) <|
 .cond (.t 10)
 (.seq (.region [
  ⟨(some 4),.mv (.c (.bool false)),none⟩]) <|
 .ret)
 (.skip)) <|
 .seq (.seq (.region [
 ⟨(some 5),.mv (.c (.int .i64 0)),none⟩]) <|
 dN 0 (.seq (.seq (.region [
  ⟨(some 11),.mv (.t 5),none⟩,
  ⟨(some 12),.mv (.t 0),none⟩,
  ⟨(some 13),.len (.t 12),none⟩,
  ⟨(some 14),.bin .lss .int (.t 11) (.t 13),none⟩]) <|
 .cond (.t 14)
  (.skip)
  (.exit 0)) <|
 .seq (.block 1 (.seq (.draw [
  ⟨(some 17),.mv (.t 0),none,[(0,none)],0,[(0,[])]⟩,
  ⟨(some 18),.mv (.t 5),none,[(5,none)],0,[(0,[])]⟩,
  ⟨(some 19),.indexAddr 5 (.t 17) (.t 18),none,[(17,(some 0)),(18,(some 1))],0,[(0,[])]⟩,
  ⟨(some 20),.fieldAddr 0 (.t 19),none,[(19,(some 2))],0,[(0,[])]⟩,
  ⟨(some 21),.load none (.t 20),none,[(20,(some 3))],0,[(0,[])]⟩,
  ⟨(some 22),.mv (.t 1),none,[(1,none)],0,[(0,[])]⟩,
  ⟨(some 23),.mv (.t 5),none,[(5,none)],0,[(0,[])]⟩,
  ⟨(some 24),.indexAddr 5 (.t 22) (.t 23),none,[(22,(some 5)),(23,(some 6))],0,[(0,[])]⟩,
  ⟨(some 25),.fieldAddr 0 (.t 24),none,[(24,(some 7))],0,[(0,[])]⟩,
  ⟨(some 26),.load none (.t 25),none,[(25,(some 8))],0,[(0,[])]⟩,
  ⟨(some 27),.bin .neq .int (.t 21) (.t 26),none,[(21,(some 4)),(26,(some 9))],0,[(0,[])]⟩,
  ⟨(some 28),.mv (.t 27),none,[(27,(some 10))],0,[(0,[])]⟩,
  ⟨(some 29),.mv (.t 0),(some (28,false)),[(0,none),(28,(some 11))],0,[(0,[])]⟩,
  ⟨(some 30),.mv (.t 5),(some (28,false)),[(5,none),(28,(some 11))],0,[(0,[])]⟩,
  ⟨(some 31),.indexAddr 5 (.t 29) (.t 30),(some (28,false)),[(29,(some 12)),(30,(some 13)),(28,(some 11))],0,[(0,[])]⟩,
  ⟨(some 32),.fieldAddr 2 (.t 31),(some (28,false)),[(31,(some 14)),(28,(some 11))],0,[(0,[])]⟩,
  ⟨(some 33),.load none (.t 32),(some (28,false)),[(32,(some 15)),(28,(some 11))],0,[(0,[])]⟩,
  ⟨(some 34),.mv (.t 1),(some (28,false)),[(1,none),(28,(some 11))],0,[(0,[])]⟩,
  ⟨(some 35),.mv (.t 5),(some (28,false)),[(5,none),(28,(some 11))],0,[(0,[])]⟩,
  ⟨(some 36),.indexAddr 5 (.t 34) (.t 35),(some (28,false)),[(34,(some 17)),(35,(some 18)),(28,(some 11))],0,[(0,[])]⟩,
  ⟨(some 37),.fieldAddr 2 (.t 36),(some (28,false)),[(36,(some 19)),(28,(some 11))],0,[(0,[])]⟩,
  ⟨(some 38),.load none (.t 37),(some (28,false)),[(37,(some 20)),(28,(some 11))],0,[(0,[])]⟩,
  ⟨(some 39),.bin .neq .int (.t 33) (.t 38),(some (28,false)),[(33,(some 16)),(38,(some 21)),(28,(some 11))],0,[(0,[])]⟩,
  ⟨(some 40),.pick (.t 28) (.c (.bool true)) (.t 39),none,[(28,(some 11)),(39,(some 22))],0,[(0,[])]⟩,
  ⟨(some 41),.mv (.t 40),none,[(40,(some 23))],0,[(0,[])]⟩,
  ⟨(some 42),.mv (.t 0),(some (41,false)),[(0,none),(41,(some 24))],0,[(0,[])]⟩,
  ⟨(some 43),.mv (.t 5),(some (41,false)),[(5,none),(41,(some 24))],0,[(0,[])]⟩,
  ⟨(some 44),.indexAddr 5 (.t 42) (.t 43),(some (41,false)),[(42,(some 25)),(43,(some 26)),(41,(some 24))],0,[(0,[])]⟩,
  ⟨(some 45),.fieldAddr 3 (.t 44),(some (41,false)),[(44,(some 27)),(41,(some 24))],0,[(0,[])]⟩,
  ⟨(some 46),.load none (.t 45),(some (41,false)),[(45,(some 28)),(41,(some 24))],0,[(0,[])]⟩,
  ⟨(some 47),.mv (.t 1),(some (41,false)),[(1,none),(41,(some 24))],0,[(0,[])]⟩,
  ⟨(some 48),.mv (.t 5),(some (41,false)),[(5,none),(41,(some 24))],0,[(0,[])]⟩,
  ⟨(some 49),.indexAddr 5 (.t 47) (.t 48),(some (41,false)),[(47,(some 30)),(48,(some 31)),(41,(some 24))],0,[(0,[])]⟩,
  ⟨(some 50),.fieldAddr 3 (.t 49),(some (41,false)),[(49,(some 32)),(41,(some 24))],0,[(0,[])]⟩,
  ⟨(some 51),.load none (.t 50),(some (41,false)),[(50,(some 33)),(41,(some 24))],0,[(0,[])]⟩,
  ⟨(some 52),.call (.c (.fn (.func bY) [] [])) [(.t 46),(.t 51)],(some (41,false)),[(46,(some 29)),(51,(some 34)),(41,(some 24))],2,[(0,[])]⟩,
  ⟨(some 53),.un .not (.t 52),(some (41,false)),[(52,(some 35)),(41,(some 24))],0,[(1,[])]⟩,
  ⟨(some 54),.pick (.t 41) (.c (.bool true)) (.t 53),none,[(41,(some 24)),(53,(some 36))],0,[(1,[])]⟩] []) <|
  .cond (.t 54)
  (.seq (.region [
   ⟨(some 4),.mv (.c (.bool false)),none⟩]) <|
  .ret)
  (.skip))) <|
 .region [
  ⟨(some 15),.mv (.t 5),none⟩,
  ⟨(some 16),.bin .add .int (.t 15) (.c (.int .i64 1)),none⟩,
  ⟨(some 5),.mv (.t 16),none⟩])) <|
 .seq (.region [
 ⟨(some 4),.mv (.c (.bool true)),none⟩]) <|
 .ret,
 none⟩
def mR:aN:=⟨1,6,[(2,none)],
 .seq (.region [
 ⟨(some 1),.box ah (.t 0),none⟩,
 ⟨(some 2),.mv (.c .nilFn),none⟩]) <|
 .seq (.region [
 ⟨(some 3),.alloc bI [.nilFn],none⟩]) <|
 .seq (.region [
 ⟨(some 4),.mkfn (.func bT) [] [(.t 1),(.t 3)],none⟩,
 ⟨none,.store 1 (.t 3) (.t 4),none⟩]) <|
 .seq (.region [
 ⟨(some 5),.load none (.t 3),none⟩,
 ⟨(some 2),.mv (.t 5),none⟩]) <|
 .ret,
 none⟩
def jK:aN:=⟨2,8,[(3,none)],
 .seq (.region [
 ⟨(some 2),.box au (.t 0),none⟩,
 ⟨(some 3),.mv (.c (.bool false)),none⟩]) <|
 .seq (.region [
 ⟨(some 4),.load none (.t 1),none⟩,
 ⟨(some 5),.load (some 5) (.t 2),none⟩,
 ⟨(some 6),.call (.t 4) [(.t 5)],none⟩,
 ⟨(some 7),.un .not (.t 6),none⟩,
 ⟨(some 3),.mv (.t 7),none⟩]) <|
 .ret,
 none⟩
def b6:aN:=⟨2,9,[(4,none)],
 .seq (.region [
 ⟨(some 4),.mv (.c (.bool false)),none⟩]) <|
 .seq (.region [
 ⟨(some 5),.mv (.t 0),none⟩,
 ⟨(some 6),.mv (.t 1),none⟩,
 ⟨(some 7),.call (.c (.fn (.func a8) [] [])) [(.t 5),(.t 6)],none⟩,
 ⟨(some 8),.bin .geq .int (.t 7) (.c (.int .i64 0)),none⟩,
 ⟨(some 4),.mv (.t 8),none⟩]) <|
 .ret,
 none⟩
def dK:aN:=⟨4,76,[],
 .seq (.region [
 ⟨(some 10),.mv (.t 1),none⟩,
 ⟨(some 8),.mv (.t 10),none⟩]) <|
 dN 0 (.block 1 (.seq (.region [
  ⟨(some 11),.mv (.t 8),none⟩,
  ⟨(some 12),.bin .mul .int (.c (.int .i64 2)) (.t 11),none⟩,
  ⟨(some 13),.bin .add .int (.t 12) (.c (.int .i64 1)),none⟩,
  ⟨(some 9),.mv (.t 13),none⟩]) <|
  .seq (.seq (.region [
  ⟨(some 14),.mv (.t 9),none⟩,
  ⟨(some 15),.mv (.t 2),none⟩,
  ⟨(some 16),.bin .geq .int (.t 14) (.t 15),none⟩]) <|
  .cond (.t 16)
  (.exit 0)
  (.skip)) <|
  .seq (.seq (.draw [
  ⟨(some 17),.mv (.t 9),none,[(9,none)],0,[(0,[])]⟩,
  ⟨(some 18),.bin .add .int (.t 17) (.c (.int .i64 1)),none,[(17,(some 0))],0,[(0,[])]⟩,
  ⟨(some 19),.mv (.t 2),none,[(2,none)],0,[(0,[])]⟩,
  ⟨(some 20),.bin .lss .int (.t 18) (.t 19),none,[(18,(some 1)),(19,(some 2))],0,[(0,[])]⟩,
  ⟨(some 21),.mv (.t 20),none,[(20,(some 3))],0,[(0,[])]⟩,
  ⟨(some 22),.mv (.t 0),(some (21,true)),[(0,none),(21,(some 4))],0,[(0,[])]⟩,
  ⟨(some 23),.mv (.t 3),(some (21,true)),[(3,none),(21,(some 4))],0,[(0,[])]⟩,
  ⟨(some 24),.mv (.t 9),(some (21,true)),[(9,none),(21,(some 4))],0,[(0,[])]⟩,
  ⟨(some 25),.bin .add .int (.t 23) (.t 24),(some (21,true)),[(23,(some 6)),(24,(some 7)),(21,(some 4))],0,[(0,[])]⟩,
  ⟨(some 26),.indexAddr 1 (.t 22) (.t 25),(some (21,true)),[(22,(some 5)),(25,(some 8)),(21,(some 4))],0,[(0,[])]⟩,
  ⟨(some 27),.load none (.t 26),(some (21,true)),[(26,(some 9)),(21,(some 4))],0,[(0,[])]⟩,
  ⟨(some 28),.mv (.t 0),(some (21,true)),[(0,none),(21,(some 4))],0,[(0,[])]⟩,
  ⟨(some 29),.mv (.t 3),(some (21,true)),[(3,none),(21,(some 4))],0,[(0,[])]⟩,
  ⟨(some 30),.mv (.t 9),(some (21,true)),[(9,none),(21,(some 4))],0,[(0,[])]⟩,
  ⟨(some 31),.bin .add .int (.t 29) (.t 30),(some (21,true)),[(29,(some 12)),(30,(some 13)),(21,(some 4))],0,[(0,[])]⟩,
  ⟨(some 32),.bin .add .int (.t 31) (.c (.int .i64 1)),(some (21,true)),[(31,(some 14)),(21,(some 4))],0,[(0,[])]⟩,
  ⟨(some 33),.indexAddr 1 (.t 28) (.t 32),(some (21,true)),[(28,(some 11)),(32,(some 15)),(21,(some 4))],0,[(0,[])]⟩,
  ⟨(some 34),.load none (.t 33),(some (21,true)),[(33,(some 16)),(21,(some 4))],0,[(0,[])]⟩,
  ⟨(some 35),.call (.c (.fn (.func aD) [] [])) [(.t 27),(.t 34)],(some (21,true)),[(27,(some 10)),(34,(some 17)),(21,(some 4))],2,[(0,[])]⟩,
  ⟨(some 36),.pick (.t 21) (.t 35) (.c (.bool false)),none,[(21,(some 4)),(35,(some 18))],0,[(1,[])]⟩] []) <|
  .cond (.t 36)
  (.region [
   ⟨(some 37),.mv (.t 9),none⟩,
   ⟨(some 38),.bin .add .int (.t 37) (.c (.int .i64 1)),none⟩,
   ⟨(some 9),.mv (.t 38),none⟩])
  (.skip)) <|
  .seq (.seq (.draw [
  ⟨(some 39),.mv (.t 0),none,[(0,none)],0,[(0,[])]⟩,
  ⟨(some 40),.mv (.t 3),none,[(3,none)],0,[(0,[])]⟩,
  ⟨(some 41),.mv (.t 8),none,[(8,none)],0,[(0,[])]⟩,
  ⟨(some 42),.bin .add .int (.t 40) (.t 41),none,[(40,(some 1)),(41,(some 2))],0,[(0,[])]⟩,
  ⟨(some 43),.indexAddr 1 (.t 39) (.t 42),none,[(39,(some 0)),(42,(some 3))],0,[(0,[])]⟩,
  ⟨(some 44),.load none (.t 43),none,[(43,(some 4))],0,[(0,[])]⟩,
  ⟨(some 45),.mv (.t 0),none,[(0,none)],0,[(0,[])]⟩,
  ⟨(some 46),.mv (.t 3),none,[(3,none)],0,[(0,[])]⟩,
  ⟨(some 47),.mv (.t 9),none,[(9,none)],0,[(0,[])]⟩,
  ⟨(some 48),.bin .add .int (.t 46) (.t 47),none,[(46,(some 7)),(47,(some 8))],0,[(0,[])]⟩,
  ⟨(some 49),.indexAddr 1 (.t 45) (.t 48),none,[(45,(some 6)),(48,(some 9))],0,[(0,[])]⟩,
  ⟨(some 50),.load none (.t 49),none,[(49,(some 10))],0,[(0,[])]⟩,
  ⟨(some 51),.call (.c (.fn (.func aD) [] [])) [(.t 44),(.t 50)],none,[(44,(some 5)),(50,(some 11))],2,[(0,[])]⟩,
  ⟨(some 52),.un .not (.t 51),none,[(51,(some 12))],0,[(1,[])]⟩] []) <|
  .cond (.t 52)
  (.ret)
  (.skip)) <|
  .seq (.draw [
  ⟨(some 53),.mv (.t 0),none,[(0,none)],0,[(0,[])]⟩,
  ⟨(some 54),.mv (.t 3),none,[(3,none)],0,[(0,[])]⟩,
  ⟨(some 55),.mv (.t 8),none,[(8,none)],0,[(0,[])]⟩,
  ⟨(some 56),.bin .add .int (.t 54) (.t 55),none,[(54,(some 1)),(55,(some 2))],0,[(0,[])]⟩,
  ⟨(some 57),.mv (.t 0),none,[(0,none)],0,[(0,[]),(1,[])]⟩,
  ⟨(some 58),.mv (.t 3),none,[(3,none)],0,[(0,[]),(1,[])]⟩,
  ⟨(some 59),.mv (.t 9),none,[(9,none)],0,[(0,[]),(1,[])]⟩,
  ⟨(some 60),.bin .add .int (.t 58) (.t 59),none,[(58,(some 5)),(59,(some 6))],0,[(0,[]),(1,[])]⟩,
  ⟨(some 61),.mv (.t 0),none,[(0,none)],0,[(0,[])]⟩,
  ⟨(some 62),.mv (.t 3),none,[(3,none)],0,[(0,[])]⟩,
  ⟨(some 63),.mv (.t 9),none,[(9,none)],0,[(0,[])]⟩,
  ⟨(some 64),.bin .add .int (.t 62) (.t 63),none,[(62,(some 9)),(63,(some 10))],0,[(0,[])]⟩,
  ⟨(some 65),.indexAddr 1 (.t 61) (.t 64),none,[(61,(some 8)),(64,(some 11))],0,[(0,[])]⟩,
  ⟨(some 66),.load none (.t 65),none,[(65,(some 12))],0,[(0,[])]⟩,
  ⟨(some 67),.mv (.t 0),none,[(0,none)],0,[(0,[])]⟩,
  ⟨(some 68),.mv (.t 3),none,[(3,none)],0,[(0,[])]⟩,
  ⟨(some 69),.mv (.t 8),none,[(8,none)],0,[(0,[])]⟩,
  ⟨(some 70),.bin .add .int (.t 68) (.t 69),none,[(68,(some 15)),(69,(some 16))],0,[(0,[])]⟩,
  ⟨(some 71),.indexAddr 1 (.t 67) (.t 70),none,[(67,(some 14)),(70,(some 17))],0,[(0,[])]⟩,
  ⟨(some 72),.load none (.t 71),none,[(71,(some 18))],0,[(0,[])]⟩,
  ⟨(some 73),.indexAddr 1 (.t 53) (.t 56),none,[(53,(some 0)),(56,(some 3))],0,[(0,[])]⟩,
  ⟨none,.store 1 (.t 73) (.t 66),none,[(73,(some 20)),(66,(some 13))],2,[(0,[])]⟩,
  ⟨(some 74),.indexAddr 1 (.t 57) (.t 60),none,[(57,(some 4)),(60,(some 7))],0,[(1,[])]⟩,
  ⟨none,.store 1 (.t 74) (.t 72),none,[(74,(some 22)),(72,(some 19))],2,[(1,[])]⟩] []) <|
  .region [
  ⟨(some 75),.mv (.t 9),none⟩,
  ⟨(some 8),.mv (.t 75),none⟩])),
 none⟩
def fJ:aN:=⟨1,7,[(2,none)],
 .seq (.region [
 ⟨(some 2),.mv (.c (.int .u64 0)),none⟩]) <|
 .seq (.region [
 ⟨(some 3),.mv (.t 0),none⟩,
 ⟨(some 4),.conv .u64 (.t 3),none⟩,
 ⟨(some 5),.call (.c (.fn (.func cH) [] [])) [(.t 4)],none⟩,
 ⟨(some 6),.bin .shl .int (.c (.int .u64 1)) (.t 5),none⟩,
 ⟨(some 2),.mv (.t 6),none⟩]) <|
 .ret,
 none⟩
def fj:aN:=⟨1,33,[(2,none)],
 .seq (.region [
 ⟨(some 2),.mv (.c (.int .u64 0)),none⟩]) <|
 .seq (.draw [
 ⟨(some 3),.mv (.t 0),none,[(0,none)],0,[(0,[])]⟩,
 ⟨(some 4),.nilCheck (.t 3),none,[(3,(some 0))],0,[(0,[])]⟩,
 ⟨(some 5),.load none (.t 4),none,[(4,(some 1))],0,[(0,[])]⟩,
 ⟨(some 6),.mv (.t 0),none,[(0,none)],0,[(0,[])]⟩,
 ⟨(some 7),.nilCheck (.t 6),none,[(6,(some 3))],0,[(0,[])]⟩,
 ⟨(some 8),.load none (.t 7),none,[(7,(some 4))],0,[(0,[])]⟩,
 ⟨(some 9),.bin .shl .int (.t 8) (.c (.int .u64 13)),none,[(8,(some 5))],0,[(0,[])]⟩,
 ⟨(some 10),.bin .xor .int (.t 5) (.t 9),none,[(5,(some 2)),(9,(some 6))],0,[(0,[])]⟩,
 ⟨(some 11),.nilCheck (.t 3),none,[(3,(some 0))],0,[(0,[])]⟩,
 ⟨none,.store 1 (.t 11) (.t 10),none,[(11,(some 8)),(10,(some 7))],2,[(0,[])]⟩] []) <|
 .seq (.draw [
 ⟨(some 12),.mv (.t 0),none,[(0,none)],0,[(0,[])]⟩,
 ⟨(some 13),.nilCheck (.t 12),none,[(12,(some 0))],0,[(0,[])]⟩,
 ⟨(some 14),.load none (.t 13),none,[(13,(some 1))],0,[(0,[])]⟩,
 ⟨(some 15),.mv (.t 0),none,[(0,none)],0,[(0,[])]⟩,
 ⟨(some 16),.nilCheck (.t 15),none,[(15,(some 3))],0,[(0,[])]⟩,
 ⟨(some 17),.load none (.t 16),none,[(16,(some 4))],0,[(0,[])]⟩,
 ⟨(some 18),.bin .shr .int (.t 17) (.c (.int .u64 7)),none,[(17,(some 5))],0,[(0,[])]⟩,
 ⟨(some 19),.bin .xor .int (.t 14) (.t 18),none,[(14,(some 2)),(18,(some 6))],0,[(0,[])]⟩,
 ⟨(some 20),.nilCheck (.t 12),none,[(12,(some 0))],0,[(0,[])]⟩,
 ⟨none,.store 1 (.t 20) (.t 19),none,[(20,(some 8)),(19,(some 7))],2,[(0,[])]⟩] []) <|
 .seq (.draw [
 ⟨(some 21),.mv (.t 0),none,[(0,none)],0,[(0,[])]⟩,
 ⟨(some 22),.nilCheck (.t 21),none,[(21,(some 0))],0,[(0,[])]⟩,
 ⟨(some 23),.load none (.t 22),none,[(22,(some 1))],0,[(0,[])]⟩,
 ⟨(some 24),.mv (.t 0),none,[(0,none)],0,[(0,[])]⟩,
 ⟨(some 25),.nilCheck (.t 24),none,[(24,(some 3))],0,[(0,[])]⟩,
 ⟨(some 26),.load none (.t 25),none,[(25,(some 4))],0,[(0,[])]⟩,
 ⟨(some 27),.bin .shl .int (.t 26) (.c (.int .u64 17)),none,[(26,(some 5))],0,[(0,[])]⟩,
 ⟨(some 28),.bin .xor .int (.t 23) (.t 27),none,[(23,(some 2)),(27,(some 6))],0,[(0,[])]⟩,
 ⟨(some 29),.nilCheck (.t 21),none,[(21,(some 0))],0,[(0,[])]⟩,
 ⟨none,.store 1 (.t 29) (.t 28),none,[(29,(some 8)),(28,(some 7))],2,[(0,[])]⟩] []) <|
 .seq (.region [
 ⟨(some 30),.mv (.t 0),none⟩,
 ⟨(some 31),.nilCheck (.t 30),none⟩,
 ⟨(some 32),.load none (.t 31),none⟩,
 ⟨(some 2),.mv (.t 32),none⟩]) <|
 .ret,
 none⟩
def cL:aN:=⟨3,15,[(6,none)],
 .seq (.region [
 ⟨(some 6),.mv (.c (.int .i64 0)),none⟩]) <|
 .seq (.region [
 ⟨(some 7),.mv (.t 0),none⟩,
 ⟨(some 8),.mv (.t 1),none⟩,
 ⟨(some 9),.bin .sub .int (.t 8) (.c (.int .i64 1)),none⟩,
 ⟨(some 10),.mv (.t 1),none⟩,
 ⟨(some 11),.mv (.t 1),none⟩,
 ⟨(some 12),.bin .add .int (.t 11) (.c (.int .i64 1)),none⟩,
 ⟨(some 13),.mv (.t 2),none⟩,
 ⟨(some 14),.call (.c (.fn (.func bt) [] [])) [(.t 7),(.t 9),(.t 10),(.t 12),(.t 13)],none⟩,
 ⟨(some 6),.mv (.t 14),none⟩]) <|
 .ret,
 none⟩
def eh:aN:=⟨5,36,[(10,none)],
 .seq (.region [
 ⟨(some 10),.mv (.c (.int .i64 0)),none⟩]) <|
 .seq (.region [
 ⟨(some 12),.mv (.t 0),none⟩,
 ⟨(some 13),.mv (.t 1),none⟩,
 ⟨(some 14),.mv (.t 2),none⟩,
 ⟨(some 15),.mv (.t 4),none⟩,
 ⟨(some 16),.call (.c (.fn (.func bf) [] [])) [(.t 12),(.t 13),(.t 14),(.t 15)],none⟩,
 ⟨(some 11),.mv (.t 16),none⟩,
 ⟨(some 17),.extract 0 (.t 11),none⟩,
 ⟨(some 18),.extract 1 (.t 11),none⟩,
 ⟨(some 1),.mv (.t 17),none⟩,
 ⟨(some 2),.mv (.t 18),none⟩]) <|
 .seq (.region [
 ⟨(some 20),.mv (.t 0),none⟩,
 ⟨(some 21),.mv (.t 2),none⟩,
 ⟨(some 22),.mv (.t 3),none⟩,
 ⟨(some 23),.mv (.t 4),none⟩,
 ⟨(some 24),.call (.c (.fn (.func bf) [] [])) [(.t 20),(.t 21),(.t 22),(.t 23)],none⟩,
 ⟨(some 19),.mv (.t 24),none⟩,
 ⟨(some 25),.extract 0 (.t 19),none⟩,
 ⟨(some 26),.extract 1 (.t 19),none⟩,
 ⟨(some 2),.mv (.t 25),none⟩,
 ⟨(some 3),.mv (.t 26),none⟩]) <|
 .seq (.region [
 ⟨(some 28),.mv (.t 0),none⟩,
 ⟨(some 29),.mv (.t 1),none⟩,
 ⟨(some 30),.mv (.t 2),none⟩,
 ⟨(some 31),.mv (.t 4),none⟩,
 ⟨(some 32),.call (.c (.fn (.func bf) [] [])) [(.t 28),(.t 29),(.t 30),(.t 31)],none⟩,
 ⟨(some 27),.mv (.t 32),none⟩,
 ⟨(some 33),.extract 0 (.t 27),none⟩,
 ⟨(some 34),.extract 1 (.t 27),none⟩,
 ⟨(some 1),.mv (.t 33),none⟩,
 ⟨(some 2),.mv (.t 34),none⟩]) <|
 .seq (.region [
 ⟨(some 35),.mv (.t 2),none⟩,
 ⟨(some 10),.mv (.t 35),none⟩]) <|
 .ret,
 none⟩
def iG:aN:=⟨1,6,[(2,none)],
 .seq (.region [
 ⟨(some 2),.mv (.c (.bool false)),none⟩]) <|
 .seq (.region [
 ⟨(some 3),.mv (.t 0),none⟩,
 ⟨(some 4),.mv (.t 0),none⟩,
 ⟨(some 5),.bin .neq .int (.t 3) (.t 4),none⟩,
 ⟨(some 2),.mv (.t 5),none⟩]) <|
 .ret,
 none⟩
def c_flow_expr_f1:aN:=⟨3,59,[(4,none)],
 .seq (.region [
 ⟨(some 3),.box au (.t 0),none⟩,
 ⟨(some 4),.mv (.c (.bool false)),none⟩]) <|
 .seq (.draw [
 ⟨(some 7),.fieldAddr 2 (.t 3),none,[(3,none)],0,[(0,[])]⟩,
 ⟨(some 8),.load none (.t 7),none,[(7,(some 0))],0,[(0,[])]⟩,
 ⟨(some 9),.bin .eql .int (.t 8) (.c (.int .i64 0)),none,[(8,(some 1))],0,[(0,[])]⟩,
 ⟨(some 5),.mv (.c (.int .i64 2)),none,[],0,[(0,[])]⟩,
 ⟨(some 6),.mv (.t 9),none,[(9,(some 2))],0,[(0,[])]⟩] []) <|
 .seq (.seq (.region [
 ⟨(some 10),.fieldAddr 0 (.t 3),none⟩,
 ⟨(some 11),.load none (.t 10),none⟩]) <|
 .block 0 (.seq (.region [
  ⟨(some 13),.bin .eql .int (.t 11) (.c (.int .u8 1)),none⟩,
  ⟨(some 12),.mv (.t 13),none⟩]) <|
 .cond (.t 12)
  (.draw [
  ⟨(some 14),.fieldAddr 2 (.t 3),none,[(3,none)],0,[(0,[])]⟩,
  ⟨(some 15),.load none (.t 14),none,[(14,(some 0))],0,[(0,[])]⟩,
  ⟨(some 16),.bin .geq .int (.t 15) (.c (.int .i64 0)),none,[(15,(some 1))],0,[(0,[])]⟩,
  ⟨(some 5),.mv (.c (.int .i64 0)),none,[],0,[(0,[])]⟩,
  ⟨(some 6),.mv (.t 16),none,[(16,(some 2))],0,[(0,[])]⟩] [])
  (.seq (.region [
  ⟨(some 18),.bin .eql .int (.t 11) (.c (.int .u8 2)),none⟩,
  ⟨(some 17),.mv (.t 18),none⟩]) <|
  .cond (.t 17)
  (.region [
   ⟨(some 19),.fieldAddr 2 (.t 3),none⟩,
   ⟨(some 20),.load none (.t 19),none⟩,
   ⟨(some 21),.fieldAddr 0 (.t 1),none⟩,
   ⟨(some 22),.load none (.t 21),none⟩,
   ⟨(some 23),.call (.c (.fn (.func cA) [] [])) [(.t 20),(.t 22)],none⟩,
   ⟨(some 5),.mv (.c (.int .i64 0)),none⟩,
   ⟨(some 6),.mv (.t 23),none⟩])
  (.seq (.region [
   ⟨(some 25),.bin .eql .int (.t 11) (.c (.int .u8 3)),none⟩,
   ⟨(some 24),.mv (.t 25),none⟩]) <|
  .cond (.t 24)
   (.region [
   ⟨(some 26),.fieldAddr 2 (.t 3),none⟩,
   ⟨(some 27),.load none (.t 26),none⟩,
   ⟨(some 28),.fieldAddr 1 (.t 1),none⟩,
   ⟨(some 29),.load none (.t 28),none⟩,
   ⟨(some 30),.len (.t 29),none⟩,
   ⟨(some 31),.call (.c (.fn (.func cA) [] [])) [(.t 27),(.t 30)],none⟩,
   ⟨(some 5),.mv (.c (.int .i64 1)),none⟩,
   ⟨(some 6),.mv (.t 31),none⟩])
   (.seq (.region [
   ⟨(some 33),.bin .eql .int (.t 11) (.c (.int .u8 4)),none⟩,
   ⟨(some 32),.mv (.t 33),none⟩]) <|
   .cond (.t 32)
   (.region [
    ⟨(some 5),.mv (.c (.int .i64 1)),none⟩])
   (.skip)))))) <|
 .seq (.region [
 ⟨(some 34),.fieldAddr 0 (.t 3),none⟩,
 ⟨(some 35),.load none (.t 34),none⟩,
 ⟨(some 36),.bin .geq .int (.t 35) (.c (.int .u8 1)),none⟩,
 ⟨(some 37),.mv (.t 36),none⟩,
 ⟨(some 38),.fieldAddr 0 (.t 3),(some (37,true))⟩,
 ⟨(some 39),.load none (.t 38),(some (37,true))⟩,
 ⟨(some 40),.bin .leq .int (.t 39) (.c (.int .u8 11)),(some (37,true))⟩,
 ⟨(some 41),.pick (.t 37) (.t 40) (.c (.bool false)),none⟩,
 ⟨(some 42),.mv (.t 41),none⟩,
 ⟨(some 43),.mv (.t 6),(some (42,true))⟩,
 ⟨(some 44),.pick (.t 42) (.t 43) (.c (.bool false)),none⟩,
 ⟨(some 45),.mv (.t 44),none⟩,
 ⟨(some 46),.fieldAddr 3 (.t 3),(some (45,true))⟩,
 ⟨(some 47),.load none (.t 46),(some (45,true))⟩,
 ⟨(some 48),.len (.t 47),(some (45,true))⟩,
 ⟨(some 49),.mv (.t 5),(some (45,true))⟩,
 ⟨(some 50),.bin .eql .int (.t 48) (.t 49),(some (45,true))⟩,
 ⟨(some 51),.pick (.t 45) (.t 50) (.c (.bool false)),none⟩,
 ⟨(some 52),.mv (.t 51),none⟩,
 ⟨(some 53),.fieldAddr 3 (.t 3),(some (52,true))⟩,
 ⟨(some 54),.load none (.t 53),(some (52,true))⟩,
 ⟨(some 55),.mkfn (.func eC) [] [(.t 2)],(some (52,true))⟩,
 ⟨(some 56),.call (.c (.fn (.func aI) [] [])) [(.t 54),(.t 55)],(some (52,true))⟩,
 ⟨(some 57),.un .not (.t 56),(some (52,true))⟩,
 ⟨(some 58),.pick (.t 52) (.t 57) (.c (.bool false)),none⟩,
 ⟨(some 4),.mv (.t 58),none⟩]) <|
 .ret,
 none⟩
def cy:aN:=⟨2,19,[(4,none)],
 .seq (.region [
 ⟨(some 4),.mv (.c (.int .i64 0)),none⟩]) <|
 .seq (.seq (.region [
 ⟨(some 6),.mv (.t 0),none⟩,
 ⟨(some 7),.len (.t 6),none⟩,
 ⟨(some 8),.mv (.c (.int .i64 0)),none⟩]) <|
 oS 0 1 8 7 9 18
 (.seq (.region [
  ⟨(some 10),.mv (.t 8),none⟩,
  ⟨(some 5),.mv (.t 10),none⟩]) <|
 .seq (.region [
  ⟨(some 11),.mv (.t 1),none⟩,
  ⟨(some 12),.mv (.t 0),none⟩,
  ⟨(some 13),.mv (.t 5),none⟩,
  ⟨(some 14),.indexAddr 5 (.t 12) (.t 13),none⟩,
  ⟨(some 15),.load (some 5) (.t 14),none⟩,
  ⟨(some 16),.call (.t 11) [(.t 15)],none⟩]) <|
 .cond (.t 16)
  (.seq (.region [
  ⟨(some 17),.mv (.t 5),none⟩,
  ⟨(some 4),.mv (.t 17),none⟩]) <|
  .ret)
  (.skip))) <|
 .seq (.region [
 ⟨(some 4),.mv (.c (.int .i64 (-1))),none⟩]) <|
 .ret,
 none⟩
def eg:aN:=⟨4,28,[(8,none),(9,none)],
 .seq (.region [
 ⟨(some 8),.mv (.c (.int .i64 0)),none⟩,
 ⟨(some 9),.mv (.c (.int .i64 0)),none⟩]) <|
 .seq (.seq (.draw [
 ⟨(some 10),.mv (.t 0),none,[(0,none)],0,[(0,[])]⟩,
 ⟨(some 11),.mv (.t 2),none,[(2,none)],0,[(0,[])]⟩,
 ⟨(some 12),.indexAddr 1 (.t 10) (.t 11),none,[(10,(some 0)),(11,(some 1))],0,[(0,[])]⟩,
 ⟨(some 13),.load none (.t 12),none,[(12,(some 2))],0,[(0,[])]⟩,
 ⟨(some 14),.mv (.t 0),none,[(0,none)],0,[(0,[])]⟩,
 ⟨(some 15),.mv (.t 1),none,[(1,none)],0,[(0,[])]⟩,
 ⟨(some 16),.indexAddr 1 (.t 14) (.t 15),none,[(14,(some 4)),(15,(some 5))],0,[(0,[])]⟩,
 ⟨(some 17),.load none (.t 16),none,[(16,(some 6))],0,[(0,[])]⟩,
 ⟨(some 18),.call (.c (.fn (.func aD) [] [])) [(.t 13),(.t 17)],none,[(13,(some 3)),(17,(some 7))],2,[(0,[])]⟩] []) <|
 .cond (.t 18)
 (.seq (.region [
  ⟨(some 19),.mv (.t 3),none⟩,
  ⟨(some 20),.nilCheck (.t 19),none⟩,
  ⟨(some 21),.load none (.t 20),none⟩,
  ⟨(some 22),.bin .add .int (.t 21) (.c (.int .i64 1)),none⟩,
  ⟨(some 23),.nilCheck (.t 19),none⟩,
  ⟨none,.store 1 (.t 23) (.t 22),none⟩]) <|
 .seq (.region [
  ⟨(some 24),.mv (.t 2),none⟩,
  ⟨(some 25),.mv (.t 1),none⟩,
  ⟨(some 8),.mv (.t 24),none⟩,
  ⟨(some 9),.mv (.t 25),none⟩]) <|
 .ret)
 (.skip)) <|
 .seq (.region [
 ⟨(some 26),.mv (.t 1),none⟩,
 ⟨(some 27),.mv (.t 2),none⟩,
 ⟨(some 8),.mv (.t 26),none⟩,
 ⟨(some 9),.mv (.t 27),none⟩]) <|
 .ret,
 none⟩
def iF:aN:=⟨2,8,[(3,none)],
 .seq (.region [
 ⟨(some 2),.box au (.t 0),none⟩,
 ⟨(some 3),.mv (.c (.bool false)),none⟩]) <|
 .seq (.region [
 ⟨(some 4),.load none (.t 1),none⟩,
 ⟨(some 5),.load (some 5) (.t 2),none⟩,
 ⟨(some 6),.call (.t 4) [(.t 5)],none⟩,
 ⟨(some 7),.un .not (.t 6),none⟩,
 ⟨(some 3),.mv (.t 7),none⟩]) <|
 .ret,
 none⟩
structure Code (tab:Nat->Option aN):Prop where
 q0:tab cI=some c_facetroomlaw31_ReportKinds
 q1:tab cQ=some fY
 q2:tab fP=some c_report_Kinds
 q3:tab cN=some c_facetroomref31_Kinds
 q4:tab cr=some gf
 q5:tab fT=some c_flow_Check
 q6:tab eO=some c_report_kinds
 q7:tab bu=some el
 q8:tab bi=some dy
 q9:tab de=some c_facetroomref13_May
 q10:tab cp=some gd
 q11:tab cA=some lR
 q12:tab bB=some dj
 q13:tab fm=some jl
 q14:tab fl=some jk
 q15:tab aV=some b7
 q16:tab iv=some mQ
 q17:tab gO=some lQ
 q18:tab cH=some ji
 q19:tab aS=some dQ
 q20:tab bn=some fK
 q21:tab cP=some c_facetroomref13_mayDo
 q22:tab cC=some gB
 q23:tab cF=some c_facetroomref13_mayOut
 q24:tab cO=some fW
 q25:tab bO=some dR
 q26:tab iz=some c_flow_deed
 q27:tab ba=some cz
 q28:tab fk=some jj
 q29:tab ai=some bj
 q30:tab fS=some lS
 q31:tab fQ=some iE
 q32:tab dc=some iD
 q33:tab aW=some cR
 q34:tab bJ=some dL
 q35:tab bp=some cS
 q36:tab bw=some db
 q37:tab bq=some da
 q38:tab aU=some bZ
 q39:tab aD=some iS
 q40:tab bk=some cK
 q41:tab bH=some dw
 q42:tab bz=some c_facetroomref13_MayExpr
 q43:tab cn=some fc
 q44:tab bY=some c_facetroomref13_alike
 q45:tab iw=some mR
 q46:tab fR=some jK
 q47:tab aI=some b6
 q48:tab bm=some dK
 q49:tab cE=some fJ
 q50:tab cB=some fj
 q51:tab aJ=some cL
 q52:tab bt=some eh
 q53:tab dg=some iG
 q54:tab bT=some c_flow_expr_f1
 q55:tab a8=some cy
 q56:tab bf=some eg
 q57:tab eC=some iF
end Go.Proofs.Ytekmejlgocineaa.Ev
