/-
  The code of the law's functions, printed by program off the translation.
-/
import Derived.Test.YtjenkjblcpinnabGreatEvSlots
namespace Go.Proofs.YtjenkjblcpinnabGreat.Ev
open Go
set_option maxRecDepth 1000000
def afn3 : AFn := ⟨0, 80, [(0, none)],
  .seq (.region [
   ⟨(some 0), .mv (.c (.bool false)), none⟩]) <|
  .seq (.region [
   ⟨(some 11), .call (.c (.fn (.func 4) [] [])) [(.c (.int .i64 1)), (.c .nilSl)], none⟩,
   ⟨(some 10), .mv (.t 11), none⟩,
   ⟨(some 12), .extract 0 (.t 10), none⟩,
   ⟨(some 13), .extract 1 (.t 10), none⟩,
   ⟨(some 1), .mv (.t 12), none⟩,
   ⟨(some 2), .mv (.t 13), none⟩]) <|
  .seq (.region [
   ⟨(some 15), .buildSlice 3 1 [(.int .i64 0), (.int .i64 0)] 2 [((0, 1), (.c (.int .i64 1))), ((1, 1), (.c (.int .i64 1)))], none⟩,
   ⟨(some 16), .call (.c (.fn (.func 5) [] [])) [(.c (.int .u8 3)), (.t 15)], none⟩,
   ⟨(some 17), .buildSlice 3 1 [(.int .i64 0), (.int .i64 0)] 2 [((0, 1), (.c (.int .i64 1))), ((1, 1), (.c (.int .i64 3)))], none⟩,
   ⟨(some 18), .call (.c (.fn (.func 5) [] [])) [(.c (.int .u8 3)), (.t 17)], none⟩,
   ⟨(some 19), .buildSlice 3 1 [(.int .i64 0), (.int .i64 0)] 2 [((0, 1), (.c (.int .i64 1))), ((1, 1), (.c (.int .i64 2)))], none⟩,
   ⟨(some 20), .call (.c (.fn (.func 5) [] [])) [(.c (.int .u8 3)), (.t 19)], none⟩,
   ⟨(some 21), .buildSlice 29 2 [(.int .u8 0), .nilSl, (.int .u8 0), .nilSl, (.int .u8 0), .nilSl] 3 [((0, 2), (.t 16)), ((2, 2), (.t 18)), ((4, 2), (.t 20))], none⟩,
   ⟨(some 22), .call (.c (.fn (.func 4) [] [])) [(.c (.int .i64 1)), (.t 21)], none⟩,
   ⟨(some 14), .mv (.t 22), none⟩,
   ⟨(some 23), .extract 0 (.t 14), none⟩,
   ⟨(some 24), .extract 1 (.t 14), none⟩,
   ⟨(some 3), .mv (.t 23), none⟩,
   ⟨(some 4), .mv (.t 24), none⟩]) <|
  .seq (.region [
   ⟨(some 26), .buildSlice 3 1 [(.int .i64 0), (.int .i64 0)] 2 [((0, 1), (.c (.int .i64 1))), ((1, 1), (.c (.int .i64 1)))], none⟩,
   ⟨(some 27), .call (.c (.fn (.func 5) [] [])) [(.c (.int .u8 2)), (.t 26)], none⟩,
   ⟨(some 28), .buildSlice 29 2 [(.int .u8 0), .nilSl] 1 [((0, 2), (.t 27))], none⟩,
   ⟨(some 29), .call (.c (.fn (.func 4) [] [])) [(.c (.int .i64 1)), (.t 28)], none⟩,
   ⟨(some 25), .mv (.t 29), none⟩,
   ⟨(some 30), .extract 0 (.t 25), none⟩,
   ⟨(some 31), .extract 1 (.t 25), none⟩,
   ⟨(some 5), .mv (.t 30), none⟩,
   ⟨(some 6), .mv (.t 31), none⟩]) <|
  .seq (.region [
   ⟨(some 33), .call (.c (.fn (.func 6) [] [])) [(.c (.int .i64 9)), (.c .nilSl)], none⟩,
   ⟨(some 32), .mv (.t 33), none⟩,
   ⟨(some 34), .extract 0 (.t 32), none⟩,
   ⟨(some 35), .extract 1 (.t 32), none⟩,
   ⟨(some 7), .mv (.t 34), none⟩,
   ⟨(some 8), .mv (.t 35), none⟩]) <|
  .seq (.region [
   ⟨(some 36), .buildSlice 3 1 [(.int .i64 0), (.int .i64 0)] 2 [((0, 1), (.c (.int .i64 (-1)))), ((1, 1), (.c (.int .i64 1)))], none⟩,
   ⟨(some 37), .call (.c (.fn (.func 8) [] [])) [(.t 36)], none⟩,
   ⟨(some 38), .buildSlice 3 1 [(.int .i64 0), (.int .i64 0)] 2 [((0, 1), (.c (.int .i64 0))), ((1, 1), (.c (.int .i64 (-1))))], none⟩,
   ⟨(some 39), .call (.c (.fn (.func 8) [] [])) [(.t 38)], none⟩,
   ⟨(some 40), .buildSlice 36 2 [.nilSl, (.bool false), .nilSl, (.bool false)] 2 [((0, 2), (.t 37)), ((2, 2), (.t 39))], none⟩,
   ⟨(some 41), .call (.c (.fn (.func 7) [] [])) [(.t 40), (.c .nilSl)], none⟩,
   ⟨(some 42), .mv (.t 41), none⟩,
   ⟨(some 43), .mv (.t 2), (some (42, true))⟩,
   ⟨(some 44), .bin .eql .int (.t 43) (.c (.int .i64 0)), (some (42, true))⟩,
   ⟨(some 45), .pick (.t 42) (.t 44) (.c (.bool false)), none⟩,
   ⟨(some 46), .mv (.t 45), none⟩,
   ⟨(some 47), .mv (.t 1), (some (46, true))⟩,
   ⟨(some 48), .buildSlice 3 1 [(.int .i64 0), (.int .i64 0)] 2 [((0, 1), (.c (.int .i64 (-1)))), ((1, 1), (.c (.int .i64 0)))], (some (46, true))⟩,
   ⟨(some 49), .call (.c (.fn (.func 8) [] [])) [(.t 48)], (some (46, true))⟩,
   ⟨(some 50), .buildSlice 36 2 [.nilSl, (.bool false)] 1 [((0, 2), (.t 49))], (some (46, true))⟩,
   ⟨(some 51), .call (.c (.fn (.func 9) [] [])) [(.t 47), (.t 50)], (some (46, true))⟩,
   ⟨(some 52), .pick (.t 46) (.t 51) (.c (.bool false)), none⟩,
   ⟨(some 9), .mv (.t 52), none⟩]) <|
  .seq (.region [
   ⟨(some 53), .mv (.c (.bool true)), none⟩,
   ⟨(some 54), .call (.c (.fn (.func 10) [] [])) [], (some (53, true))⟩,
   ⟨(some 55), .pick (.t 53) (.t 54) (.c (.bool false)), none⟩,
   ⟨(some 56), .mv (.t 55), none⟩,
   ⟨(some 57), .mv (.t 9), (some (56, true))⟩,
   ⟨(some 58), .pick (.t 56) (.t 57) (.c (.bool false)), none⟩,
   ⟨(some 59), .mv (.t 58), none⟩,
   ⟨(some 60), .mv (.t 4), (some (59, true))⟩,
   ⟨(some 61), .bin .eql .int (.t 60) (.c (.int .i64 0)), (some (59, true))⟩,
   ⟨(some 62), .pick (.t 59) (.t 61) (.c (.bool false)), none⟩,
   ⟨(some 63), .mv (.t 62), none⟩,
   ⟨(some 64), .mv (.t 3), (some (63, true))⟩,
   ⟨(some 65), .buildSlice 3 1 [(.int .i64 0), (.int .i64 0)] 2 [((0, 1), (.c (.int .i64 (-1)))), ((1, 1), (.c (.int .i64 1)))], (some (63, true))⟩,
   ⟨(some 66), .call (.c (.fn (.func 8) [] [])) [(.t 65)], (some (63, true))⟩,
   ⟨(some 67), .buildSlice 3 1 [(.int .i64 0), (.int .i64 0)] 2 [((0, 1), (.c (.int .i64 3))), ((1, 1), (.c (.int .i64 (-1))))], (some (63, true))⟩,
   ⟨(some 68), .call (.c (.fn (.func 8) [] [])) [(.t 67)], (some (63, true))⟩,
   ⟨(some 69), .buildSlice 36 2 [.nilSl, (.bool false), .nilSl, (.bool false)] 2 [((0, 2), (.t 66)), ((2, 2), (.t 68))], (some (63, true))⟩,
   ⟨(some 70), .call (.c (.fn (.func 9) [] [])) [(.t 64), (.t 69)], (some (63, true))⟩,
   ⟨(some 71), .pick (.t 63) (.t 70) (.c (.bool false)), none⟩,
   ⟨(some 72), .mv (.t 71), none⟩,
   ⟨(some 73), .mv (.t 6), (some (72, true))⟩,
   ⟨(some 74), .bin .eql .int (.t 73) (.c (.int .i64 8)), (some (72, true))⟩,
   ⟨(some 75), .pick (.t 72) (.t 74) (.c (.bool false)), none⟩,
   ⟨(some 76), .mv (.t 75), none⟩,
   ⟨(some 77), .mv (.t 8), (some (76, true))⟩,
   ⟨(some 78), .bin .eql .int (.t 77) (.c (.int .i64 2)), (some (76, true))⟩,
   ⟨(some 79), .pick (.t 76) (.t 78) (.c (.bool false)), none⟩,
   ⟨(some 0), .mv (.t 79), none⟩]) <|
  .ret, none⟩
noncomputable def ffn3 : FFn := ⟨0, 80, [(0, none)],
  cSeq (cReg 1 (
   oMv (kc (.bool false)) s000)) <|
  cSeq (cReg 6 (
   oSeq (oCallF 4 (fun T => [(.int .i64 1), .nilSl]) s013) <|
   oSeq (oMv g013 s012) <|
   oSeq (oP (vExt 0 g012) s014) <|
   oSeq (oP (vExt 1 g012) s015) <|
   oSeq (oMv g014 s001) <|
   oMv g015 s002)) <|
  cSeq (cReg 13 (
   oSeq (oBuildSlice 3 1 [(.int .i64 0), (.int .i64 0)] 2 [((0, 1), (kc (.int .i64 1))), ((1, 1), (kc (.int .i64 1)))] 0 s017) <|
   oSeq (oCallF 5 (fun T => [(.int .u8 3), g017 T]) s020) <|
   oSeq (oBuildSlice 3 1 [(.int .i64 0), (.int .i64 0)] 2 [((0, 1), (kc (.int .i64 1))), ((1, 1), (kc (.int .i64 3)))] 2 s021) <|
   oSeq (oCallF 5 (fun T => [(.int .u8 3), g021 T]) s022) <|
   oSeq (oBuildSlice 3 1 [(.int .i64 0), (.int .i64 0)] 2 [((0, 1), (kc (.int .i64 1))), ((1, 1), (kc (.int .i64 2)))] 4 s023) <|
   oSeq (oCallF 5 (fun T => [(.int .u8 3), g023 T]) s024) <|
   oSeq (oBuildSlice 29 2 [(.int .u8 0), .nilSl, (.int .u8 0), .nilSl, (.int .u8 0), .nilSl] 3 [((0, 2), g020), ((2, 2), g022), ((4, 2), g024)] 6 s025) <|
   oSeq (oCallF 4 (fun T => [(.int .i64 1), g025 T]) s026) <|
   oSeq (oMv g026 s016) <|
   oSeq (oP (vExt 0 g016) s027) <|
   oSeq (oP (vExt 1 g016) s030) <|
   oSeq (oMv g027 s003) <|
   oMv g030 s004)) <|
  cSeq (cReg 9 (
   oSeq (oBuildSlice 3 1 [(.int .i64 0), (.int .i64 0)] 2 [((0, 1), (kc (.int .i64 1))), ((1, 1), (kc (.int .i64 1)))] 0 s032) <|
   oSeq (oCallF 5 (fun T => [(.int .u8 2), g032 T]) s033) <|
   oSeq (oBuildSlice 29 2 [(.int .u8 0), .nilSl] 1 [((0, 2), g033)] 2 s034) <|
   oSeq (oCallF 4 (fun T => [(.int .i64 1), g034 T]) s035) <|
   oSeq (oMv g035 s031) <|
   oSeq (oP (vExt 0 g031) s036) <|
   oSeq (oP (vExt 1 g031) s037) <|
   oSeq (oMv g036 s005) <|
   oMv g037 s006)) <|
  cSeq (cReg 6 (
   oSeq (oCallF 6 (fun T => [(.int .i64 9), .nilSl]) s041) <|
   oSeq (oMv g041 s040) <|
   oSeq (oP (vExt 0 g040) s042) <|
   oSeq (oP (vExt 1 g040) s043) <|
   oSeq (oMv g042 s007) <|
   oMv g043 s010)) <|
  cSeq (cReg 18 (
   oSeq (oBuildSlice 3 1 [(.int .i64 0), (.int .i64 0)] 2 [((0, 1), (kc (.int .i64 (-1)))), ((1, 1), (kc (.int .i64 1)))] 0 s044) <|
   oSeq (oCallF 8 (fun T => [g044 T]) s045) <|
   oSeq (oBuildSlice 3 1 [(.int .i64 0), (.int .i64 0)] 2 [((0, 1), (kc (.int .i64 0))), ((1, 1), (kc (.int .i64 (-1))))] 2 s046) <|
   oSeq (oCallF 8 (fun T => [g046 T]) s047) <|
   oSeq (oBuildSlice 36 2 [.nilSl, (.bool false), .nilSl, (.bool false)] 2 [((0, 2), g045), ((2, 2), g047)] 4 s050) <|
   oSeq (oCallF 7 (fun T => [g050 T, .nilSl]) s051) <|
   oSeq (oMv g051 s052) <|
   oSeq (oGuard g052 true s053 (oMv g002 s053)) <|
   oSeq (oGuard g052 true s054 (oP (vEql g053 (kc (.int .i64 0))) s054)) <|
   oSeq (oP (vPick g052 g054 (kc (.bool false))) s055) <|
   oSeq (oMv g055 s056) <|
   oSeq (oGuard g056 true s057 (oMv g001 s057)) <|
   oSeq (oGuard g056 true s060 (oBuildSlice 3 1 [(.int .i64 0), (.int .i64 0)] 2 [((0, 1), (kc (.int .i64 (-1)))), ((1, 1), (kc (.int .i64 0)))] 12 s060)) <|
   oSeq (oGuard g056 true s061 (oCallF 8 (fun T => [g060 T]) s061)) <|
   oSeq (oGuard g056 true s062 (oBuildSlice 36 2 [.nilSl, (.bool false)] 1 [((0, 2), g061)] 14 s062)) <|
   oSeq (oGuard g056 true s063 (oCallF 9 (fun T => [g057 T, g062 T]) s063)) <|
   oSeq (oP (vPick g056 g063 (kc (.bool false))) s064) <|
   oMv g064 s011)) <|
  cSeq (cReg 28 (
   oSeq (oMv (kc (.bool true)) s065) <|
   oSeq (oGuard g065 true s066 (oCallF 10 (fun T => []) s066)) <|
   oSeq (oP (vPick g065 g066 (kc (.bool false))) s067) <|
   oSeq (oMv g067 s070) <|
   oSeq (oGuard g070 true s071 (oMv g011 s071)) <|
   oSeq (oP (vPick g070 g071 (kc (.bool false))) s072) <|
   oSeq (oMv g072 s073) <|
   oSeq (oGuard g073 true s074 (oMv g004 s074)) <|
   oSeq (oGuard g073 true s075 (oP (vEql g074 (kc (.int .i64 0))) s075)) <|
   oSeq (oP (vPick g073 g075 (kc (.bool false))) s076) <|
   oSeq (oMv g076 s077) <|
   oSeq (oGuard g077 true s100 (oMv g003 s100)) <|
   oSeq (oGuard g077 true s101 (oBuildSlice 3 1 [(.int .i64 0), (.int .i64 0)] 2 [((0, 1), (kc (.int .i64 (-1)))), ((1, 1), (kc (.int .i64 1)))] 12 s101)) <|
   oSeq (oGuard g077 true s102 (oCallF 8 (fun T => [g101 T]) s102)) <|
   oSeq (oGuard g077 true s103 (oBuildSlice 3 1 [(.int .i64 0), (.int .i64 0)] 2 [((0, 1), (kc (.int .i64 3))), ((1, 1), (kc (.int .i64 (-1))))] 14 s103)) <|
   oSeq (oGuard g077 true s104 (oCallF 8 (fun T => [g103 T]) s104)) <|
   oSeq (oGuard g077 true s105 (oBuildSlice 36 2 [.nilSl, (.bool false), .nilSl, (.bool false)] 2 [((0, 2), g102), ((2, 2), g104)] 16 s105)) <|
   oSeq (oGuard g077 true s106 (oCallF 9 (fun T => [g100 T, g105 T]) s106)) <|
   oSeq (oP (vPick g077 g106 (kc (.bool false))) s107) <|
   oSeq (oMv g107 s110) <|
   oSeq (oGuard g110 true s111 (oMv g006 s111)) <|
   oSeq (oGuard g110 true s112 (oP (vEql g111 (kc (.int .i64 8))) s112)) <|
   oSeq (oP (vPick g110 g112 (kc (.bool false))) s113) <|
   oSeq (oMv g113 s114) <|
   oSeq (oGuard g114 true s115 (oMv g010 s115)) <|
   oSeq (oGuard g114 true s116 (oP (vEql g115 (kc (.int .i64 2))) s116)) <|
   oSeq (oP (vPick g114 g116 (kc (.bool false))) s117) <|
   oMv g117 s000)) <|
  cExit 0⟩
def afn4 : AFn := ⟨2, 16, [(4, none), (5, none)],
  .seq (.region [
   ⟨(some 4), .mv (.c .nilSl), none⟩,
   ⟨(some 5), .mv (.c (.int .i64 0)), none⟩]) <|
  .seq (.seq (.region [
   ⟨(some 7), .mv (.t 0), none⟩,
   ⟨(some 8), .mv (.t 1), none⟩,
   ⟨(some 9), .call (.c (.fn (.func 11) [] [])) [(.t 7), (.t 8), (.c (.fn (.func 12) [] [])), (.c (.fn (.func 13) [] []))], none⟩,
   ⟨(some 6), .mv (.t 9), none⟩]) <|
  .seq (.region [
   ⟨(some 10), .mv (.t 6), none⟩,
   ⟨(some 11), .bin .neq .int (.t 10) (.c (.int .i64 0)), none⟩]) <|
  .cond (.t 11)
   (.seq (.region [
    ⟨(some 12), .mv (.t 6), none⟩,
    ⟨(some 4), .mv (.c .nilSl), none⟩,
    ⟨(some 5), .mv (.t 12), none⟩]) <|
   .ret)
   (.skip)) <|
  .seq (.region [
   ⟨(some 13), .mv (.t 0), none⟩,
   ⟨(some 14), .mv (.t 1), none⟩,
   ⟨(some 15), .call (.c (.fn (.func 14) [] [])) [(.t 13), (.t 14)], none⟩,
   ⟨(some 4), .mv (.t 15), none⟩,
   ⟨(some 5), .mv (.c (.int .i64 0)), none⟩]) <|
  .ret, none⟩
noncomputable def ffn4 : FFn := ⟨2, 16, [(4, none), (5, none)],
  cSeq (cReg 2 (
   oSeq (oMv (kc .nilSl) s004) <|
   oMv (kc (.int .i64 0)) s005)) <|
  cSeq (cSeq (cReg 4 (
   oSeq (oMv g000 s007) <|
   oSeq (oMv g001 s010) <|
   oSeq (oCallF 11 (fun T => [g007 T, g010 T, (.fn (.func 12) [] []), (.fn (.func 13) [] [])]) s011) <|
   oMv g011 s006)) <|
  cSeq (cReg 2 (
   oSeq (oMv g006 s012) <|
   oP (vNeq g012 (kc (.int .i64 0))) s013)) <|
  cCond g013
   (cSeq (cReg 3 (
    oSeq (oMv g006 s014) <|
    oSeq (oMv (kc .nilSl) s004) <|
    oMv g014 s005)) <|
   cExit 0)
   (cSkip)) <|
  cSeq (cReg 5 (
   oSeq (oMv g000 s015) <|
   oSeq (oMv g001 s016) <|
   oSeq (oCallF 14 (fun T => [g015 T, g016 T]) s017) <|
   oSeq (oMv g017 s004) <|
   oMv (kc (.int .i64 0)) s005)) <|
  cExit 0⟩
def afn11 : AFn := ⟨4, 28, [(8, none)],
  .seq (.region [
   ⟨(some 4), .box 3 (.t 0), none⟩,
   ⟨(some 6), .box 41 (.t 2), none⟩,
   ⟨(some 7), .box 42 (.t 3), none⟩,
   ⟨(some 8), .mv (.c (.int .i64 0)), none⟩]) <|
  .seq (.block 0 (.seq (.region [
    ⟨(some 10), .load none (.t 4), none⟩,
    ⟨(some 11), .bin .lss .int (.t 10) (.c (.int .i64 0)), none⟩,
    ⟨(some 12), .mv (.t 11), none⟩,
    ⟨(some 13), .load none (.t 4), (some (12, false))⟩,
    ⟨(some 14), .bin .gtr .int (.t 13) (.c (.int .i64 8)), (some (12, false))⟩,
    ⟨(some 15), .pick (.t 12) (.c (.bool true)) (.t 14), none⟩,
    ⟨(some 9), .mv (.t 15), none⟩]) <|
   .cond (.t 9)
    (.seq (.region [
     ⟨(some 8), .mv (.c (.int .i64 2)), none⟩]) <|
    .ret)
    (.seq (.region [
     ⟨(some 17), .mv (.t 1), none⟩,
     ⟨(some 18), .len (.t 17), none⟩,
     ⟨(some 19), .bin .gtr .int (.t 18) (.c (.int .i64 60)), none⟩,
     ⟨(some 16), .mv (.t 19), none⟩]) <|
    .cond (.t 16)
     (.seq (.region [
      ⟨(some 8), .mv (.c (.int .i64 4)), none⟩]) <|
     .ret)
     (.seq (.region [
      ⟨(some 21), .mv (.t 1), none⟩,
      ⟨(some 22), .mkfn (.func 24) [] [(.t 6), (.t 7)], none⟩,
      ⟨(some 23), .call (.c (.fn (.func 23) [] [])) [(.t 21), (.t 22)], none⟩,
      ⟨(some 20), .mv (.t 23), none⟩]) <|
     .cond (.t 20)
      (.seq (.region [
       ⟨(some 8), .mv (.c (.int .i64 8)), none⟩]) <|
      .ret)
      (.seq (.region [
       ⟨(some 25), .mv (.t 1), none⟩,
       ⟨(some 26), .mkfn (.func 26) [] [(.t 6), (.t 4)], none⟩,
       ⟨(some 27), .call (.c (.fn (.func 23) [] [])) [(.t 25), (.t 26)], none⟩,
       ⟨(some 24), .mv (.t 27), none⟩]) <|
      .cond (.t 24)
       (.seq (.region [
        ⟨(some 8), .mv (.c (.int .i64 70)), none⟩]) <|
       .ret)
       (.skip)))))) <|
  .seq (.region [
   ⟨(some 8), .mv (.c (.int .i64 0)), none⟩]) <|
  .ret, none⟩
noncomputable def ffn11 : FFn := ⟨4, 28, [(8, none)],
  cSeq (cReg 4 (
   oSeq (oBox 3 g000 0 s004) <|
   oSeq (oBox 41 g002 1 s006) <|
   oSeq (oBox 42 g003 2 s007) <|
   oMv (kc (.int .i64 0)) s010)) <|
  cSeq (cBlock 1 (cSeq (cReg 7 (
    oSeq (oLoad g004 s012) <|
    oSeq (oP (vLss g012 (kc (.int .i64 0))) s013) <|
    oSeq (oMv g013 s014) <|
    oSeq (oGuard g014 false s015 (oLoad g004 s015)) <|
    oSeq (oGuard g014 false s016 (oP (vGtr g015 (kc (.int .i64 8))) s016)) <|
    oSeq (oP (vPick g014 (kc (.bool true)) g016) s017) <|
    oMv g017 s011)) <|
   cCond g011
    (cSeq (cReg 1 (
     oMv (kc (.int .i64 2)) s010)) <|
    cExit 0)
    (cSeq (cReg 4 (
     oSeq (oMv g001 s021) <|
     oSeq (oP (vLen g021) s022) <|
     oSeq (oP (vGtr g022 (kc (.int .i64 60))) s023) <|
     oMv g023 s020)) <|
    cCond g020
     (cSeq (cReg 1 (
      oMv (kc (.int .i64 4)) s010)) <|
     cExit 0)
     (cSeq (cReg 4 (
      oSeq (oMv g001 s025) <|
      oSeq (oGen (.mkfn (.func 24) [] [(.t 6), (.t 7)]) 1 s026) <|
      oSeq (oCallF 23 (fun T => [g025 T, g026 T]) s027) <|
      oMv g027 s024)) <|
     cCond g024
      (cSeq (cReg 1 (
       oMv (kc (.int .i64 8)) s010)) <|
      cExit 0)
      (cSeq (cReg 4 (
       oSeq (oMv g001 s031) <|
       oSeq (oGen (.mkfn (.func 26) [] [(.t 6), (.t 4)]) 1 s032) <|
       oSeq (oCallF 23 (fun T => [g031 T, g032 T]) s033) <|
       oMv g033 s030)) <|
      cCond g030
       (cSeq (cReg 1 (
        oMv (kc (.int .i64 70)) s010)) <|
       cExit 0)
       (cSkip)))))) <|
  cSeq (cReg 1 (
   oMv (kc (.int .i64 0)) s010)) <|
  cExit 0⟩
def afn24 : AFn := ⟨3, 15, [(4, none)],
  .seq (.region [
   ⟨(some 3), .box 29 (.t 0), none⟩,
   ⟨(some 4), .mv (.c (.bool false)), none⟩]) <|
  .seq (.region [
   ⟨(some 5), .load none (.t 1), none⟩,
   ⟨(some 6), .load (some 2) (.t 3), none⟩,
   ⟨(some 7), .call (.t 5) [(.t 6)], none⟩,
   ⟨(some 8), .call (.c (.fn (.func 25) [] [])) [(.t 7)], none⟩,
   ⟨(some 9), .bin .neq .int (.t 8) (.c (.int .i64 0)), none⟩,
   ⟨(some 10), .mv (.t 9), none⟩,
   ⟨(some 11), .load none (.t 2), (some (10, false))⟩,
   ⟨(some 12), .load (some 2) (.t 3), (some (10, false))⟩,
   ⟨(some 13), .call (.t 11) [(.t 12)], (some (10, false))⟩,
   ⟨(some 14), .pick (.t 10) (.c (.bool true)) (.t 13), none⟩,
   ⟨(some 4), .mv (.t 14), none⟩]) <|
  .ret, none⟩
noncomputable def ffn24 : FFn := ⟨3, 15, [(4, none)],
  cSeq (cReg 2 (
   oSeq (oBox 29 g000 0 s003) <|
   oMv (kc (.bool false)) s004)) <|
  cSeq (cReg 11 (
   oSeq (oLoad g001 s005) <|
   oSeq (oLoadN 2 g003 s006) <|
   oSeq (oCall g005 (fun T => [g006 T]) s007) <|
   oSeq (oCallF 25 (fun T => [g007 T]) s010) <|
   oSeq (oP (vNeq g010 (kc (.int .i64 0))) s011) <|
   oSeq (oMv g011 s012) <|
   oSeq (oGuard g012 false s013 (oLoad g002 s013)) <|
   oSeq (oGuard g012 false s014 (oLoadN 2 g003 s014)) <|
   oSeq (oGuard g012 false s015 (oCall g013 (fun T => [g014 T]) s015)) <|
   oSeq (oP (vPick g012 (kc (.bool true)) g015) s016) <|
   oMv g016 s004)) <|
  cExit 0⟩
def afn25 : AFn := ⟨1, 10, [(2, none)],
  .seq (.region [
   ⟨(some 2), .mv (.c (.int .i64 0)), none⟩]) <|
  .seq (.seq (.region [
   ⟨(some 3), .mv (.t 0), none⟩,
   ⟨(some 4), .len (.t 3), none⟩,
   ⟨(some 5), .bin .gtr .int (.t 4) (.c (.int .i64 64)), none⟩,
   ⟨(some 6), .mv (.t 5), none⟩,
   ⟨(some 7), .mv (.t 0), (some (6, false))⟩,
   ⟨(some 8), .call (.c (.fn (.func 39) [] [])) [(.t 7), (.c (.fn (.func 40) [] []))], (some (6, false))⟩,
   ⟨(some 9), .pick (.t 6) (.c (.bool true)) (.t 8), none⟩]) <|
  .cond (.t 9)
   (.seq (.region [
    ⟨(some 2), .mv (.c (.int .i64 8)), none⟩]) <|
   .ret)
   (.skip)) <|
  .seq (.region [
   ⟨(some 2), .mv (.c (.int .i64 0)), none⟩]) <|
  .ret, none⟩
noncomputable def ffn25 : FFn := ⟨1, 10, [(2, none)],
  cSeq (cReg 1 (
   oMv (kc (.int .i64 0)) s002)) <|
  cSeq (cSeq (cReg 7 (
   oSeq (oMv g000 s003) <|
   oSeq (oP (vLen g003) s004) <|
   oSeq (oP (vGtr g004 (kc (.int .i64 64))) s005) <|
   oSeq (oMv g005 s006) <|
   oSeq (oGuard g006 false s007 (oMv g000 s007)) <|
   oSeq (oGuard g006 false s010 (oCallF 39 (fun T => [g007 T, (.fn (.func 40) [] [])]) s010)) <|
   oP (vPick g006 (kc (.bool true)) g010) s011)) <|
  cCond g011
   (cSeq (cReg 1 (
    oMv (kc (.int .i64 8)) s002)) <|
   cExit 0)
   (cSkip)) <|
  cSeq (cReg 1 (
   oMv (kc (.int .i64 0)) s002)) <|
  cExit 0⟩
def afn39 : AFn := ⟨2, 9, [(4, none)],
  .seq (.region [
   ⟨(some 4), .mv (.c (.bool false)), none⟩]) <|
  .seq (.region [
   ⟨(some 5), .mv (.t 0), none⟩,
   ⟨(some 6), .mv (.t 1), none⟩,
   ⟨(some 7), .call (.c (.fn (.func 59) [] [])) [(.t 5), (.t 6)], none⟩,
   ⟨(some 8), .bin .geq .int (.t 7) (.c (.int .i64 0)), none⟩,
   ⟨(some 4), .mv (.t 8), none⟩]) <|
  .ret, none⟩
noncomputable def ffn39 : FFn := ⟨2, 9, [(4, none)],
  cSeq (cReg 1 (
   oMv (kc (.bool false)) s004)) <|
  cSeq (cReg 5 (
   oSeq (oMv g000 s005) <|
   oSeq (oMv g001 s006) <|
   oSeq (oCallF 59 (fun T => [g005 T, g006 T]) s007) <|
   oSeq (oP (vGeq g007 (kc (.int .i64 0))) s010) <|
   oMv g010 s004)) <|
  cExit 0⟩
def afn59 : AFn := ⟨2, 19, [(4, none)],
  .seq (.region [
   ⟨(some 4), .mv (.c (.int .i64 0)), none⟩]) <|
  .seq (.seq (.region [
   ⟨(some 6), .mv (.t 0), none⟩,
   ⟨(some 7), .len (.t 6), none⟩,
   ⟨(some 8), .mv (.c (.int .i64 0)), none⟩]) <|
  .block 0 (.loop (.seq (.region [
     ⟨(some 9), .bin .lss .int (.t 8) (.t 7), none⟩]) <|
    .seq (.cond (.t 9)
     (.skip)
     (.exit 0)) <|
    .seq (.block 1 (.seq (.region [
      ⟨(some 10), .mv (.t 8), none⟩,
      ⟨(some 5), .mv (.t 10), none⟩]) <|
     .seq (.region [
      ⟨(some 11), .mv (.t 1), none⟩,
      ⟨(some 12), .mv (.t 0), none⟩,
      ⟨(some 13), .mv (.t 5), none⟩,
      ⟨(some 14), .indexAddr 2 (.t 12) (.t 13), none⟩,
      ⟨(some 15), .load (some 2) (.t 14), none⟩,
      ⟨(some 16), .call (.t 11) [(.t 15)], none⟩]) <|
     .cond (.t 16)
      (.seq (.region [
       ⟨(some 17), .mv (.t 5), none⟩,
       ⟨(some 4), .mv (.t 17), none⟩]) <|
      .ret)
      (.skip))) <|
    .region [
     ⟨(some 18), .bin .add .int (.t 8) (.c (.int .i64 1)), none⟩,
     ⟨(some 8), .mv (.t 18), none⟩]))) <|
  .seq (.region [
   ⟨(some 4), .mv (.c (.int .i64 (-1))), none⟩]) <|
  .ret, none⟩
noncomputable def ffn59 : FFn := ⟨2, 19, [(4, none)],
  cSeq (cReg 1 (
   oMv (kc (.int .i64 0)) s004)) <|
  cSeq (cSeq (cReg 3 (
   oSeq (oMv g000 s006) <|
   oSeq (oP (vLen g006) s007) <|
   oMv (kc (.int .i64 0)) s010)) <|
  cBlock 1 (cLoop 1000000 (cSeq (cReg 1 (
     oP (vLss g010 g007) s011)) <|
    cSeq (cCond g011
     (cSkip)
     (cExit 1)) <|
    cSeq (cBlock 3 (cSeq (cReg 2 (
      oSeq (oMv g010 s012) <|
      oMv g012 s005)) <|
     cSeq (cReg 6 (
      oSeq (oMv g001 s013) <|
      oSeq (oMv g000 s014) <|
      oSeq (oMv g005 s015) <|
      oSeq (oP (vIdx 2 g014 g015) s016) <|
      oSeq (oLoadN 2 g016 s017) <|
      oCall g013 (fun T => [g017 T]) s020)) <|
     cCond g020
      (cSeq (cReg 2 (
       oSeq (oMv g005 s021) <|
       oMv g021 s004)) <|
      cExit 0)
      (cSkip))) <|
    cReg 2 (
     oSeq (oP (vAdd g010 (kc (.int .i64 1))) s022) <|
     oMv g022 s010)))) <|
  cSeq (cReg 1 (
   oMv (kc (.int .i64 (-1))) s004)) <|
  cExit 0⟩
def afn40 : AFn := ⟨1, 6, [(2, none)],
  .seq (.region [
   ⟨(some 1), .box 62 (.t 0), none⟩,
   ⟨(some 2), .mv (.c (.bool false)), none⟩]) <|
  .seq (.region [
   ⟨(some 3), .load (some 2) (.t 1), none⟩,
   ⟨(some 4), .call (.c (.fn (.func 41) [] [])) [(.t 3)], none⟩,
   ⟨(some 5), .bin .neq .int (.t 4) (.c (.int .i64 0)), none⟩,
   ⟨(some 2), .mv (.t 5), none⟩]) <|
  .ret, none⟩
noncomputable def ffn40 : FFn := ⟨1, 6, [(2, none)],
  cSeq (cReg 2 (
   oSeq (oBox 62 g000 0 s001) <|
   oMv (kc (.bool false)) s002)) <|
  cSeq (cReg 4 (
   oSeq (oLoadN 2 g001 s003) <|
   oSeq (oCallF 41 (fun T => [g003 T]) s004) <|
   oSeq (oP (vNeq g004 (kc (.int .i64 0))) s005) <|
   oMv g005 s002)) <|
  cExit 0⟩
def afn41 : AFn := ⟨1, 17, [(2, none)],
  .seq (.region [
   ⟨(some 1), .box 62 (.t 0), none⟩,
   ⟨(some 2), .mv (.c (.int .i64 0)), none⟩]) <|
  .seq (.seq (.region [
   ⟨(some 3), .fieldAddr 1 (.t 1), none⟩,
   ⟨(some 4), .load none (.t 3), none⟩,
   ⟨(some 5), .call (.c (.fn (.func 60) [] [])) [(.t 4)], none⟩,
   ⟨(some 6), .bin .neq .int (.t 5) (.c (.int .i64 0)), none⟩,
   ⟨(some 7), .mv (.t 6), none⟩,
   ⟨(some 8), .fieldAddr 0 (.t 1), (some (7, false))⟩,
   ⟨(some 9), .load none (.t 8), (some (7, false))⟩,
   ⟨(some 10), .mv (.t 9), (some (7, false))⟩,
   ⟨(some 11), .fieldAddr 1 (.t 1), (some (10, true))⟩,
   ⟨(some 12), .load none (.t 11), (some (10, true))⟩,
   ⟨(some 13), .len (.t 12), (some (10, true))⟩,
   ⟨(some 14), .bin .eql .int (.t 13) (.c (.int .i64 0)), (some (10, true))⟩,
   ⟨(some 15), .pick (.t 10) (.t 14) (.c (.bool false)), (some (7, false))⟩,
   ⟨(some 16), .pick (.t 7) (.c (.bool true)) (.t 15), none⟩]) <|
  .cond (.t 16)
   (.seq (.region [
    ⟨(some 2), .mv (.c (.int .i64 8)), none⟩]) <|
   .ret)
   (.skip)) <|
  .seq (.region [
   ⟨(some 2), .mv (.c (.int .i64 0)), none⟩]) <|
  .ret, none⟩
noncomputable def ffn41 : FFn := ⟨1, 17, [(2, none)],
  cSeq (cReg 2 (
   oSeq (oBox 62 g000 0 s001) <|
   oMv (kc (.int .i64 0)) s002)) <|
  cSeq (cSeq (cReg 14 (
   oSeq (oP (vFA 1 g001) s003) <|
   oSeq (oLoad g003 s004) <|
   oSeq (oCallF 60 (fun T => [g004 T]) s005) <|
   oSeq (oP (vNeq g005 (kc (.int .i64 0))) s006) <|
   oSeq (oMv g006 s007) <|
   oSeq (oGuard g007 false s010 (oP (vFA 0 g001) s010)) <|
   oSeq (oGuard g007 false s011 (oLoad g010 s011)) <|
   oSeq (oGuard g007 false s012 (oMv g011 s012)) <|
   oSeq (oGuard g012 true s013 (oP (vFA 1 g001) s013)) <|
   oSeq (oGuard g012 true s014 (oLoad g013 s014)) <|
   oSeq (oGuard g012 true s015 (oP (vLen g014) s015)) <|
   oSeq (oGuard g012 true s016 (oP (vEql g015 (kc (.int .i64 0))) s016)) <|
   oSeq (oGuard g007 false s017 (oP (vPick g012 g016 (kc (.bool false))) s017)) <|
   oP (vPick g007 (kc (.bool true)) g017) s020)) <|
  cCond g020
   (cSeq (cReg 1 (
    oMv (kc (.int .i64 8)) s002)) <|
   cExit 0)
   (cSkip)) <|
  cSeq (cReg 1 (
   oMv (kc (.int .i64 0)) s002)) <|
  cExit 0⟩
def afn60 : AFn := ⟨1, 16, [(2, none)],
  .seq (.region [
   ⟨(some 2), .mv (.c (.int .i64 0)), none⟩]) <|
  .seq (.seq (.region [
   ⟨(some 4), .mv (.t 0), none⟩,
   ⟨(some 5), .len (.t 4), none⟩,
   ⟨(some 3), .mv (.t 5), none⟩]) <|
  .seq (.region [
   ⟨(some 6), .mv (.t 3), none⟩,
   ⟨(some 7), .bin .gtr .int (.t 6) (.c (.int .i64 0)), none⟩,
   ⟨(some 8), .mv (.t 7), none⟩,
   ⟨(some 9), .mv (.t 0), (some (8, true))⟩,
   ⟨(some 10), .mv (.t 3), (some (8, true))⟩,
   ⟨(some 11), .bin .sub .int (.t 10) (.c (.int .i64 1)), (some (8, true))⟩,
   ⟨(some 12), .indexAddr 1 (.t 9) (.t 11), (some (8, true))⟩,
   ⟨(some 13), .load none (.t 12), (some (8, true))⟩,
   ⟨(some 14), .bin .eql .int (.t 13) (.c (.int .u64 0)), (some (8, true))⟩,
   ⟨(some 15), .pick (.t 8) (.t 14) (.c (.bool false)), none⟩]) <|
  .cond (.t 15)
   (.seq (.region [
    ⟨(some 2), .mv (.c (.int .i64 8)), none⟩]) <|
   .ret)
   (.skip)) <|
  .seq (.region [
   ⟨(some 2), .mv (.c (.int .i64 0)), none⟩]) <|
  .ret, none⟩
noncomputable def ffn60 : FFn := ⟨1, 16, [(2, none)],
  cSeq (cReg 1 (
   oMv (kc (.int .i64 0)) s002)) <|
  cSeq (cSeq (cReg 3 (
   oSeq (oMv g000 s004) <|
   oSeq (oP (vLen g004) s005) <|
   oMv g005 s003)) <|
  cSeq (cReg 10 (
   oSeq (oMv g003 s006) <|
   oSeq (oP (vGtr g006 (kc (.int .i64 0))) s007) <|
   oSeq (oMv g007 s010) <|
   oSeq (oGuard g010 true s011 (oMv g000 s011)) <|
   oSeq (oGuard g010 true s012 (oMv g003 s012)) <|
   oSeq (oGuard g010 true s013 (oP (vSub g012 (kc (.int .i64 1))) s013)) <|
   oSeq (oGuard g010 true s014 (oP (vIdx 1 g011 g013) s014)) <|
   oSeq (oGuard g010 true s015 (oLoad g014 s015)) <|
   oSeq (oGuard g010 true s016 (oP (vEql g015 (kc (.int .u64 0))) s016)) <|
   oP (vPick g010 g016 (kc (.bool false))) s017)) <|
  cCond g017
   (cSeq (cReg 1 (
    oMv (kc (.int .i64 8)) s002)) <|
   cExit 0)
   (cSkip)) <|
  cSeq (cReg 1 (
   oMv (kc (.int .i64 0)) s002)) <|
  cExit 0⟩
def afn23 : AFn := ⟨2, 9, [(4, none)],
  .seq (.region [
   ⟨(some 4), .mv (.c (.bool false)), none⟩]) <|
  .seq (.region [
   ⟨(some 5), .mv (.t 0), none⟩,
   ⟨(some 6), .mv (.t 1), none⟩,
   ⟨(some 7), .call (.c (.fn (.func 38) [] [])) [(.t 5), (.t 6)], none⟩,
   ⟨(some 8), .bin .geq .int (.t 7) (.c (.int .i64 0)), none⟩,
   ⟨(some 4), .mv (.t 8), none⟩]) <|
  .ret, none⟩
noncomputable def ffn23 : FFn := ⟨2, 9, [(4, none)],
  cSeq (cReg 1 (
   oMv (kc (.bool false)) s004)) <|
  cSeq (cReg 5 (
   oSeq (oMv g000 s005) <|
   oSeq (oMv g001 s006) <|
   oSeq (oCallF 38 (fun T => [g005 T, g006 T]) s007) <|
   oSeq (oP (vGeq g007 (kc (.int .i64 0))) s010) <|
   oMv g010 s004)) <|
  cExit 0⟩
def afn38 : AFn := ⟨2, 19, [(4, none)],
  .seq (.region [
   ⟨(some 4), .mv (.c (.int .i64 0)), none⟩]) <|
  .seq (.seq (.region [
   ⟨(some 6), .mv (.t 0), none⟩,
   ⟨(some 7), .len (.t 6), none⟩,
   ⟨(some 8), .mv (.c (.int .i64 0)), none⟩]) <|
  .block 0 (.loop (.seq (.region [
     ⟨(some 9), .bin .lss .int (.t 8) (.t 7), none⟩]) <|
    .seq (.cond (.t 9)
     (.skip)
     (.exit 0)) <|
    .seq (.block 1 (.seq (.region [
      ⟨(some 10), .mv (.t 8), none⟩,
      ⟨(some 5), .mv (.t 10), none⟩]) <|
     .seq (.region [
      ⟨(some 11), .mv (.t 1), none⟩,
      ⟨(some 12), .mv (.t 0), none⟩,
      ⟨(some 13), .mv (.t 5), none⟩,
      ⟨(some 14), .indexAddr 2 (.t 12) (.t 13), none⟩,
      ⟨(some 15), .load (some 2) (.t 14), none⟩,
      ⟨(some 16), .call (.t 11) [(.t 15)], none⟩]) <|
     .cond (.t 16)
      (.seq (.region [
       ⟨(some 17), .mv (.t 5), none⟩,
       ⟨(some 4), .mv (.t 17), none⟩]) <|
      .ret)
      (.skip))) <|
    .region [
     ⟨(some 18), .bin .add .int (.t 8) (.c (.int .i64 1)), none⟩,
     ⟨(some 8), .mv (.t 18), none⟩]))) <|
  .seq (.region [
   ⟨(some 4), .mv (.c (.int .i64 (-1))), none⟩]) <|
  .ret, none⟩
noncomputable def ffn38 : FFn := ⟨2, 19, [(4, none)],
  cSeq (cReg 1 (
   oMv (kc (.int .i64 0)) s004)) <|
  cSeq (cSeq (cReg 3 (
   oSeq (oMv g000 s006) <|
   oSeq (oP (vLen g006) s007) <|
   oMv (kc (.int .i64 0)) s010)) <|
  cBlock 1 (cLoop 1000000 (cSeq (cReg 1 (
     oP (vLss g010 g007) s011)) <|
    cSeq (cCond g011
     (cSkip)
     (cExit 1)) <|
    cSeq (cBlock 3 (cSeq (cReg 2 (
      oSeq (oMv g010 s012) <|
      oMv g012 s005)) <|
     cSeq (cReg 6 (
      oSeq (oMv g001 s013) <|
      oSeq (oMv g000 s014) <|
      oSeq (oMv g005 s015) <|
      oSeq (oP (vIdx 2 g014 g015) s016) <|
      oSeq (oLoadN 2 g016 s017) <|
      oCall g013 (fun T => [g017 T]) s020)) <|
     cCond g020
      (cSeq (cReg 2 (
       oSeq (oMv g005 s021) <|
       oMv g021 s004)) <|
      cExit 0)
      (cSkip))) <|
    cReg 2 (
     oSeq (oP (vAdd g010 (kc (.int .i64 1))) s022) <|
     oMv g022 s010)))) <|
  cSeq (cReg 1 (
   oMv (kc (.int .i64 (-1))) s004)) <|
  cExit 0⟩
def afn26 : AFn := ⟨3, 12, [(4, none)],
  .seq (.region [
   ⟨(some 3), .box 29 (.t 0), none⟩,
   ⟨(some 4), .mv (.c (.bool false)), none⟩]) <|
  .seq (.draw [
   ⟨(some 5), .load none (.t 1), none, [(1, none)], 0, [(0, [])]⟩,
   ⟨(some 6), .load (some 2) (.t 3), none, [(3, none)], 0, [(0, [])]⟩,
   ⟨(some 7), .call (.t 5) [(.t 6)], none, [(5, (some 0)), (6, (some 1))], 2, [(0, [])]⟩,
   ⟨(some 8), .len (.t 7), none, [(7, (some 2))], 0, [(1, [])]⟩,
   ⟨(some 9), .load none (.t 2), none, [(2, none)], 0, [(0, []), (1, [])]⟩,
   ⟨(some 10), .bin .add .int (.t 9) (.c (.int .i64 1)), none, [(9, (some 4))], 0, [(0, []), (1, [])]⟩,
   ⟨(some 11), .bin .neq .int (.t 8) (.t 10), none, [(8, (some 3)), (10, (some 5))], 0, [(1, [])]⟩,
   ⟨(some 4), .mv (.t 11), none, [(11, (some 6))], 0, [(1, [])]⟩] []) <|
  .ret, none⟩
noncomputable def ffn26 : FFn := ⟨3, 12, [(4, none)],
  cSeq (cReg 2 (
   oSeq (oBox 29 g000 0 s003) <|
   oMv (kc (.bool false)) s004)) <|
  cSeq (cDrw 8 (
   dSeq (dLook 0 [] (oLoad g001 s005)) <|
   dSeq (dLook 0 [] (oLoadN 2 g003 s006)) <|
   dSeq (dAct 0 [] (oCall g005 (fun T => [g006 T]) s007)) <|
   dSeq (dLook 0 [] (oP (vLen g007) s010)) <|
   dSeq (dLook 1 [] (oLoad g002 s011)) <|
   dSeq (dLook 0 [] (oP (vAdd g011 (kc (.int .i64 1))) s012)) <|
   dSeq (dLook 0 [] (oP (vNeq g010 g012) s013)) <|
   dSeq (dLook 0 [] (oMv g013 s004)) <|
   dNop)
   (ckSeq (ckOne g011 0 [] (oLoad g002 s011)) <|
  ckNop) []) <|
  cExit 0⟩
def afn12 : AFn := ⟨1, 5, [(2, none)],
  .seq (.region [
   ⟨(some 1), .box 29 (.t 0), none⟩,
   ⟨(some 2), .mv (.c .nilSl), none⟩]) <|
  .seq (.region [
   ⟨(some 3), .fieldAddr 1 (.t 1), none⟩,
   ⟨(some 4), .load none (.t 3), none⟩,
   ⟨(some 2), .mv (.t 4), none⟩]) <|
  .ret, none⟩
noncomputable def ffn12 : FFn := ⟨1, 5, [(2, none)],
  cSeq (cReg 2 (
   oSeq (oBox 29 g000 0 s001) <|
   oMv (kc .nilSl) s002)) <|
  cSeq (cReg 3 (
   oSeq (oP (vFA 1 g001) s003) <|
   oSeq (oLoad g003 s004) <|
   oMv g004 s002)) <|
  cExit 0⟩
def afn13 : AFn := ⟨1, 18, [(2, none)],
  .seq (.region [
   ⟨(some 1), .box 29 (.t 0), none⟩,
   ⟨(some 2), .mv (.c (.bool false)), none⟩]) <|
  .seq (.seq (.region [
   ⟨(some 3), .fieldAddr 0 (.t 1), none⟩,
   ⟨(some 4), .load none (.t 3), none⟩]) <|
  .block 0 (.seq (.seq (.region [
    ⟨(some 6), .bin .eql .int (.t 4) (.c (.int .u8 1)), none⟩,
    ⟨(some 5), .mv (.t 6), none⟩]) <|
   .cond (.t 5)
    (.skip)
    (.region [
     ⟨(some 7), .bin .eql .int (.t 4) (.c (.int .u8 2)), none⟩,
     ⟨(some 5), .mv (.t 7), none⟩])) <|
   .cond (.t 5)
    (.seq (.region [
     ⟨(some 8), .fieldAddr 1 (.t 1), none⟩,
     ⟨(some 9), .load none (.t 8), none⟩,
     ⟨(some 10), .call (.c (.fn (.func 27) [] [])) [(.t 9)], none⟩,
     ⟨(some 11), .bin .neq .int (.t 10) (.c (.int .i64 0)), none⟩,
     ⟨(some 2), .mv (.t 11), none⟩]) <|
    .ret)
    (.seq (.region [
     ⟨(some 13), .bin .eql .int (.t 4) (.c (.int .u8 3)), none⟩,
     ⟨(some 12), .mv (.t 13), none⟩]) <|
    .cond (.t 12)
     (.seq (.region [
      ⟨(some 14), .fieldAddr 1 (.t 1), none⟩,
      ⟨(some 15), .load none (.t 14), none⟩,
      ⟨(some 16), .call (.c (.fn (.func 27) [] [])) [(.t 15)], none⟩,
      ⟨(some 17), .bin .leq .int (.t 16) (.c (.int .i64 0)), none⟩,
      ⟨(some 2), .mv (.t 17), none⟩]) <|
     .ret)
     (.skip)))) <|
  .seq (.region [
   ⟨(some 2), .mv (.c (.bool true)), none⟩]) <|
  .ret, none⟩
noncomputable def ffn13 : FFn := ⟨1, 18, [(2, none)],
  cSeq (cReg 2 (
   oSeq (oBox 29 g000 0 s001) <|
   oMv (kc (.bool false)) s002)) <|
  cSeq (cSeq (cReg 2 (
   oSeq (oP (vFA 0 g001) s003) <|
   oLoad g003 s004)) <|
  cBlock 1 (cSeq (cSeq (cReg 2 (
    oSeq (oP (vEql g004 (kc (.int .u8 1))) s006) <|
    oMv g006 s005)) <|
   cCond g005
    (cSkip)
    (cReg 2 (
     oSeq (oP (vEql g004 (kc (.int .u8 2))) s007) <|
     oMv g007 s005))) <|
   cCond g005
    (cSeq (cReg 5 (
     oSeq (oP (vFA 1 g001) s010) <|
     oSeq (oLoad g010 s011) <|
     oSeq (oCallF 27 (fun T => [g011 T]) s012) <|
     oSeq (oP (vNeq g012 (kc (.int .i64 0))) s013) <|
     oMv g013 s002)) <|
    cExit 0)
    (cSeq (cReg 2 (
     oSeq (oP (vEql g004 (kc (.int .u8 3))) s015) <|
     oMv g015 s014)) <|
    cCond g014
     (cSeq (cReg 5 (
      oSeq (oP (vFA 1 g001) s016) <|
      oSeq (oLoad g016 s017) <|
      oSeq (oCallF 27 (fun T => [g017 T]) s020) <|
      oSeq (oP (vLeq g020 (kc (.int .i64 0))) s021) <|
      oMv g021 s002)) <|
     cExit 0)
     (cSkip)))) <|
  cSeq (cReg 1 (
   oMv (kc (.bool true)) s002)) <|
  cExit 0⟩
def afn27 : AFn := ⟨1, 16, [(2, none)],
  .seq (.region [
   ⟨(some 2), .mv (.c (.int .i64 0)), none⟩]) <|
  .seq (.seq (.region [
   ⟨(some 5), .mv (.t 0), none⟩,
   ⟨(some 6), .len (.t 5), none⟩,
   ⟨(some 7), .bin .eql .int (.t 6) (.c (.int .i64 0)), none⟩]) <|
  .cond (.t 7)
   (.seq (.region [
    ⟨(some 2), .mv (.c (.int .i64 0)), none⟩]) <|
   .ret)
   (.skip)) <|
  .seq (.region [
   ⟨(some 9), .mv (.t 0), none⟩,
   ⟨(some 10), .indexAddr 2 (.t 9) (.c (.int .i64 0)), none⟩,
   ⟨(some 11), .load (some 2) (.t 10), none⟩,
   ⟨(some 12), .call (.c (.fn (.func 42) [] [])) [(.t 11)], none⟩,
   ⟨(some 8), .mv (.t 12), none⟩,
   ⟨(some 13), .extract 0 (.t 8), none⟩,
   ⟨(some 14), .extract 1 (.t 8), none⟩,
   ⟨(some 3), .mv (.t 13), none⟩,
   ⟨(some 4), .mv (.t 14), none⟩]) <|
  .seq (.region [
   ⟨(some 15), .mv (.t 3), none⟩,
   ⟨(some 2), .mv (.t 15), none⟩]) <|
  .ret, none⟩
noncomputable def ffn27 : FFn := ⟨1, 16, [(2, none)],
  cSeq (cReg 1 (
   oMv (kc (.int .i64 0)) s002)) <|
  cSeq (cSeq (cReg 3 (
   oSeq (oMv g000 s005) <|
   oSeq (oP (vLen g005) s006) <|
   oP (vEql g006 (kc (.int .i64 0))) s007)) <|
  cCond g007
   (cSeq (cReg 1 (
    oMv (kc (.int .i64 0)) s002)) <|
   cExit 0)
   (cSkip)) <|
  cSeq (cReg 9 (
   oSeq (oMv g000 s011) <|
   oSeq (oP (vIdx 2 g011 (kc (.int .i64 0))) s012) <|
   oSeq (oLoadN 2 g012 s013) <|
   oSeq (oCallF 42 (fun T => [g013 T]) s014) <|
   oSeq (oMv g014 s010) <|
   oSeq (oP (vExt 0 g010) s015) <|
   oSeq (oP (vExt 1 g010) s016) <|
   oSeq (oMv g015 s003) <|
   oMv g016 s004)) <|
  cSeq (cReg 2 (
   oSeq (oMv g003 s017) <|
   oMv g017 s002)) <|
  cExit 0⟩
def afn42 : AFn := ⟨1, 12, [(2, none), (3, none)],
  .seq (.region [
   ⟨(some 1), .box 62 (.t 0), none⟩,
   ⟨(some 2), .mv (.c (.int .i64 0)), none⟩,
   ⟨(some 3), .mv (.c (.int .i64 0)), none⟩]) <|
  .seq (.seq (.region [
   ⟨(some 5), .load (some 2) (.t 1), none⟩,
   ⟨(some 6), .call (.c (.fn (.func 41) [] [])) [(.t 5)], none⟩,
   ⟨(some 4), .mv (.t 6), none⟩]) <|
  .seq (.region [
   ⟨(some 7), .mv (.t 4), none⟩,
   ⟨(some 8), .bin .neq .int (.t 7) (.c (.int .i64 0)), none⟩]) <|
  .cond (.t 8)
   (.seq (.region [
    ⟨(some 9), .mv (.t 4), none⟩,
    ⟨(some 2), .mv (.c (.int .i64 0)), none⟩,
    ⟨(some 3), .mv (.t 9), none⟩]) <|
   .ret)
   (.skip)) <|
  .seq (.region [
   ⟨(some 10), .load (some 2) (.t 1), none⟩,
   ⟨(some 11), .call (.c (.fn (.func 61) [] [])) [(.t 10)], none⟩,
   ⟨(some 2), .mv (.t 11), none⟩,
   ⟨(some 3), .mv (.c (.int .i64 0)), none⟩]) <|
  .ret, none⟩
noncomputable def ffn42 : FFn := ⟨1, 12, [(2, none), (3, none)],
  cSeq (cReg 3 (
   oSeq (oBox 62 g000 0 s001) <|
   oSeq (oMv (kc (.int .i64 0)) s002) <|
   oMv (kc (.int .i64 0)) s003)) <|
  cSeq (cSeq (cReg 3 (
   oSeq (oLoadN 2 g001 s005) <|
   oSeq (oCallF 41 (fun T => [g005 T]) s006) <|
   oMv g006 s004)) <|
  cSeq (cReg 2 (
   oSeq (oMv g004 s007) <|
   oP (vNeq g007 (kc (.int .i64 0))) s010)) <|
  cCond g010
   (cSeq (cReg 3 (
    oSeq (oMv g004 s011) <|
    oSeq (oMv (kc (.int .i64 0)) s002) <|
    oMv g011 s003)) <|
   cExit 0)
   (cSkip)) <|
  cSeq (cReg 4 (
   oSeq (oLoadN 2 g001 s012) <|
   oSeq (oCallF 61 (fun T => [g012 T]) s013) <|
   oSeq (oMv g013 s002) <|
   oMv (kc (.int .i64 0)) s003)) <|
  cExit 0⟩
def afn61 : AFn := ⟨1, 16, [(2, none)],
  .seq (.region [
   ⟨(some 1), .box 62 (.t 0), none⟩,
   ⟨(some 2), .mv (.c (.int .i64 0)), none⟩]) <|
  .seq (.region [
   ⟨(some 4), .fieldAddr 0 (.t 1), none⟩,
   ⟨(some 5), .load none (.t 4), none⟩,
   ⟨(some 6), .fieldAddr 1 (.t 1), none⟩,
   ⟨(some 7), .load none (.t 6), none⟩,
   ⟨(some 8), .len (.t 7), none⟩,
   ⟨(some 9), .bin .eql .int (.t 8) (.c (.int .i64 0)), none⟩,
   ⟨(some 10), .build [(.bool false), (.bool false)] [((0, 1), (.t 5)), ((1, 1), (.t 9))], none⟩,
   ⟨(some 3), .alloc 116 [(.bool false), (.bool false)], none⟩,
   ⟨none, .store 2 (.t 3) (.t 10), none⟩]) <|
  .seq (.seq (.region [
   ⟨(some 11), .load (some 2) (.t 3), none⟩,
   ⟨(some 12), .build [(.bool false), (.bool false)] [((0, 1), (.c (.bool false))), ((1, 1), (.c (.bool true)))], none⟩,
   ⟨(some 13), .eqAgg false (.t 11) (.t 12), none⟩]) <|
  .cond (.t 13)
   (.seq (.region [
    ⟨(some 2), .mv (.c (.int .i64 0)), none⟩]) <|
   .ret)
   (.skip)) <|
  .seq (.seq (.region [
   ⟨(some 14), .fieldAddr 0 (.t 1), none⟩,
   ⟨(some 15), .load none (.t 14), none⟩]) <|
  .cond (.t 15)
   (.seq (.region [
    ⟨(some 2), .mv (.c (.int .i64 (-1))), none⟩]) <|
   .ret)
   (.skip)) <|
  .seq (.region [
   ⟨(some 2), .mv (.c (.int .i64 1)), none⟩]) <|
  .ret, none⟩
noncomputable def ffn61 : FFn := ⟨1, 16, [(2, none)],
  cSeq (cReg 2 (
   oSeq (oBox 62 g000 0 s001) <|
   oMv (kc (.int .i64 0)) s002)) <|
  cSeq (cReg 9 (
   oSeq (oP (vFA 0 g001) s004) <|
   oSeq (oLoad g004 s005) <|
   oSeq (oP (vFA 1 g001) s006) <|
   oSeq (oLoad g006 s007) <|
   oSeq (oP (vLen g007) s010) <|
   oSeq (oP (vEql g010 (kc (.int .i64 0))) s011) <|
   oSeq (oP (vBuild [(.bool false), (.bool false)] [((0, 1), g005), ((1, 1), g011)]) s012) <|
   oSeq (oAlloc 116 [(.bool false), (.bool false)] 7 s003) <|
   oStoreN 2 g003 g012 noPut)) <|
  cSeq (cSeq (cReg 3 (
   oSeq (oLoadN 2 g003 s013) <|
   oSeq (oP (vBuild [(.bool false), (.bool false)] [((0, 1), (kc (.bool false))), ((1, 1), (kc (.bool true)))]) s014) <|
   oGen (.eqAgg false (.t 11) (.t 12)) 2 s015)) <|
  cCond g015
   (cSeq (cReg 1 (
    oMv (kc (.int .i64 0)) s002)) <|
   cExit 0)
   (cSkip)) <|
  cSeq (cSeq (cReg 2 (
   oSeq (oP (vFA 0 g001) s016) <|
   oLoad g016 s017)) <|
  cCond g017
   (cSeq (cReg 1 (
    oMv (kc (.int .i64 (-1))) s002)) <|
   cExit 0)
   (cSkip)) <|
  cSeq (cReg 1 (
   oMv (kc (.int .i64 1)) s002)) <|
  cExit 0⟩
def afn14 : AFn := ⟨2, 84, [(4, none)],
  .seq (.region [
   ⟨(some 4), .mv (.c .nilSl), none⟩]) <|
  .seq (.region [
   ⟨(some 5), .mv (.c .nilSl), none⟩,
   ⟨(some 6), .mv (.c .nilSl), none⟩]) <|
  .seq (.region [
   ⟨(some 7), .mv (.c (.bool false)), none⟩]) <|
  .seq (.seq (.region [
   ⟨(some 17), .mv (.t 1), none⟩,
   ⟨(some 18), .len (.t 17), none⟩,
   ⟨(some 19), .mv (.c (.int .i64 0)), none⟩]) <|
  .block 0 (.loop (.seq (.region [
     ⟨(some 20), .bin .lss .int (.t 19) (.t 18), none⟩]) <|
    .seq (.cond (.t 20)
     (.skip)
     (.exit 0)) <|
    .seq (.block 1 (.seq (.region [
      ⟨(some 21), .indexAddr 2 (.t 17) (.t 19), none⟩,
      ⟨(some 22), .load (some 2) (.t 21), none⟩,
      ⟨(some 9), .alloc 29 [(.int .u8 0), .nilSl], none⟩,
      ⟨none, .store 2 (.t 9) (.t 22), none⟩]) <|
     .seq (.region [
      ⟨(some 23), .fieldAddr 0 (.t 9), none⟩,
      ⟨(some 24), .load none (.t 23), none⟩]) <|
     .block 2 (.seq (.block 5 (.seq (.block 4 (.seq (.block 3 (.seq (.seq (.seq (.region [
          ⟨(some 26), .bin .eql .int (.t 24) (.c (.int .u8 1)), none⟩,
          ⟨(some 25), .mv (.t 26), none⟩]) <|
         .cond (.t 25)
          (.exit 3)
          (.skip)) <|
         .seq (.region [
          ⟨(some 28), .bin .eql .int (.t 24) (.c (.int .u8 3)), none⟩,
          ⟨(some 27), .mv (.t 28), none⟩]) <|
         .cond (.t 27)
          (.exit 4)
          (.skip)) <|
         .exit 5)) <|
        .seq (.seq (.region [
         ⟨(some 29), .mv (.t 5), none⟩,
         ⟨(some 30), .fieldAddr 1 (.t 9), none⟩,
         ⟨(some 31), .load none (.t 30), none⟩,
         ⟨(some 32), .buildSlice 27 1 [.nilSl] 1 [((0, 1), (.t 31))], none⟩,
         ⟨(some 33), .append 1 24 27 [.nilSl] (.t 29) (.t 32), none⟩,
         ⟨(some 5), .mv (.t 33), none⟩]) <|
        .exit 1) <|
        .exit 2)) <|
       .region [
        ⟨(some 7), .mv (.c (.bool true)), none⟩])) <|
      .seq (.region [
       ⟨(some 34), .mv (.t 6), none⟩,
       ⟨(some 35), .fieldAddr 1 (.t 9), none⟩,
       ⟨(some 36), .load none (.t 35), none⟩,
       ⟨(some 37), .buildSlice 27 1 [.nilSl] 1 [((0, 1), (.t 36))], none⟩,
       ⟨(some 38), .append 1 24 27 [.nilSl] (.t 34) (.t 37), none⟩,
       ⟨(some 6), .mv (.t 38), none⟩]) <|
      .exit 2))) <|
    .region [
     ⟨(some 39), .bin .add .int (.t 19) (.c (.int .i64 1)), none⟩,
     ⟨(some 19), .mv (.t 39), none⟩]))) <|
  .seq (.seq (.region [
   ⟨(some 40), .mv (.t 7), none⟩,
   ⟨(some 41), .un .not (.t 40), none⟩]) <|
  .cond (.t 41)
   (.seq (.region [
    ⟨(some 42), .mv (.t 0), none⟩,
    ⟨(some 43), .call (.c (.fn (.func 28) [] [])) [(.t 42), (.c (.int .i64 (-1)))], none⟩,
    ⟨(some 44), .build [.nilSl, (.bool false)] [((0, 1), (.t 43))], none⟩,
    ⟨(some 45), .buildSlice 36 2 [.nilSl, (.bool false)] 1 [((0, 2), (.t 44))], none⟩,
    ⟨(some 4), .mv (.t 45), none⟩]) <|
   .ret)
   (.skip)) <|
  .seq (.region [
   ⟨(some 47), .mv (.t 0), none⟩,
   ⟨(some 48), .bin .add .int (.t 47) (.c (.int .i64 1)), none⟩,
   ⟨(some 49), .mv (.t 5), none⟩,
   ⟨(some 50), .mv (.t 6), none⟩,
   ⟨(some 51), .call (.c (.fn (.func 29) [] [])) [(.t 48), (.t 49), (.t 50)], none⟩,
   ⟨(some 46), .mv (.t 51), none⟩,
   ⟨(some 52), .extract 0 (.t 46), none⟩,
   ⟨(some 53), .extract 1 (.t 46), none⟩,
   ⟨(some 54), .extract 2 (.t 46), none⟩,
   ⟨(some 10), .mv (.t 52), none⟩,
   ⟨(some 11), .mv (.t 53), none⟩,
   ⟨(some 12), .mv (.t 54), none⟩]) <|
  .seq (.seq (.region [
   ⟨(some 55), .mv (.t 10), none⟩,
   ⟨(some 56), .len (.t 55), none⟩,
   ⟨(some 57), .mv (.c (.int .i64 0)), none⟩]) <|
  .block 6 (.loop (.seq (.region [
     ⟨(some 58), .bin .lss .int (.t 57) (.t 56), none⟩]) <|
    .seq (.cond (.t 58)
     (.skip)
     (.exit 6)) <|
    .seq (.block 7 (.seq (.region [
      ⟨(some 59), .indexAddr 1 (.t 55) (.t 57), none⟩,
      ⟨(some 60), .load none (.t 59), none⟩,
      ⟨(some 14), .mv (.t 60), none⟩]) <|
     .region [
      ⟨(some 61), .mv (.t 4), none⟩,
      ⟨(some 62), .mv (.t 14), none⟩,
      ⟨(some 63), .build [.nilSl, (.bool false)] [((0, 1), (.t 62)), ((1, 1), (.c (.bool true)))], none⟩,
      ⟨(some 64), .buildSlice 36 2 [.nilSl, (.bool false)] 1 [((0, 2), (.t 63))], none⟩,
      ⟨(some 65), .append 2 32 36 [.nilSl, (.bool false)] (.t 61) (.t 64), none⟩,
      ⟨(some 4), .mv (.t 65), none⟩])) <|
    .region [
     ⟨(some 66), .bin .add .int (.t 57) (.c (.int .i64 1)), none⟩,
     ⟨(some 57), .mv (.t 66), none⟩]))) <|
  .seq (.seq (.region [
   ⟨(some 67), .mv (.t 11), none⟩,
   ⟨(some 68), .len (.t 67), none⟩,
   ⟨(some 69), .mv (.c (.int .i64 0)), none⟩]) <|
  .block 8 (.loop (.seq (.region [
     ⟨(some 70), .bin .lss .int (.t 69) (.t 68), none⟩]) <|
    .seq (.cond (.t 70)
     (.skip)
     (.exit 8)) <|
    .seq (.block 9 (.seq (.region [
      ⟨(some 71), .indexAddr 1 (.t 67) (.t 69), none⟩,
      ⟨(some 72), .load none (.t 71), none⟩,
      ⟨(some 16), .mv (.t 72), none⟩]) <|
     .seq (.region [
      ⟨(some 73), .mv (.t 16), none⟩,
      ⟨(some 74), .mv (.t 0), none⟩,
      ⟨(some 75), .call (.c (.fn (.func 28) [] [])) [(.t 74), (.c (.int .i64 1))], none⟩,
      ⟨(some 76), .call (.c (.fn (.func 30) [] [])) [(.t 73), (.t 75)], none⟩,
      ⟨(some 77), .un .not (.t 76), none⟩]) <|
     .cond (.t 77)
      (.region [
       ⟨(some 78), .mv (.t 4), none⟩,
       ⟨(some 79), .mv (.t 16), none⟩,
       ⟨(some 80), .build [.nilSl, (.bool false)] [((0, 1), (.t 79))], none⟩,
       ⟨(some 81), .buildSlice 36 2 [.nilSl, (.bool false)] 1 [((0, 2), (.t 80))], none⟩,
       ⟨(some 82), .append 2 32 36 [.nilSl, (.bool false)] (.t 78) (.t 81), none⟩,
       ⟨(some 4), .mv (.t 82), none⟩])
      (.skip))) <|
    .region [
     ⟨(some 83), .bin .add .int (.t 69) (.c (.int .i64 1)), none⟩,
     ⟨(some 69), .mv (.t 83), none⟩]))) <|
  .ret, none⟩
noncomputable def ffn14 : FFn := ⟨2, 84, [(4, none)],
  cSeq (cReg 1 (
   oMv (kc .nilSl) s004)) <|
  cSeq (cReg 2 (
   oSeq (oMv (kc .nilSl) s005) <|
   oMv (kc .nilSl) s006)) <|
  cSeq (cReg 1 (
   oMv (kc (.bool false)) s007)) <|
  cSeq (cSeq (cReg 3 (
   oSeq (oMv g001 s021) <|
   oSeq (oP (vLen g021) s022) <|
   oMv (kc (.int .i64 0)) s023)) <|
  cBlock 1 (cLoop 1000000 (cSeq (cReg 1 (
     oP (vLss g023 g022) s024)) <|
    cSeq (cCond g024
     (cSkip)
     (cExit 1)) <|
    cSeq (cBlock 3 (cSeq (cReg 4 (
      oSeq (oP (vIdx 2 g021 g023) s025) <|
      oSeq (oLoadN 2 g025 s026) <|
      oSeq (oAlloc 29 [(.int .u8 0), .nilSl] 2 s011) <|
      oStoreN 2 g011 g026 noPut)) <|
     cSeq (cReg 2 (
      oSeq (oP (vFA 0 g011) s027) <|
      oLoad g027 s030)) <|
     cBlock 5 (cSeq (cBlock 11 (cSeq (cBlock 9 (cSeq (cBlock 7 (cSeq (cSeq (cSeq (cReg 2 (
          oSeq (oP (vEql g030 (kc (.int .u8 1))) s032) <|
          oMv g032 s031)) <|
         cCond g031
          (cExit 7)
          (cSkip)) <|
         cSeq (cReg 2 (
          oSeq (oP (vEql g030 (kc (.int .u8 3))) s034) <|
          oMv g034 s033)) <|
         cCond g033
          (cExit 9)
          (cSkip)) <|
         cExit 11)) <|
        cSeq (cSeq (cReg 6 (
         oSeq (oMv g005 s035) <|
         oSeq (oP (vFA 1 g011) s036) <|
         oSeq (oLoad g036 s037) <|
         oSeq (oBuildSlice 27 1 [.nilSl] 1 [((0, 1), g037)] 3 s040) <|
         oSeq (oGen (.append 1 24 27 [.nilSl] (.t 29) (.t 32)) 4 s041) <|
         oMv g041 s005)) <|
        cExit 3) <|
        cExit 5)) <|
       cReg 1 (
        oMv (kc (.bool true)) s007))) <|
      cSeq (cReg 6 (
       oSeq (oMv g006 s042) <|
       oSeq (oP (vFA 1 g011) s043) <|
       oSeq (oLoad g043 s044) <|
       oSeq (oBuildSlice 27 1 [.nilSl] 1 [((0, 1), g044)] 3 s045) <|
       oSeq (oGen (.append 1 24 27 [.nilSl] (.t 34) (.t 37)) 4 s046) <|
       oMv g046 s006)) <|
      cExit 5))) <|
    cReg 2 (
     oSeq (oP (vAdd g023 (kc (.int .i64 1))) s047) <|
     oMv g047 s023)))) <|
  cSeq (cSeq (cReg 2 (
   oSeq (oMv g007 s050) <|
   oGen (.un .not (.t 40)) 1 s051)) <|
  cCond g051
   (cSeq (cReg 5 (
    oSeq (oMv g000 s052) <|
    oSeq (oCallF 28 (fun T => [g052 T, (.int .i64 (-1))]) s053) <|
    oSeq (oP (vBuild [.nilSl, (.bool false)] [((0, 1), g053)]) s054) <|
    oSeq (oBuildSlice 36 2 [.nilSl, (.bool false)] 1 [((0, 2), g054)] 3 s055) <|
    oMv g055 s004)) <|
   cExit 0)
   (cSkip)) <|
  cSeq (cReg 12 (
   oSeq (oMv g000 s057) <|
   oSeq (oP (vAdd g057 (kc (.int .i64 1))) s060) <|
   oSeq (oMv g005 s061) <|
   oSeq (oMv g006 s062) <|
   oSeq (oCallF 29 (fun T => [g060 T, g061 T, g062 T]) s063) <|
   oSeq (oMv g063 s056) <|
   oSeq (oP (vExt 0 g056) s064) <|
   oSeq (oP (vExt 1 g056) s065) <|
   oSeq (oP (vExt 2 g056) s066) <|
   oSeq (oMv g064 s012) <|
   oSeq (oMv g065 s013) <|
   oMv g066 s014)) <|
  cSeq (cSeq (cReg 3 (
   oSeq (oMv g012 s067) <|
   oSeq (oP (vLen g067) s070) <|
   oMv (kc (.int .i64 0)) s071)) <|
  cBlock 13 (cLoop 1000000 (cSeq (cReg 1 (
     oP (vLss g071 g070) s072)) <|
    cSeq (cCond g072
     (cSkip)
     (cExit 13)) <|
    cSeq (cBlock 15 (cSeq (cReg 3 (
      oSeq (oP (vIdx 1 g067 g071) s073) <|
      oSeq (oLoad g073 s074) <|
      oMv g074 s016)) <|
     cReg 6 (
      oSeq (oMv g004 s075) <|
      oSeq (oMv g016 s076) <|
      oSeq (oP (vBuild [.nilSl, (.bool false)] [((0, 1), g076), ((1, 1), (kc (.bool true)))]) s077) <|
      oSeq (oBuildSlice 36 2 [.nilSl, (.bool false)] 1 [((0, 2), g077)] 3 s100) <|
      oSeq (oGen (.append 2 32 36 [.nilSl, (.bool false)] (.t 61) (.t 64)) 4 s101) <|
      oMv g101 s004))) <|
    cReg 2 (
     oSeq (oP (vAdd g071 (kc (.int .i64 1))) s102) <|
     oMv g102 s071)))) <|
  cSeq (cSeq (cReg 3 (
   oSeq (oMv g013 s103) <|
   oSeq (oP (vLen g103) s104) <|
   oMv (kc (.int .i64 0)) s105)) <|
  cBlock 17 (cLoop 1000000 (cSeq (cReg 1 (
     oP (vLss g105 g104) s106)) <|
    cSeq (cCond g106
     (cSkip)
     (cExit 17)) <|
    cSeq (cBlock 19 (cSeq (cReg 3 (
      oSeq (oP (vIdx 1 g103 g105) s107) <|
      oSeq (oLoad g107 s110) <|
      oMv g110 s020)) <|
     cSeq (cReg 5 (
      oSeq (oMv g020 s111) <|
      oSeq (oMv g000 s112) <|
      oSeq (oCallF 28 (fun T => [g112 T, (.int .i64 1)]) s113) <|
      oSeq (oCallF 30 (fun T => [g111 T, g113 T]) s114) <|
      oGen (.un .not (.t 76)) 4 s115)) <|
     cCond g115
      (cReg 6 (
       oSeq (oMv g004 s116) <|
       oSeq (oMv g020 s117) <|
       oSeq (oP (vBuild [.nilSl, (.bool false)] [((0, 1), g117)]) s120) <|
       oSeq (oBuildSlice 36 2 [.nilSl, (.bool false)] 1 [((0, 2), g120)] 3 s121) <|
       oSeq (oGen (.append 2 32 36 [.nilSl, (.bool false)] (.t 78) (.t 81)) 4 s122) <|
       oMv g122 s004))
      (cSkip))) <|
    cReg 2 (
     oSeq (oP (vAdd g105 (kc (.int .i64 1))) s123) <|
     oMv g123 s105)))) <|
  cExit 0⟩
def afn28 : AFn := ⟨2, 14, [(4, none)],
  .seq (.region [
   ⟨(some 4), .mv (.c .nilSl), none⟩]) <|
  .seq (.region [
   ⟨(some 6), .mv (.t 0), none⟩,
   ⟨(some 7), .bin .add .int (.t 6) (.c (.int .i64 1)), none⟩,
   ⟨(some 8), .mksl 62 2 32 [(.bool false), .nilSl] (.t 7) (.t 7), none⟩,
   ⟨(some 5), .mv (.t 8), none⟩]) <|
  .seq (.region [
   ⟨(some 9), .mv (.t 5), none⟩,
   ⟨(some 10), .mv (.t 1), none⟩,
   ⟨(some 11), .call (.c (.fn (.func 31) [] [])) [(.t 10)], none⟩,
   ⟨(some 12), .indexAddr 2 (.t 9) (.c (.int .i64 0)), none⟩,
   ⟨none, .store 2 (.t 12) (.t 11), none⟩]) <|
  .seq (.region [
   ⟨(some 13), .mv (.t 5), none⟩,
   ⟨(some 4), .mv (.t 13), none⟩]) <|
  .ret, none⟩
noncomputable def ffn28 : FFn := ⟨2, 14, [(4, none)],
  cSeq (cReg 1 (
   oMv (kc .nilSl) s004)) <|
  cSeq (cReg 4 (
   oSeq (oMv g000 s006) <|
   oSeq (oP (vAdd g006 (kc (.int .i64 1))) s007) <|
   oSeq (oGen (.mksl 62 2 32 [(.bool false), .nilSl] (.t 7) (.t 7)) 2 s010) <|
   oMv g010 s005)) <|
  cSeq (cReg 5 (
   oSeq (oMv g005 s011) <|
   oSeq (oMv g001 s012) <|
   oSeq (oCallF 31 (fun T => [g012 T]) s013) <|
   oSeq (oP (vIdx 2 g011 (kc (.int .i64 0))) s014) <|
   oStoreN 2 g014 g013 noPut)) <|
  cSeq (cReg 2 (
   oSeq (oMv g005 s015) <|
   oMv g015 s004)) <|
  cExit 0⟩
def afn31 : AFn := ⟨1, 14, [(2, (some (some 2)))],
  .seq (.region [
   ⟨(some 2), .alloc 62 [(.bool false), .nilSl], none⟩]) <|
  .seq (.seq (.region [
   ⟨(some 3), .mv (.t 0), none⟩,
   ⟨(some 4), .bin .lss .int (.t 3) (.c (.int .i64 0)), none⟩]) <|
  .cond (.t 4)
   (.seq (.region [
    ⟨(some 5), .mv (.t 0), none⟩,
    ⟨(some 6), .conv .u64 (.t 5), none⟩,
    ⟨(some 7), .un .neg (.t 6), none⟩,
    ⟨(some 8), .call (.c (.fn (.func 55) [] [])) [(.t 7)], none⟩,
    ⟨(some 9), .call (.c (.fn (.func 54) [] [])) [(.c (.bool true)), (.t 8)], none⟩,
    ⟨none, .store 2 (.t 2) (.t 9), none⟩]) <|
   .ret)
   (.skip)) <|
  .seq (.region [
   ⟨(some 10), .mv (.t 0), none⟩,
   ⟨(some 11), .conv .u64 (.t 10), none⟩,
   ⟨(some 12), .call (.c (.fn (.func 55) [] [])) [(.t 11)], none⟩,
   ⟨(some 13), .call (.c (.fn (.func 54) [] [])) [(.c (.bool false)), (.t 12)], none⟩,
   ⟨none, .store 2 (.t 2) (.t 13), none⟩]) <|
  .ret, none⟩
noncomputable def ffn31 : FFn := ⟨1, 14, [(2, (some (some 2)))],
  cSeq (cReg 1 (
   oAlloc 62 [(.bool false), .nilSl] 0 s002)) <|
  cSeq (cSeq (cReg 2 (
   oSeq (oMv g000 s003) <|
   oP (vLss g003 (kc (.int .i64 0))) s004)) <|
  cCond g004
   (cSeq (cReg 6 (
    oSeq (oMv g000 s005) <|
    oSeq (oGen (.conv .u64 (.t 5)) 1 s006) <|
    oSeq (oGen (.un .neg (.t 6)) 2 s007) <|
    oSeq (oCallF 55 (fun T => [g007 T]) s010) <|
    oSeq (oCallF 54 (fun T => [(.bool true), g010 T]) s011) <|
    oStoreN 2 g002 g011 noPut)) <|
   cExit 0)
   (cSkip)) <|
  cSeq (cReg 5 (
   oSeq (oMv g000 s012) <|
   oSeq (oGen (.conv .u64 (.t 10)) 1 s013) <|
   oSeq (oCallF 55 (fun T => [g013 T]) s014) <|
   oSeq (oCallF 54 (fun T => [(.bool false), g014 T]) s015) <|
   oStoreN 2 g002 g015 noPut)) <|
  cExit 0⟩
def afn55 : AFn := ⟨1, 6, [(2, none)],
  .seq (.region [
   ⟨(some 2), .mv (.c .nilSl), none⟩]) <|
  .seq (.region [
   ⟨(some 3), .mv (.t 0), none⟩,
   ⟨(some 4), .buildSlice 91 1 [(.int .u64 0)] 1 [((0, 1), (.t 3))], none⟩,
   ⟨(some 5), .call (.c (.fn (.func 78) [] [])) [(.t 4)], none⟩,
   ⟨(some 2), .mv (.t 5), none⟩]) <|
  .ret, none⟩
noncomputable def ffn55 : FFn := ⟨1, 6, [(2, none)],
  cSeq (cReg 1 (
   oMv (kc .nilSl) s002)) <|
  cSeq (cReg 4 (
   oSeq (oMv g000 s003) <|
   oSeq (oBuildSlice 91 1 [(.int .u64 0)] 1 [((0, 1), g003)] 1 s004) <|
   oSeq (oCallF 78 (fun T => [g004 T]) s005) <|
   oMv g005 s002)) <|
  cExit 0⟩
def afn78 : AFn := ⟨1, 22, [(2, none)],
  .seq (.region [
   ⟨(some 2), .mv (.c .nilSl), none⟩]) <|
  .seq (.block 0 (.loop (.seq (.seq (.region [
     ⟨(some 3), .mv (.t 0), none⟩,
     ⟨(some 4), .len (.t 3), none⟩,
     ⟨(some 5), .bin .gtr .int (.t 4) (.c (.int .i64 0)), none⟩,
     ⟨(some 6), .mv (.t 5), none⟩,
     ⟨(some 7), .mv (.t 0), (some (6, true))⟩,
     ⟨(some 8), .mv (.t 0), (some (6, true))⟩,
     ⟨(some 9), .len (.t 8), (some (6, true))⟩,
     ⟨(some 10), .bin .sub .int (.t 9) (.c (.int .i64 1)), (some (6, true))⟩,
     ⟨(some 11), .indexAddr 1 (.t 7) (.t 10), (some (6, true))⟩,
     ⟨(some 12), .load none (.t 11), (some (6, true))⟩,
     ⟨(some 13), .bin .eql .int (.t 12) (.c (.int .u64 0)), (some (6, true))⟩,
     ⟨(some 14), .pick (.t 6) (.t 13) (.c (.bool false)), none⟩]) <|
    .cond (.t 14)
     (.skip)
     (.exit 0)) <|
    .block 1 (.region [
      ⟨(some 15), .mv (.t 0), none⟩,
      ⟨(some 16), .mv (.t 0), none⟩,
      ⟨(some 17), .len (.t 16), none⟩,
      ⟨(some 18), .bin .sub .int (.t 17) (.c (.int .i64 1)), none⟩,
      ⟨(some 19), .slice 1 (.t 15) none (some (.t 18)) none, none⟩,
      ⟨(some 0), .mv (.t 19), none⟩])))) <|
  .seq (.region [
   ⟨(some 20), .mv (.t 0), none⟩,
   ⟨(some 21), .call (.c (.fn (.func 105) [] [])) [(.t 20)], none⟩,
   ⟨(some 2), .mv (.t 21), none⟩]) <|
  .ret, none⟩
noncomputable def ffn78 : FFn := ⟨1, 22, [(2, none)],
  cSeq (cReg 1 (
   oMv (kc .nilSl) s002)) <|
  cSeq (cBlock 1 (cLoop 1000000 (cSeq (cSeq (cReg 12 (
     oSeq (oMv g000 s003) <|
     oSeq (oP (vLen g003) s004) <|
     oSeq (oP (vGtr g004 (kc (.int .i64 0))) s005) <|
     oSeq (oMv g005 s006) <|
     oSeq (oGuard g006 true s007 (oMv g000 s007)) <|
     oSeq (oGuard g006 true s010 (oMv g000 s010)) <|
     oSeq (oGuard g006 true s011 (oP (vLen g010) s011)) <|
     oSeq (oGuard g006 true s012 (oP (vSub g011 (kc (.int .i64 1))) s012)) <|
     oSeq (oGuard g006 true s013 (oP (vIdx 1 g007 g012) s013)) <|
     oSeq (oGuard g006 true s014 (oLoad g013 s014)) <|
     oSeq (oGuard g006 true s015 (oP (vEql g014 (kc (.int .u64 0))) s015)) <|
     oP (vPick g006 g015 (kc (.bool false))) s016)) <|
    cCond g016
     (cSkip)
     (cExit 1)) <|
    cBlock 3 (cReg 6 (
      oSeq (oMv g000 s017) <|
      oSeq (oMv g000 s020) <|
      oSeq (oP (vLen g020) s021) <|
      oSeq (oP (vSub g021 (kc (.int .i64 1))) s022) <|
      oSeq (oGen (.slice 1 (.t 15) none (some (.t 18)) none) 4 s023) <|
      oMv g023 s000))))) <|
  cSeq (cReg 3 (
   oSeq (oMv g000 s024) <|
   oSeq (oCallF 105 (fun T => [g024 T]) s025) <|
   oMv g025 s002)) <|
  cExit 0⟩
def afn105 : AFn := ⟨1, 9, [(2, none)],
  .seq (.region [
   ⟨(some 2), .mv (.c .nilSl), none⟩]) <|
  .seq (.region [
   ⟨(some 3), .mv (.t 0), none⟩,
   ⟨(some 4), .mv (.t 0), none⟩,
   ⟨(some 5), .len (.t 4), none⟩,
   ⟨(some 6), .mv (.t 0), none⟩,
   ⟨(some 7), .len (.t 6), none⟩,
   ⟨(some 8), .slice 1 (.t 3) none (some (.t 5)) (some (.t 7)), none⟩,
   ⟨(some 2), .mv (.t 8), none⟩]) <|
  .ret, none⟩
noncomputable def ffn105 : FFn := ⟨1, 9, [(2, none)],
  cSeq (cReg 1 (
   oMv (kc .nilSl) s002)) <|
  cSeq (cReg 7 (
   oSeq (oMv g000 s003) <|
   oSeq (oMv g000 s004) <|
   oSeq (oP (vLen g004) s005) <|
   oSeq (oMv g000 s006) <|
   oSeq (oP (vLen g006) s007) <|
   oSeq (oGen (.slice 1 (.t 3) none (some (.t 5)) (some (.t 7))) 5 s010) <|
   oMv g010 s002)) <|
  cExit 0⟩
def afn54 : AFn := ⟨2, 13, [(4, (some (some 2)))],
  .seq (.region [
   ⟨(some 4), .alloc 62 [(.bool false), .nilSl], none⟩]) <|
  .seq (.region [
   ⟨(some 5), .mv (.t 0), none⟩,
   ⟨(some 6), .mv (.t 5), none⟩,
   ⟨(some 7), .mv (.t 1), (some (6, true))⟩,
   ⟨(some 8), .len (.t 7), (some (6, true))⟩,
   ⟨(some 9), .bin .gtr .int (.t 8) (.c (.int .i64 0)), (some (6, true))⟩,
   ⟨(some 10), .pick (.t 6) (.t 9) (.c (.bool false)), none⟩,
   ⟨(some 11), .mv (.t 1), none⟩,
   ⟨(some 12), .build [(.bool false), .nilSl] [((0, 1), (.t 10)), ((1, 1), (.t 11))], none⟩,
   ⟨none, .store 2 (.t 4) (.t 12), none⟩]) <|
  .ret, none⟩
noncomputable def ffn54 : FFn := ⟨2, 13, [(4, (some (some 2)))],
  cSeq (cReg 1 (
   oAlloc 62 [(.bool false), .nilSl] 0 s004)) <|
  cSeq (cReg 9 (
   oSeq (oMv g000 s005) <|
   oSeq (oMv g005 s006) <|
   oSeq (oGuard g006 true s007 (oMv g001 s007)) <|
   oSeq (oGuard g006 true s010 (oP (vLen g007) s010)) <|
   oSeq (oGuard g006 true s011 (oP (vGtr g010 (kc (.int .i64 0))) s011)) <|
   oSeq (oP (vPick g006 g011 (kc (.bool false))) s012) <|
   oSeq (oMv g001 s013) <|
   oSeq (oP (vBuild [(.bool false), .nilSl] [((0, 1), g012), ((1, 1), g013)]) s014) <|
   oStoreN 2 g004 g014 noPut)) <|
  cExit 0⟩
def afn29 : AFn := ⟨3, 100, [(6, none), (7, none), (8, none)],
  .seq (.region [
   ⟨(some 6), .mv (.c .nilSl), none⟩,
   ⟨(some 7), .mv (.c .nilSl), none⟩,
   ⟨(some 8), .mv (.c (.int .i64 0)), none⟩]) <|
  .seq (.seq (.region [
   ⟨(some 18), .mv (.t 1), none⟩,
   ⟨(some 19), .mv (.t 2), none⟩,
   ⟨(some 20), .call (.c (.fn (.func 43) [] [])) [(.t 18), (.t 19)], none⟩,
   ⟨(some 8), .mv (.t 20), none⟩]) <|
  .seq (.region [
   ⟨(some 21), .mv (.t 8), none⟩,
   ⟨(some 22), .bin .neq .int (.t 21) (.c (.int .i64 0)), none⟩]) <|
  .cond (.t 22)
   (.ret)
   (.skip)) <|
  .seq (.seq (.region [
   ⟨(some 23), .mv (.t 1), none⟩,
   ⟨(some 24), .mv (.t 2), none⟩,
   ⟨(some 25), .buildSlice 55 1 [.nilSl, .nilSl] 2 [((0, 1), (.t 23)), ((1, 1), (.t 24))], none⟩,
   ⟨(some 26), .call (.c (.fn (.func 44) [] [])) [(.t 25)], none⟩,
   ⟨(some 9), .mv (.t 26), none⟩]) <|
  .block 0 (.seq (.region [
    ⟨(some 28), .mv (.t 0), none⟩,
    ⟨(some 29), .bin .lss .int (.t 28) (.c (.int .i64 1)), none⟩,
    ⟨(some 30), .mv (.t 29), none⟩,
    ⟨(some 31), .mv (.t 0), (some (30, false))⟩,
    ⟨(some 32), .bin .gtr .int (.t 31) (.c (.int .i64 64)), (some (30, false))⟩,
    ⟨(some 33), .pick (.t 30) (.c (.bool true)) (.t 32), none⟩,
    ⟨(some 27), .mv (.t 33), none⟩]) <|
   .cond (.t 27)
    (.seq (.region [
     ⟨(some 6), .mv (.c .nilSl), none⟩,
     ⟨(some 7), .mv (.c .nilSl), none⟩,
     ⟨(some 8), .mv (.c (.int .i64 2)), none⟩]) <|
    .ret)
    (.seq (.region [
     ⟨(some 35), .mv (.t 9), none⟩,
     ⟨(some 36), .bin .geq .int (.t 35) (.c (.int .i64 0)), none⟩,
     ⟨(some 37), .mv (.t 36), none⟩,
     ⟨(some 38), .mv (.t 9), (some (37, true))⟩,
     ⟨(some 39), .mv (.t 0), (some (37, true))⟩,
     ⟨(some 40), .bin .neq .int (.t 38) (.t 39), (some (37, true))⟩,
     ⟨(some 41), .pick (.t 37) (.t 40) (.c (.bool false)), none⟩,
     ⟨(some 34), .mv (.t 41), none⟩]) <|
    .cond (.t 34)
     (.seq (.region [
      ⟨(some 6), .mv (.c .nilSl), none⟩,
      ⟨(some 7), .mv (.c .nilSl), none⟩,
      ⟨(some 8), .mv (.c (.int .i64 70)), none⟩]) <|
     .ret)
     (.skip)))) <|
  .seq (.region [
   ⟨(some 42), .mv (.t 0), none⟩,
   ⟨(some 43), .call (.c (.fn (.func 45) [] [])) [(.t 42)], none⟩,
   ⟨(some 44), .build [.nilSl, .nilSl, .nilSl] [((0, 1), (.t 43))], none⟩,
   ⟨(some 45), .box 79 (.t 44), none⟩,
   ⟨(some 10), .mv (.t 45), none⟩]) <|
  .seq (.region [
   ⟨(some 46), .mv (.t 10), none⟩,
   ⟨(some 47), .mkfn (.func 46) [(.t 46)] [], none⟩,
   ⟨(some 11), .mv (.t 47), none⟩]) <|
  .seq (.seq (.region [
   ⟨(some 48), .mv (.t 1), none⟩,
   ⟨(some 49), .len (.t 48), none⟩,
   ⟨(some 50), .mv (.c (.int .i64 0)), none⟩]) <|
  .block 1 (.loop (.seq (.region [
     ⟨(some 51), .bin .lss .int (.t 50) (.t 49), none⟩]) <|
    .seq (.cond (.t 51)
     (.skip)
     (.exit 1)) <|
    .seq (.block 2 (.seq (.region [
      ⟨(some 52), .indexAddr 1 (.t 48) (.t 50), none⟩,
      ⟨(some 53), .load none (.t 52), none⟩,
      ⟨(some 13), .mv (.t 53), none⟩]) <|
     .region [
      ⟨(some 54), .mv (.t 11), none⟩,
      ⟨(some 55), .mv (.t 13), none⟩,
      ⟨(some 56), .call (.t 54) [(.t 55), (.c (.bool true))], none⟩])) <|
    .region [
     ⟨(some 57), .bin .add .int (.t 50) (.c (.int .i64 1)), none⟩,
     ⟨(some 50), .mv (.t 57), none⟩]))) <|
  .seq (.seq (.region [
   ⟨(some 58), .mv (.t 2), none⟩,
   ⟨(some 59), .len (.t 58), none⟩,
   ⟨(some 60), .mv (.c (.int .i64 0)), none⟩]) <|
  .block 3 (.loop (.seq (.region [
     ⟨(some 61), .bin .lss .int (.t 60) (.t 59), none⟩]) <|
    .seq (.cond (.t 61)
     (.skip)
     (.exit 3)) <|
    .seq (.block 4 (.seq (.region [
      ⟨(some 62), .indexAddr 1 (.t 58) (.t 60), none⟩,
      ⟨(some 63), .load none (.t 62), none⟩,
      ⟨(some 15), .mv (.t 63), none⟩]) <|
     .region [
      ⟨(some 64), .mv (.t 11), none⟩,
      ⟨(some 65), .mv (.t 15), none⟩,
      ⟨(some 66), .call (.t 64) [(.t 65), (.c (.bool false))], none⟩])) <|
    .region [
     ⟨(some 67), .bin .add .int (.t 60) (.c (.int .i64 1)), none⟩,
     ⟨(some 60), .mv (.t 67), none⟩]))) <|
  .seq (.region [
   ⟨(some 69), .mv (.t 10), none⟩,
   ⟨(some 70), .nilCheck (.t 69), none⟩,
   ⟨(some 71), .fieldAddr 0 (.t 70), none⟩,
   ⟨(some 72), .load none (.t 71), none⟩,
   ⟨(some 73), .call (.c (.fn (.func 47) [] [])) [(.t 72)], none⟩,
   ⟨(some 68), .mv (.t 73), none⟩,
   ⟨(some 74), .extract 0 (.t 68), none⟩,
   ⟨(some 75), .extract 1 (.t 68), none⟩,
   ⟨(some 6), .mv (.t 74), none⟩]) <|
  .seq (.seq (.region [
   ⟨(some 76), .mv (.t 10), none⟩,
   ⟨(some 77), .nilCheck (.t 76), none⟩,
   ⟨(some 78), .fieldAddr 1 (.t 77), none⟩,
   ⟨(some 79), .load none (.t 78), none⟩,
   ⟨(some 80), .len (.t 79), none⟩,
   ⟨(some 81), .mv (.c (.int .i64 0)), none⟩]) <|
  .block 5 (.loop (.seq (.region [
     ⟨(some 82), .bin .lss .int (.t 81) (.t 80), none⟩]) <|
    .seq (.cond (.t 82)
     (.skip)
     (.exit 5)) <|
    .seq (.block 6 (.seq (.region [
      ⟨(some 83), .indexAddr 1 (.t 79) (.t 81), none⟩,
      ⟨(some 84), .load none (.t 83), none⟩,
      ⟨(some 17), .mv (.t 84), none⟩]) <|
     .seq (.region [
      ⟨(some 86), .mv (.t 17), none⟩,
      ⟨(some 87), .mv (.t 6), none⟩,
      ⟨(some 88), .call (.c (.fn (.func 48) [] [])) [(.t 86), (.t 87)], none⟩,
      ⟨(some 85), .mv (.t 88), none⟩,
      ⟨(some 89), .extract 0 (.t 85), none⟩,
      ⟨(some 90), .extract 1 (.t 85), none⟩,
      ⟨(some 17), .mv (.t 89), none⟩]) <|
     .region [
      ⟨(some 91), .mv (.t 7), none⟩,
      ⟨(some 92), .mv (.t 17), none⟩,
      ⟨(some 93), .buildSlice 27 1 [.nilSl] 1 [((0, 1), (.t 92))], none⟩,
      ⟨(some 94), .append 1 24 27 [.nilSl] (.t 91) (.t 93), none⟩,
      ⟨(some 7), .mv (.t 94), none⟩])) <|
    .region [
     ⟨(some 95), .bin .add .int (.t 81) (.c (.int .i64 1)), none⟩,
     ⟨(some 81), .mv (.t 95), none⟩]))) <|
  .seq (.region [
   ⟨(some 96), .mv (.t 7), none⟩,
   ⟨(some 97), .call (.c (.fn (.func 49) [] [])) [(.t 96), (.c (.fn (.func 50) [] []))], none⟩]) <|
  .seq (.region [
   ⟨(some 98), .mv (.t 6), none⟩,
   ⟨(some 99), .mv (.t 7), none⟩,
   ⟨(some 6), .mv (.t 98), none⟩,
   ⟨(some 7), .mv (.t 99), none⟩,
   ⟨(some 8), .mv (.c (.int .i64 0)), none⟩]) <|
  .ret, none⟩
noncomputable def ffn29 : FFn := ⟨3, 100, [(6, none), (7, none), (8, none)],
  cSeq (cReg 3 (
   oSeq (oMv (kc .nilSl) s006) <|
   oSeq (oMv (kc .nilSl) s007) <|
   oMv (kc (.int .i64 0)) s010)) <|
  cSeq (cSeq (cReg 4 (
   oSeq (oMv g001 s022) <|
   oSeq (oMv g002 s023) <|
   oSeq (oCallF 43 (fun T => [g022 T, g023 T]) s024) <|
   oMv g024 s010)) <|
  cSeq (cReg 2 (
   oSeq (oMv g010 s025) <|
   oP (vNeq g025 (kc (.int .i64 0))) s026)) <|
  cCond g026
   (cExit 0)
   (cSkip)) <|
  cSeq (cSeq (cReg 5 (
   oSeq (oMv g001 s027) <|
   oSeq (oMv g002 s030) <|
   oSeq (oBuildSlice 55 1 [.nilSl, .nilSl] 2 [((0, 1), g027), ((1, 1), g030)] 2 s031) <|
   oSeq (oCallF 44 (fun T => [g031 T]) s032) <|
   oMv g032 s011)) <|
  cBlock 1 (cSeq (cReg 7 (
    oSeq (oMv g000 s034) <|
    oSeq (oP (vLss g034 (kc (.int .i64 1))) s035) <|
    oSeq (oMv g035 s036) <|
    oSeq (oGuard g036 false s037 (oMv g000 s037)) <|
    oSeq (oGuard g036 false s040 (oP (vGtr g037 (kc (.int .i64 64))) s040)) <|
    oSeq (oP (vPick g036 (kc (.bool true)) g040) s041) <|
    oMv g041 s033)) <|
   cCond g033
    (cSeq (cReg 3 (
     oSeq (oMv (kc .nilSl) s006) <|
     oSeq (oMv (kc .nilSl) s007) <|
     oMv (kc (.int .i64 2)) s010)) <|
    cExit 0)
    (cSeq (cReg 8 (
     oSeq (oMv g011 s043) <|
     oSeq (oP (vGeq g043 (kc (.int .i64 0))) s044) <|
     oSeq (oMv g044 s045) <|
     oSeq (oGuard g045 true s046 (oMv g011 s046)) <|
     oSeq (oGuard g045 true s047 (oMv g000 s047)) <|
     oSeq (oGuard g045 true s050 (oP (vNeq g046 g047) s050)) <|
     oSeq (oP (vPick g045 g050 (kc (.bool false))) s051) <|
     oMv g051 s042)) <|
    cCond g042
     (cSeq (cReg 3 (
      oSeq (oMv (kc .nilSl) s006) <|
      oSeq (oMv (kc .nilSl) s007) <|
      oMv (kc (.int .i64 70)) s010)) <|
     cExit 0)
     (cSkip)))) <|
  cSeq (cReg 5 (
   oSeq (oMv g000 s052) <|
   oSeq (oCallF 45 (fun T => [g052 T]) s053) <|
   oSeq (oP (vBuild [.nilSl, .nilSl, .nilSl] [((0, 1), g053)]) s054) <|
   oSeq (oBox 79 g054 3 s055) <|
   oMv g055 s012)) <|
  cSeq (cReg 3 (
   oSeq (oMv g012 s056) <|
   oSeq (oGen (.mkfn (.func 46) [(.t 46)] []) 1 s057) <|
   oMv g057 s013)) <|
  cSeq (cSeq (cReg 3 (
   oSeq (oMv g001 s060) <|
   oSeq (oP (vLen g060) s061) <|
   oMv (kc (.int .i64 0)) s062)) <|
  cBlock 3 (cLoop 1000000 (cSeq (cReg 1 (
     oP (vLss g062 g061) s063)) <|
    cSeq (cCond g063
     (cSkip)
     (cExit 3)) <|
    cSeq (cBlock 5 (cSeq (cReg 3 (
      oSeq (oP (vIdx 1 g060 g062) s064) <|
      oSeq (oLoad g064 s065) <|
      oMv g065 s015)) <|
     cReg 3 (
      oSeq (oMv g013 s066) <|
      oSeq (oMv g015 s067) <|
      oCall g066 (fun T => [g067 T, (.bool true)]) s070))) <|
    cReg 2 (
     oSeq (oP (vAdd g062 (kc (.int .i64 1))) s071) <|
     oMv g071 s062)))) <|
  cSeq (cSeq (cReg 3 (
   oSeq (oMv g002 s072) <|
   oSeq (oP (vLen g072) s073) <|
   oMv (kc (.int .i64 0)) s074)) <|
  cBlock 7 (cLoop 1000000 (cSeq (cReg 1 (
     oP (vLss g074 g073) s075)) <|
    cSeq (cCond g075
     (cSkip)
     (cExit 7)) <|
    cSeq (cBlock 9 (cSeq (cReg 3 (
      oSeq (oP (vIdx 1 g072 g074) s076) <|
      oSeq (oLoad g076 s077) <|
      oMv g077 s017)) <|
     cReg 3 (
      oSeq (oMv g013 s100) <|
      oSeq (oMv g017 s101) <|
      oCall g100 (fun T => [g101 T, (.bool false)]) s102))) <|
    cReg 2 (
     oSeq (oP (vAdd g074 (kc (.int .i64 1))) s103) <|
     oMv g103 s074)))) <|
  cSeq (cReg 9 (
   oSeq (oMv g012 s105) <|
   oSeq (oGen (.nilCheck (.t 69)) 1 s106) <|
   oSeq (oP (vFA 0 g106) s107) <|
   oSeq (oLoad g107 s110) <|
   oSeq (oCallF 47 (fun T => [g110 T]) s111) <|
   oSeq (oMv g111 s104) <|
   oSeq (oP (vExt 0 g104) s112) <|
   oSeq (oP (vExt 1 g104) s113) <|
   oMv g112 s006)) <|
  cSeq (cSeq (cReg 6 (
   oSeq (oMv g012 s114) <|
   oSeq (oGen (.nilCheck (.t 76)) 1 s115) <|
   oSeq (oP (vFA 1 g115) s116) <|
   oSeq (oLoad g116 s117) <|
   oSeq (oP (vLen g117) s120) <|
   oMv (kc (.int .i64 0)) s121)) <|
  cBlock 11 (cLoop 1000000 (cSeq (cReg 1 (
     oP (vLss g121 g120) s122)) <|
    cSeq (cCond g122
     (cSkip)
     (cExit 11)) <|
    cSeq (cBlock 13 (cSeq (cReg 3 (
      oSeq (oP (vIdx 1 g117 g121) s123) <|
      oSeq (oLoad g123 s124) <|
      oMv g124 s021)) <|
     cSeq (cReg 7 (
      oSeq (oMv g021 s126) <|
      oSeq (oMv g006 s127) <|
      oSeq (oCallF 48 (fun T => [g126 T, g127 T]) s130) <|
      oSeq (oMv g130 s125) <|
      oSeq (oP (vExt 0 g125) s131) <|
      oSeq (oP (vExt 1 g125) s132) <|
      oMv g131 s021)) <|
     cReg 5 (
      oSeq (oMv g007 s133) <|
      oSeq (oMv g021 s134) <|
      oSeq (oBuildSlice 27 1 [.nilSl] 1 [((0, 1), g134)] 2 s135) <|
      oSeq (oGen (.append 1 24 27 [.nilSl] (.t 91) (.t 93)) 3 s136) <|
      oMv g136 s007))) <|
    cReg 2 (
     oSeq (oP (vAdd g121 (kc (.int .i64 1))) s137) <|
     oMv g137 s121)))) <|
  cSeq (cReg 2 (
   oSeq (oMv g007 s140) <|
   oCallF 49 (fun T => [g140 T, (.fn (.func 50) [] [])]) s141)) <|
  cSeq (cReg 5 (
   oSeq (oMv g006 s142) <|
   oSeq (oMv g007 s143) <|
   oSeq (oMv g142 s006) <|
   oSeq (oMv g143 s007) <|
   oMv (kc (.int .i64 0)) s010)) <|
  cExit 0⟩
def afn43 : AFn := ⟨2, 39, [(4, none)],
  .seq (.region [
   ⟨(some 4), .mv (.c (.int .i64 0)), none⟩]) <|
  .seq (.seq (.region [
   ⟨(some 8), .mv (.t 0), none⟩,
   ⟨(some 9), .mv (.t 1), none⟩,
   ⟨(some 10), .build [.nilSl, .nilSl] [((0, 1), (.t 8)), ((1, 1), (.t 9))], none⟩,
   ⟨(some 11), .mv (.c (.int .i64 0)), none⟩]) <|
  .block 0 (.loop (.seq (.region [
     ⟨(some 12), .bin .lss .int (.t 11) (.c (.int .i64 2)), none⟩]) <|
    .seq (.cond (.t 12)
     (.skip)
     (.exit 0)) <|
    .seq (.block 1 (.seq (.region [
      ⟨(some 13), .indexAgg 2 1 none (.t 10) (.t 11), none⟩,
      ⟨(some 6), .mv (.t 13), none⟩]) <|
     .seq (.region [
      ⟨(some 14), .mv (.t 6), none⟩,
      ⟨(some 15), .call (.c (.fn (.func 62) [] [])) [(.t 14)], none⟩,
      ⟨(some 7), .mv (.t 15), none⟩]) <|
     .seq (.region [
      ⟨(some 16), .mv (.t 7), none⟩,
      ⟨(some 17), .bin .neq .int (.t 16) (.c (.int .i64 0)), none⟩]) <|
     .cond (.t 17)
      (.seq (.region [
       ⟨(some 18), .mv (.t 7), none⟩,
       ⟨(some 4), .mv (.t 18), none⟩]) <|
      .ret)
      (.skip))) <|
    .region [
     ⟨(some 19), .bin .add .int (.t 11) (.c (.int .i64 1)), none⟩,
     ⟨(some 11), .mv (.t 19), none⟩]))) <|
  .seq (.seq (.draw [
   ⟨(some 20), .mv (.t 0), none, [(0, none)], 0, [(0, [])]⟩,
   ⟨(some 21), .len (.t 20), none, [(20, (some 0))], 0, [(0, [])]⟩,
   ⟨(some 22), .bin .gtr .int (.t 21) (.c (.int .i64 0)), none, [(21, (some 1))], 0, [(0, [])]⟩,
   ⟨(some 23), .mv (.t 22), none, [(22, (some 2))], 0, [(0, [])]⟩,
   ⟨(some 24), .mv (.t 1), (some (23, true)), [(1, none), (23, (some 3))], 0, [(0, [])]⟩,
   ⟨(some 25), .len (.t 24), (some (23, true)), [(24, (some 4)), (23, (some 3))], 0, [(0, [])]⟩,
   ⟨(some 26), .bin .gtr .int (.t 25) (.c (.int .i64 0)), (some (23, true)), [(25, (some 5)), (23, (some 3))], 0, [(0, [])]⟩,
   ⟨(some 27), .pick (.t 23) (.t 26) (.c (.bool false)), none, [(23, (some 3)), (26, (some 6))], 0, [(0, [])]⟩,
   ⟨(some 28), .mv (.t 27), none, [(27, (some 7))], 0, [(0, [])]⟩,
   ⟨(some 29), .mv (.t 0), (some (28, true)), [(0, none), (28, (some 8))], 0, [(0, [])]⟩,
   ⟨(some 30), .indexAddr 1 (.t 29) (.c (.int .i64 0)), (some (28, true)), [(29, (some 9)), (28, (some 8))], 0, [(0, [])]⟩,
   ⟨(some 31), .load none (.t 30), (some (28, true)), [(30, (some 10)), (28, (some 8))], 0, [(0, [])]⟩,
   ⟨(some 32), .len (.t 31), (some (28, true)), [(31, (some 11)), (28, (some 8))], 0, [(0, [])]⟩,
   ⟨(some 33), .mv (.t 1), (some (28, true)), [(1, none), (28, (some 8))], 0, [(0, [])]⟩,
   ⟨(some 34), .indexAddr 1 (.t 33) (.c (.int .i64 0)), (some (28, true)), [(33, (some 13)), (28, (some 8))], 0, [(0, [])]⟩,
   ⟨(some 35), .load none (.t 34), (some (28, true)), [(34, (some 14)), (28, (some 8))], 0, [(0, [])]⟩,
   ⟨(some 36), .len (.t 35), (some (28, true)), [(35, (some 15)), (28, (some 8))], 0, [(0, [])]⟩,
   ⟨(some 37), .bin .neq .int (.t 32) (.t 36), (some (28, true)), [(32, (some 12)), (36, (some 16)), (28, (some 8))], 0, [(0, [])]⟩,
   ⟨(some 38), .pick (.t 28) (.t 37) (.c (.bool false)), none, [(28, (some 8)), (37, (some 17))], 0, [(0, [])]⟩] []) <|
  .cond (.t 38)
   (.seq (.region [
    ⟨(some 4), .mv (.c (.int .i64 70)), none⟩]) <|
   .ret)
   (.skip)) <|
  .seq (.region [
   ⟨(some 4), .mv (.c (.int .i64 0)), none⟩]) <|
  .ret, none⟩
noncomputable def ffn43 : FFn := ⟨2, 39, [(4, none)],
  cSeq (cReg 1 (
   oMv (kc (.int .i64 0)) s004)) <|
  cSeq (cSeq (cReg 4 (
   oSeq (oMv g000 s010) <|
   oSeq (oMv g001 s011) <|
   oSeq (oP (vBuild [.nilSl, .nilSl] [((0, 1), g010), ((1, 1), g011)]) s012) <|
   oMv (kc (.int .i64 0)) s013)) <|
  cBlock 1 (cLoop 1000000 (cSeq (cReg 1 (
     oP (vLss g013 (kc (.int .i64 2))) s014)) <|
    cSeq (cCond g014
     (cSkip)
     (cExit 1)) <|
    cSeq (cBlock 3 (cSeq (cReg 2 (
      oSeq (oGen (.indexAgg 2 1 none (.t 10) (.t 11)) 0 s015) <|
      oMv g015 s006)) <|
     cSeq (cReg 3 (
      oSeq (oMv g006 s016) <|
      oSeq (oCallF 62 (fun T => [g016 T]) s017) <|
      oMv g017 s007)) <|
     cSeq (cReg 2 (
      oSeq (oMv g007 s020) <|
      oP (vNeq g020 (kc (.int .i64 0))) s021)) <|
     cCond g021
      (cSeq (cReg 2 (
       oSeq (oMv g007 s022) <|
       oMv g022 s004)) <|
      cExit 0)
      (cSkip))) <|
    cReg 2 (
     oSeq (oP (vAdd g013 (kc (.int .i64 1))) s023) <|
     oMv g023 s013)))) <|
  cSeq (cSeq (cDrw 19 (
   dSeq (dLook 0 [] (oMv g000 s024)) <|
   dSeq (dLook 0 [] (oP (vLen g024) s025)) <|
   dSeq (dLook 0 [] (oP (vGtr g025 (kc (.int .i64 0))) s026)) <|
   dSeq (dLook 0 [] (oMv g026 s027)) <|
   dSeq (dLook 0 [] (oGuard g027 true s030 (oMv g001 s030))) <|
   dSeq (dLook 0 [] (oGuard g027 true s031 (oP (vLen g030) s031))) <|
   dSeq (dLook 0 [] (oGuard g027 true s032 (oP (vGtr g031 (kc (.int .i64 0))) s032))) <|
   dSeq (dLook 0 [] (oP (vPick g027 g032 (kc (.bool false))) s033)) <|
   dSeq (dLook 0 [] (oMv g033 s034)) <|
   dSeq (dLook 0 [] (oGuard g034 true s035 (oMv g000 s035))) <|
   dSeq (dLook 0 [] (oGuard g034 true s036 (oP (vIdx 1 g035 (kc (.int .i64 0))) s036))) <|
   dSeq (dLook 0 [] (oGuard g034 true s037 (oLoad g036 s037))) <|
   dSeq (dLook 0 [] (oGuard g034 true s040 (oP (vLen g037) s040))) <|
   dSeq (dLook 0 [] (oGuard g034 true s041 (oMv g001 s041))) <|
   dSeq (dLook 0 [] (oGuard g034 true s042 (oP (vIdx 1 g041 (kc (.int .i64 0))) s042))) <|
   dSeq (dLook 0 [] (oGuard g034 true s043 (oLoad g042 s043))) <|
   dSeq (dLook 0 [] (oGuard g034 true s044 (oP (vLen g043) s044))) <|
   dSeq (dLook 0 [] (oGuard g034 true s045 (oP (vNeq g040 g044) s045))) <|
   dSeq (dLook 0 [] (oP (vPick g034 g045 (kc (.bool false))) s046)) <|
   dNop)
   (ckNop) []) <|
  cCond g046
   (cSeq (cReg 1 (
    oMv (kc (.int .i64 70)) s004)) <|
   cExit 0)
   (cSkip)) <|
  cSeq (cReg 1 (
   oMv (kc (.int .i64 0)) s004)) <|
  cExit 0⟩
def afn62 : AFn := ⟨1, 39, [(2, none)],
  .seq (.region [
   ⟨(some 2), .mv (.c (.int .i64 0)), none⟩]) <|
  .seq (.seq (.region [
   ⟨(some 7), .mv (.t 0), none⟩,
   ⟨(some 8), .len (.t 7), none⟩,
   ⟨(some 9), .bin .gtr .int (.t 8) (.c (.int .i64 1024)), none⟩]) <|
  .cond (.t 9)
   (.seq (.region [
    ⟨(some 2), .mv (.c (.int .i64 4)), none⟩]) <|
   .ret)
   (.skip)) <|
  .seq (.seq (.region [
   ⟨(some 10), .mv (.t 0), none⟩,
   ⟨(some 11), .len (.t 10), none⟩,
   ⟨(some 12), .mv (.c (.int .i64 0)), none⟩]) <|
  .block 0 (.loop (.seq (.region [
     ⟨(some 13), .bin .lss .int (.t 12) (.t 11), none⟩]) <|
    .seq (.cond (.t 13)
     (.skip)
     (.exit 0)) <|
    .seq (.block 1 (.seq (.region [
      ⟨(some 14), .indexAddr 1 (.t 10) (.t 12), none⟩,
      ⟨(some 15), .load none (.t 14), none⟩,
      ⟨(some 4), .mv (.t 15), none⟩]) <|
     .seq (.region [
      ⟨(some 16), .mv (.t 4), none⟩,
      ⟨(some 17), .call (.c (.fn (.func 25) [] [])) [(.t 16)], none⟩,
      ⟨(some 18), .bin .neq .int (.t 17) (.c (.int .i64 0)), none⟩,
      ⟨(some 19), .mv (.t 18), none⟩,
      ⟨(some 20), .mv (.t 4), (some (19, false))⟩,
      ⟨(some 21), .len (.t 20), (some (19, false))⟩,
      ⟨(some 22), .bin .eql .int (.t 21) (.c (.int .i64 0)), (some (19, false))⟩,
      ⟨(some 23), .pick (.t 19) (.c (.bool true)) (.t 22), none⟩]) <|
     .cond (.t 23)
      (.seq (.region [
       ⟨(some 2), .mv (.c (.int .i64 8)), none⟩]) <|
      .ret)
      (.skip))) <|
    .region [
     ⟨(some 24), .bin .add .int (.t 12) (.c (.int .i64 1)), none⟩,
     ⟨(some 12), .mv (.t 24), none⟩]))) <|
  .seq (.seq (.region [
   ⟨(some 25), .mv (.t 0), none⟩,
   ⟨(some 26), .len (.t 25), none⟩,
   ⟨(some 27), .mv (.c (.int .i64 0)), none⟩]) <|
  .block 2 (.loop (.seq (.region [
     ⟨(some 28), .bin .lss .int (.t 27) (.t 26), none⟩]) <|
    .seq (.cond (.t 28)
     (.skip)
     (.exit 2)) <|
    .seq (.block 3 (.seq (.region [
      ⟨(some 29), .indexAddr 1 (.t 25) (.t 27), none⟩,
      ⟨(some 30), .load none (.t 29), none⟩,
      ⟨(some 6), .mv (.t 30), none⟩]) <|
     .seq (.region [
      ⟨(some 31), .mv (.t 6), none⟩,
      ⟨(some 32), .len (.t 31), none⟩,
      ⟨(some 33), .mv (.t 0), none⟩,
      ⟨(some 34), .indexAddr 1 (.t 33) (.c (.int .i64 0)), none⟩,
      ⟨(some 35), .load none (.t 34), none⟩,
      ⟨(some 36), .len (.t 35), none⟩,
      ⟨(some 37), .bin .neq .int (.t 32) (.t 36), none⟩]) <|
     .cond (.t 37)
      (.seq (.region [
       ⟨(some 2), .mv (.c (.int .i64 70)), none⟩]) <|
      .ret)
      (.skip))) <|
    .region [
     ⟨(some 38), .bin .add .int (.t 27) (.c (.int .i64 1)), none⟩,
     ⟨(some 27), .mv (.t 38), none⟩]))) <|
  .seq (.region [
   ⟨(some 2), .mv (.c (.int .i64 0)), none⟩]) <|
  .ret, none⟩
noncomputable def ffn62 : FFn := ⟨1, 39, [(2, none)],
  cSeq (cReg 1 (
   oMv (kc (.int .i64 0)) s002)) <|
  cSeq (cSeq (cReg 3 (
   oSeq (oMv g000 s007) <|
   oSeq (oP (vLen g007) s010) <|
   oP (vGtr g010 (kc (.int .i64 1024))) s011)) <|
  cCond g011
   (cSeq (cReg 1 (
    oMv (kc (.int .i64 4)) s002)) <|
   cExit 0)
   (cSkip)) <|
  cSeq (cSeq (cReg 3 (
   oSeq (oMv g000 s012) <|
   oSeq (oP (vLen g012) s013) <|
   oMv (kc (.int .i64 0)) s014)) <|
  cBlock 1 (cLoop 1000000 (cSeq (cReg 1 (
     oP (vLss g014 g013) s015)) <|
    cSeq (cCond g015
     (cSkip)
     (cExit 1)) <|
    cSeq (cBlock 3 (cSeq (cReg 3 (
      oSeq (oP (vIdx 1 g012 g014) s016) <|
      oSeq (oLoad g016 s017) <|
      oMv g017 s004)) <|
     cSeq (cReg 8 (
      oSeq (oMv g004 s020) <|
      oSeq (oCallF 25 (fun T => [g020 T]) s021) <|
      oSeq (oP (vNeq g021 (kc (.int .i64 0))) s022) <|
      oSeq (oMv g022 s023) <|
      oSeq (oGuard g023 false s024 (oMv g004 s024)) <|
      oSeq (oGuard g023 false s025 (oP (vLen g024) s025)) <|
      oSeq (oGuard g023 false s026 (oP (vEql g025 (kc (.int .i64 0))) s026)) <|
      oP (vPick g023 (kc (.bool true)) g026) s027)) <|
     cCond g027
      (cSeq (cReg 1 (
       oMv (kc (.int .i64 8)) s002)) <|
      cExit 0)
      (cSkip))) <|
    cReg 2 (
     oSeq (oP (vAdd g014 (kc (.int .i64 1))) s030) <|
     oMv g030 s014)))) <|
  cSeq (cSeq (cReg 3 (
   oSeq (oMv g000 s031) <|
   oSeq (oP (vLen g031) s032) <|
   oMv (kc (.int .i64 0)) s033)) <|
  cBlock 5 (cLoop 1000000 (cSeq (cReg 1 (
     oP (vLss g033 g032) s034)) <|
    cSeq (cCond g034
     (cSkip)
     (cExit 5)) <|
    cSeq (cBlock 7 (cSeq (cReg 3 (
      oSeq (oP (vIdx 1 g031 g033) s035) <|
      oSeq (oLoad g035 s036) <|
      oMv g036 s006)) <|
     cSeq (cReg 7 (
      oSeq (oMv g006 s037) <|
      oSeq (oP (vLen g037) s040) <|
      oSeq (oMv g000 s041) <|
      oSeq (oP (vIdx 1 g041 (kc (.int .i64 0))) s042) <|
      oSeq (oLoad g042 s043) <|
      oSeq (oP (vLen g043) s044) <|
      oP (vNeq g040 g044) s045)) <|
     cCond g045
      (cSeq (cReg 1 (
       oMv (kc (.int .i64 70)) s002)) <|
      cExit 0)
      (cSkip))) <|
    cReg 2 (
     oSeq (oP (vAdd g033 (kc (.int .i64 1))) s046) <|
     oMv g046 s033)))) <|
  cSeq (cReg 1 (
   oMv (kc (.int .i64 0)) s002)) <|
  cExit 0⟩
def afn44 : AFn := ⟨1, 19, [(2, none)],
  .seq (.region [
   ⟨(some 2), .mv (.c (.int .i64 0)), none⟩]) <|
  .seq (.seq (.region [
   ⟨(some 5), .mv (.t 0), none⟩,
   ⟨(some 6), .len (.t 5), none⟩,
   ⟨(some 7), .mv (.c (.int .i64 0)), none⟩]) <|
  .block 0 (.loop (.seq (.region [
     ⟨(some 8), .bin .lss .int (.t 7) (.t 6), none⟩]) <|
    .seq (.cond (.t 8)
     (.skip)
     (.exit 0)) <|
    .seq (.block 1 (.seq (.region [
      ⟨(some 9), .indexAddr 1 (.t 5) (.t 7), none⟩,
      ⟨(some 10), .load none (.t 9), none⟩,
      ⟨(some 4), .mv (.t 10), none⟩]) <|
     .seq (.region [
      ⟨(some 11), .mv (.t 4), none⟩,
      ⟨(some 12), .len (.t 11), none⟩,
      ⟨(some 13), .bin .gtr .int (.t 12) (.c (.int .i64 0)), none⟩]) <|
     .cond (.t 13)
      (.seq (.region [
       ⟨(some 14), .mv (.t 4), none⟩,
       ⟨(some 15), .indexAddr 1 (.t 14) (.c (.int .i64 0)), none⟩,
       ⟨(some 16), .load none (.t 15), none⟩,
       ⟨(some 17), .len (.t 16), none⟩,
       ⟨(some 2), .mv (.t 17), none⟩]) <|
      .ret)
      (.skip))) <|
    .region [
     ⟨(some 18), .bin .add .int (.t 7) (.c (.int .i64 1)), none⟩,
     ⟨(some 7), .mv (.t 18), none⟩]))) <|
  .seq (.region [
   ⟨(some 2), .mv (.c (.int .i64 (-1))), none⟩]) <|
  .ret, none⟩
noncomputable def ffn44 : FFn := ⟨1, 19, [(2, none)],
  cSeq (cReg 1 (
   oMv (kc (.int .i64 0)) s002)) <|
  cSeq (cSeq (cReg 3 (
   oSeq (oMv g000 s005) <|
   oSeq (oP (vLen g005) s006) <|
   oMv (kc (.int .i64 0)) s007)) <|
  cBlock 1 (cLoop 1000000 (cSeq (cReg 1 (
     oP (vLss g007 g006) s010)) <|
    cSeq (cCond g010
     (cSkip)
     (cExit 1)) <|
    cSeq (cBlock 3 (cSeq (cReg 3 (
      oSeq (oP (vIdx 1 g005 g007) s011) <|
      oSeq (oLoad g011 s012) <|
      oMv g012 s004)) <|
     cSeq (cReg 3 (
      oSeq (oMv g004 s013) <|
      oSeq (oP (vLen g013) s014) <|
      oP (vGtr g014 (kc (.int .i64 0))) s015)) <|
     cCond g015
      (cSeq (cReg 5 (
       oSeq (oMv g004 s016) <|
       oSeq (oP (vIdx 1 g016 (kc (.int .i64 0))) s017) <|
       oSeq (oLoad g017 s020) <|
       oSeq (oP (vLen g020) s021) <|
       oMv g021 s002)) <|
      cExit 0)
      (cSkip))) <|
    cReg 2 (
     oSeq (oP (vAdd g007 (kc (.int .i64 1))) s022) <|
     oMv g022 s007)))) <|
  cSeq (cReg 1 (
   oMv (kc (.int .i64 (-1))) s002)) <|
  cExit 0⟩
def afn45 : AFn := ⟨1, 20, [(2, none)],
  .seq (.region [
   ⟨(some 2), .mv (.c .nilSl), none⟩]) <|
  .seq (.seq (.region [
   ⟨(some 5), .mv (.t 0), none⟩,
   ⟨(some 6), .mv (.c (.int .i64 0)), none⟩]) <|
  .block 0 (.loop (.seq (.region [
     ⟨(some 7), .bin .lss .int (.t 6) (.t 5), none⟩]) <|
    .seq (.cond (.t 7)
     (.skip)
     (.exit 0)) <|
    .seq (.block 1 (.seq (.region [
      ⟨(some 8), .mv (.t 6), none⟩,
      ⟨(some 3), .mv (.t 8), none⟩]) <|
     .seq (.region [
      ⟨(some 9), .mv (.t 0), none⟩,
      ⟨(some 10), .mksl 62 2 32 [(.bool false), .nilSl] (.t 9) (.t 9), none⟩,
      ⟨(some 4), .mv (.t 10), none⟩]) <|
     .seq (.region [
      ⟨(some 11), .mv (.t 4), none⟩,
      ⟨(some 12), .mv (.t 3), none⟩,
      ⟨(some 13), .call (.c (.fn (.func 31) [] [])) [(.c (.int .i64 1))], none⟩,
      ⟨(some 14), .indexAddr 2 (.t 11) (.t 12), none⟩,
      ⟨none, .store 2 (.t 14) (.t 13), none⟩]) <|
     .region [
      ⟨(some 15), .mv (.t 2), none⟩,
      ⟨(some 16), .mv (.t 4), none⟩,
      ⟨(some 17), .buildSlice 27 1 [.nilSl] 1 [((0, 1), (.t 16))], none⟩,
      ⟨(some 18), .append 1 24 27 [.nilSl] (.t 15) (.t 17), none⟩,
      ⟨(some 2), .mv (.t 18), none⟩])) <|
    .region [
     ⟨(some 19), .bin .add .int (.t 6) (.c (.int .i64 1)), none⟩,
     ⟨(some 6), .mv (.t 19), none⟩]))) <|
  .ret, none⟩
noncomputable def ffn45 : FFn := ⟨1, 20, [(2, none)],
  cSeq (cReg 1 (
   oMv (kc .nilSl) s002)) <|
  cSeq (cSeq (cReg 2 (
   oSeq (oMv g000 s005) <|
   oMv (kc (.int .i64 0)) s006)) <|
  cBlock 1 (cLoop 1000000 (cSeq (cReg 1 (
     oP (vLss g006 g005) s007)) <|
    cSeq (cCond g007
     (cSkip)
     (cExit 1)) <|
    cSeq (cBlock 3 (cSeq (cReg 2 (
      oSeq (oMv g006 s010) <|
      oMv g010 s003)) <|
     cSeq (cReg 3 (
      oSeq (oMv g000 s011) <|
      oSeq (oGen (.mksl 62 2 32 [(.bool false), .nilSl] (.t 9) (.t 9)) 1 s012) <|
      oMv g012 s004)) <|
     cSeq (cReg 5 (
      oSeq (oMv g004 s013) <|
      oSeq (oMv g003 s014) <|
      oSeq (oCallF 31 (fun T => [(.int .i64 1)]) s015) <|
      oSeq (oP (vIdx 2 g013 g014) s016) <|
      oStoreN 2 g016 g015 noPut)) <|
     cReg 5 (
      oSeq (oMv g002 s017) <|
      oSeq (oMv g004 s020) <|
      oSeq (oBuildSlice 27 1 [.nilSl] 1 [((0, 1), g020)] 2 s021) <|
      oSeq (oGen (.append 1 24 27 [.nilSl] (.t 15) (.t 17)) 3 s022) <|
      oMv g022 s002))) <|
    cReg 2 (
     oSeq (oP (vAdd g006 (kc (.int .i64 1))) s023) <|
     oMv g023 s006)))) <|
  cExit 0⟩
def afn46 : AFn := ⟨3, 48, [],
  .seq (.region [
   ⟨(some 4), .box 27 (.t 1), none⟩]) <|
  .seq (.region [
   ⟨(some 8), .mv (.t 0), none⟩,
   ⟨(some 9), .nilCheck (.t 8), none⟩,
   ⟨(some 10), .fieldAddr 0 (.t 9), none⟩,
   ⟨(some 11), .load none (.t 10), none⟩,
   ⟨(some 12), .mkfn (.func 63) [] [(.t 4)], none⟩,
   ⟨(some 13), .call (.c (.fn (.func 57) [] [])) [(.t 11), (.t 12)], none⟩,
   ⟨(some 6), .mv (.t 13), none⟩]) <|
  .seq (.seq (.region [
   ⟨(some 14), .mv (.t 6), none⟩,
   ⟨(some 15), .bin .lss .int (.t 14) (.c (.int .i64 0)), none⟩]) <|
  .cond (.t 15)
   (.region [
    ⟨(some 16), .mv (.t 0), none⟩,
    ⟨(some 17), .load none (.t 4), none⟩,
    ⟨(some 18), .mv (.t 2), none⟩,
    ⟨(some 19), .call (.c (.fn (.func 66) [] [])) [(.t 16), (.t 17), (.t 18)], none⟩])
   (.seq (.region [
    ⟨(some 20), .mv (.t 0), none⟩,
    ⟨(some 21), .load none (.t 4), none⟩,
    ⟨(some 22), .mv (.t 6), none⟩,
    ⟨(some 23), .call (.c (.fn (.func 67) [] [])) [(.t 20), (.t 21), (.t 22)], none⟩,
    ⟨(some 7), .mv (.t 23), none⟩]) <|
   .seq (.region [
    ⟨(some 24), .mv (.t 2), none⟩,
    ⟨(some 25), .un .not (.t 24), none⟩]) <|
   .cond (.t 25)
    (.region [
     ⟨(some 26), .mv (.t 0), none⟩,
     ⟨(some 27), .mv (.t 0), none⟩,
     ⟨(some 28), .nilCheck (.t 27), none⟩,
     ⟨(some 29), .fieldAddr 1 (.t 28), none⟩,
     ⟨(some 30), .load none (.t 29), none⟩,
     ⟨(some 31), .mv (.t 7), none⟩,
     ⟨(some 32), .buildSlice 27 1 [.nilSl] 1 [((0, 1), (.t 31))], none⟩,
     ⟨(some 33), .append 1 24 27 [.nilSl] (.t 30) (.t 32), none⟩,
     ⟨(some 34), .nilCheck (.t 26), none⟩,
     ⟨(some 35), .fieldAddr 1 (.t 34), none⟩,
     ⟨none, .store 1 (.t 35) (.t 33), none⟩])
    (.skip))) <|
  .seq (.region [
   ⟨(some 36), .mv (.t 2), none⟩,
   ⟨(some 37), .un .not (.t 36), none⟩]) <|
  .cond (.t 37)
   (.draw [
    ⟨(some 38), .mv (.t 0), none, [(0, none)], 0, [(0, []), (1, [])]⟩,
    ⟨(some 39), .mv (.t 0), none, [(0, none)], 0, [(0, [])]⟩,
    ⟨(some 40), .nilCheck (.t 39), none, [(39, (some 1))], 0, [(0, [])]⟩,
    ⟨(some 41), .fieldAddr 2 (.t 40), none, [(40, (some 2))], 0, [(0, [])]⟩,
    ⟨(some 42), .load none (.t 41), none, [(41, (some 3))], 0, [(0, [])]⟩,
    ⟨(some 43), .load none (.t 4), none, [(4, none)], 0, [(0, [])]⟩,
    ⟨(some 44), .buildSlice 27 1 [.nilSl] 1 [((0, 1), (.t 43))], none, [(43, (some 5))], 1, [(0, [])]⟩,
    ⟨(some 45), .append 1 24 27 [.nilSl] (.t 42) (.t 44), none, [(42, (some 4)), (44, (some 6))], 2, [(0, [6])]⟩,
    ⟨(some 46), .nilCheck (.t 38), none, [(38, (some 0))], 0, [(1, [])]⟩,
    ⟨(some 47), .fieldAddr 2 (.t 46), none, [(46, (some 8))], 0, [(1, [])]⟩,
    ⟨none, .store 1 (.t 47) (.t 45), none, [(47, (some 9)), (45, (some 7))], 2, [(1, [])]⟩] [])
   (.skip), none⟩
noncomputable def ffn46 : FFn := ⟨3, 48, [],
  cSeq (cReg 1 (
   oBox 27 g001 0 s004)) <|
  cSeq (cReg 7 (
   oSeq (oMv g000 s010) <|
   oSeq (oGen (.nilCheck (.t 8)) 1 s011) <|
   oSeq (oP (vFA 0 g011) s012) <|
   oSeq (oLoad g012 s013) <|
   oSeq (oGen (.mkfn (.func 63) [] [(.t 4)]) 4 s014) <|
   oSeq (oCallF 57 (fun T => [g013 T, g014 T]) s015) <|
   oMv g015 s006)) <|
  cSeq (cSeq (cReg 2 (
   oSeq (oMv g006 s016) <|
   oP (vLss g016 (kc (.int .i64 0))) s017)) <|
  cCond g017
   (cReg 4 (
    oSeq (oMv g000 s020) <|
    oSeq (oLoad g004 s021) <|
    oSeq (oMv g002 s022) <|
    oCallF 66 (fun T => [g020 T, g021 T, g022 T]) s023))
   (cSeq (cReg 5 (
    oSeq (oMv g000 s024) <|
    oSeq (oLoad g004 s025) <|
    oSeq (oMv g006 s026) <|
    oSeq (oCallF 67 (fun T => [g024 T, g025 T, g026 T]) s027) <|
    oMv g027 s007)) <|
   cSeq (cReg 2 (
    oSeq (oMv g002 s030) <|
    oGen (.un .not (.t 24)) 1 s031)) <|
   cCond g031
    (cReg 11 (
     oSeq (oMv g000 s032) <|
     oSeq (oMv g000 s033) <|
     oSeq (oGen (.nilCheck (.t 27)) 2 s034) <|
     oSeq (oP (vFA 1 g034) s035) <|
     oSeq (oLoad g035 s036) <|
     oSeq (oMv g007 s037) <|
     oSeq (oBuildSlice 27 1 [.nilSl] 1 [((0, 1), g037)] 6 s040) <|
     oSeq (oGen (.append 1 24 27 [.nilSl] (.t 30) (.t 32)) 7 s041) <|
     oSeq (oGen (.nilCheck (.t 26)) 8 s042) <|
     oSeq (oP (vFA 1 g042) s043) <|
     oStore g043 g041 noPut))
    (cSkip))) <|
  cSeq (cReg 2 (
   oSeq (oMv g002 s044) <|
   oGen (.un .not (.t 36)) 1 s045)) <|
  cCond g045
   (cDrw 11 (
    dSeq (dLook 0 [] (oMv g000 s046)) <|
    dSeq (dLook 0 [] (oMv g000 s047)) <|
    dSeq (dLook 0 [] (oGen (.nilCheck (.t 39)) 2 s050)) <|
    dSeq (dLook 0 [] (oP (vFA 2 g050) s051)) <|
    dSeq (dLook 0 [] (oLoad g051 s052)) <|
    dSeq (dLook 0 [] (oLoad g004 s053)) <|
    dSeq (dMake 6 (oBuildSlice 27 1 [.nilSl] 1 [((0, 1), g053)] 6 s054)) <|
    dSeq (dAct 0 [(6, 0)] (oGen (.append 1 24 27 [.nilSl] (.t 42) (.t 44)) 7 s055)) <|
    dSeq (dLook 0 [] (oGen (.nilCheck (.t 38)) 8 s056)) <|
    dSeq (dLook 0 [] (oP (vFA 2 g056) s057)) <|
    dSeq (dAct 0 [] (oStore g057 g055 noPut)) <|
    dNop)
    (ckNop) [])
   (cSkip)⟩
def afn63 : AFn := ⟨2, 9, [(3, none)],
  .seq (.region [
   ⟨(some 3), .mv (.c (.bool false)), none⟩]) <|
  .seq (.region [
   ⟨(some 4), .load none (.t 1), none⟩,
   ⟨(some 5), .mv (.t 0), none⟩,
   ⟨(some 6), .call (.c (.fn (.func 65) [] [])) [(.t 4), (.t 5)], none⟩,
   ⟨(some 7), .call (.c (.fn (.func 64) [] [])) [(.t 6)], none⟩,
   ⟨(some 8), .bin .neq .int (.t 7) (.c (.int .i64 0)), none⟩,
   ⟨(some 3), .mv (.t 8), none⟩]) <|
  .ret, none⟩
noncomputable def ffn63 : FFn := ⟨2, 9, [(3, none)],
  cSeq (cReg 1 (
   oMv (kc (.bool false)) s003)) <|
  cSeq (cReg 6 (
   oSeq (oLoad g001 s004) <|
   oSeq (oMv g000 s005) <|
   oSeq (oCallF 65 (fun T => [g004 T, g005 T]) s006) <|
   oSeq (oCallF 64 (fun T => [g006 T]) s007) <|
   oSeq (oP (vNeq g007 (kc (.int .i64 0))) s010) <|
   oMv g010 s003)) <|
  cExit 0⟩
def afn65 : AFn := ⟨2, 14, [(4, (some (some 2)))],
  .seq (.region [
   ⟨(some 4), .alloc 62 [(.bool false), .nilSl], none⟩]) <|
  .seq (.region [
   ⟨(some 8), .mv (.t 0), none⟩,
   ⟨(some 9), .mv (.t 1), none⟩,
   ⟨(some 10), .call (.c (.fn (.func 79) [] [])) [(.t 8), (.t 9)], none⟩,
   ⟨(some 7), .mv (.t 10), none⟩,
   ⟨(some 11), .extract 0 (.t 7), none⟩,
   ⟨(some 12), .extract 1 (.t 7), none⟩,
   ⟨(some 5), .alloc 62 [(.bool false), .nilSl], none⟩,
   ⟨none, .store 2 (.t 5) (.t 11), none⟩,
   ⟨(some 6), .mv (.t 12), none⟩]) <|
  .seq (.region [
   ⟨(some 13), .load (some 2) (.t 5), none⟩,
   ⟨none, .store 2 (.t 4) (.t 13), none⟩]) <|
  .ret, none⟩
noncomputable def ffn65 : FFn := ⟨2, 14, [(4, (some (some 2)))],
  cSeq (cReg 1 (
   oAlloc 62 [(.bool false), .nilSl] 0 s004)) <|
  cSeq (cReg 9 (
   oSeq (oMv g000 s010) <|
   oSeq (oMv g001 s011) <|
   oSeq (oCallF 79 (fun T => [g010 T, g011 T]) s012) <|
   oSeq (oMv g012 s007) <|
   oSeq (oP (vExt 0 g007) s013) <|
   oSeq (oP (vExt 1 g007) s014) <|
   oSeq (oAlloc 62 [(.bool false), .nilSl] 6 s005) <|
   oSeq (oStoreN 2 g005 g013 noPut) <|
   oMv g014 s006)) <|
  cSeq (cReg 2 (
   oSeq (oLoadN 2 g005 s015) <|
   oStoreN 2 g004 g015 noPut)) <|
  cExit 0⟩
def afn79 : AFn := ⟨2, 30, [(4, (some (some 2))), (5, none)],
  .seq (.region [
   ⟨(some 4), .alloc 62 [(.bool false), .nilSl], none⟩,
   ⟨(some 5), .mv (.c (.int .i64 0)), none⟩]) <|
  .seq (.seq (.region [
   ⟨(some 8), .mv (.t 0), none⟩,
   ⟨(some 9), .mv (.t 1), none⟩,
   ⟨(some 10), .buildSlice 27 1 [.nilSl, .nilSl] 2 [((0, 1), (.t 8)), ((1, 1), (.t 9))], none⟩,
   ⟨(some 11), .call (.c (.fn (.func 73) [] [])) [(.t 10)], none⟩,
   ⟨(some 5), .mv (.t 11), none⟩]) <|
  .seq (.region [
   ⟨(some 12), .mv (.t 5), none⟩,
   ⟨(some 13), .bin .neq .int (.t 12) (.c (.int .i64 0)), none⟩]) <|
  .cond (.t 13)
   (.ret)
   (.skip)) <|
  .seq (.seq (.region [
   ⟨(some 14), .mv (.t 0), none⟩,
   ⟨(some 15), .len (.t 14), none⟩,
   ⟨(some 16), .mv (.c (.int .i64 0)), none⟩]) <|
  .block 0 (.loop (.seq (.region [
     ⟨(some 17), .bin .lss .int (.t 16) (.t 15), none⟩]) <|
    .seq (.cond (.t 17)
     (.skip)
     (.exit 0)) <|
    .seq (.block 1 (.seq (.region [
      ⟨(some 18), .mv (.t 16), none⟩,
      ⟨(some 19), .indexAddr 2 (.t 14) (.t 16), none⟩,
      ⟨(some 20), .load (some 2) (.t 19), none⟩,
      ⟨(some 7), .alloc 62 [(.bool false), .nilSl], none⟩,
      ⟨(some 6), .mv (.t 18), none⟩,
      ⟨none, .store 2 (.t 7) (.t 20), none⟩]) <|
     .draw [
      ⟨(some 21), .load (some 2) (.t 4), none, [(4, none)], 0, [(0, []), (1, [])]⟩,
      ⟨(some 22), .load (some 2) (.t 7), none, [(7, none)], 0, [(0, [])]⟩,
      ⟨(some 23), .mv (.t 1), none, [(1, none)], 0, [(0, [])]⟩,
      ⟨(some 24), .mv (.t 6), none, [(6, none)], 0, [(0, [])]⟩,
      ⟨(some 25), .indexAddr 2 (.t 23) (.t 24), none, [(23, (some 2)), (24, (some 3))], 0, [(0, [])]⟩,
      ⟨(some 26), .load (some 2) (.t 25), none, [(25, (some 4))], 0, [(0, [])]⟩,
      ⟨(some 27), .call (.c (.fn (.func 107) [] [])) [(.t 22), (.t 26)], none, [(22, (some 1)), (26, (some 5))], 2, [(0, [])]⟩,
      ⟨(some 28), .call (.c (.fn (.func 106) [] [])) [(.t 21), (.t 27)], none, [(21, (some 0)), (27, (some 6))], 2, [(1, [])]⟩,
      ⟨none, .store 2 (.t 4) (.t 28), none, [(4, none), (28, (some 7))], 2, [(2, [])]⟩] [])) <|
    .region [
     ⟨(some 29), .bin .add .int (.t 16) (.c (.int .i64 1)), none⟩,
     ⟨(some 16), .mv (.t 29), none⟩]))) <|
  .ret, none⟩
noncomputable def ffn79 : FFn := ⟨2, 30, [(4, (some (some 2))), (5, none)],
  cSeq (cReg 2 (
   oSeq (oAlloc 62 [(.bool false), .nilSl] 0 s004) <|
   oMv (kc (.int .i64 0)) s005)) <|
  cSeq (cSeq (cReg 5 (
   oSeq (oMv g000 s010) <|
   oSeq (oMv g001 s011) <|
   oSeq (oBuildSlice 27 1 [.nilSl, .nilSl] 2 [((0, 1), g010), ((1, 1), g011)] 2 s012) <|
   oSeq (oCallF 73 (fun T => [g012 T]) s013) <|
   oMv g013 s005)) <|
  cSeq (cReg 2 (
   oSeq (oMv g005 s014) <|
   oP (vNeq g014 (kc (.int .i64 0))) s015)) <|
  cCond g015
   (cExit 0)
   (cSkip)) <|
  cSeq (cSeq (cReg 3 (
   oSeq (oMv g000 s016) <|
   oSeq (oP (vLen g016) s017) <|
   oMv (kc (.int .i64 0)) s020)) <|
  cBlock 1 (cLoop 1000000 (cSeq (cReg 1 (
     oP (vLss g020 g017) s021)) <|
    cSeq (cCond g021
     (cSkip)
     (cExit 1)) <|
    cSeq (cBlock 3 (cSeq (cReg 6 (
      oSeq (oMv g020 s022) <|
      oSeq (oP (vIdx 2 g016 g020) s023) <|
      oSeq (oLoadN 2 g023 s024) <|
      oSeq (oAlloc 62 [(.bool false), .nilSl] 3 s007) <|
      oSeq (oMv g022 s006) <|
      oStoreN 2 g007 g024 noPut)) <|
     cDrw 9 (
      dSeq (dLook 0 [] (oLoadN 2 g004 s025)) <|
      dSeq (dLook 0 [] (oLoadN 2 g007 s026)) <|
      dSeq (dLook 0 [] (oMv g001 s027)) <|
      dSeq (dLook 0 [] (oMv g006 s030)) <|
      dSeq (dLook 0 [] (oP (vIdx 2 g027 g030) s031)) <|
      dSeq (dLook 0 [] (oLoadN 2 g031 s032)) <|
      dSeq (dAct 0 [] (oCallF 107 (fun T => [g026 T, g032 T]) s033)) <|
      dSeq (dAct 0 [] (oCallF 106 (fun T => [g025 T, g033 T]) s034)) <|
      dSeq (dAct 0 [] (oStoreN 2 g004 g034 noPut)) <|
      dNop)
      (ckSeq (ckOne g025 2 [] (oLoadN 2 g004 s025)) <|
     ckNop) [])) <|
    cReg 2 (
     oSeq (oP (vAdd g020 (kc (.int .i64 1))) s035) <|
     oMv g035 s020)))) <|
  cExit 0⟩
def afn73 : AFn := ⟨1, 35, [(2, none)],
  .seq (.region [
   ⟨(some 2), .mv (.c (.int .i64 0)), none⟩]) <|
  .seq (.seq (.region [
   ⟨(some 8), .mv (.t 0), none⟩,
   ⟨(some 9), .len (.t 8), none⟩,
   ⟨(some 10), .mv (.c (.int .i64 0)), none⟩]) <|
  .block 0 (.loop (.seq (.region [
     ⟨(some 11), .bin .lss .int (.t 10) (.t 9), none⟩]) <|
    .seq (.cond (.t 11)
     (.skip)
     (.exit 0)) <|
    .seq (.block 1 (.seq (.region [
      ⟨(some 12), .indexAddr 1 (.t 8) (.t 10), none⟩,
      ⟨(some 13), .load none (.t 12), none⟩,
      ⟨(some 4), .mv (.t 13), none⟩]) <|
     .seq (.region [
      ⟨(some 14), .mv (.t 4), none⟩,
      ⟨(some 15), .call (.c (.fn (.func 25) [] [])) [(.t 14)], none⟩,
      ⟨(some 5), .mv (.t 15), none⟩]) <|
     .seq (.region [
      ⟨(some 16), .mv (.t 5), none⟩,
      ⟨(some 17), .bin .neq .int (.t 16) (.c (.int .i64 0)), none⟩]) <|
     .cond (.t 17)
      (.seq (.region [
       ⟨(some 18), .mv (.t 5), none⟩,
       ⟨(some 2), .mv (.t 18), none⟩]) <|
      .ret)
      (.skip))) <|
    .region [
     ⟨(some 19), .bin .add .int (.t 10) (.c (.int .i64 1)), none⟩,
     ⟨(some 10), .mv (.t 19), none⟩]))) <|
  .seq (.seq (.region [
   ⟨(some 20), .mv (.t 0), none⟩,
   ⟨(some 21), .slice 1 (.t 20) (some (.c (.int .i64 1))) none none, none⟩,
   ⟨(some 22), .len (.t 21), none⟩,
   ⟨(some 23), .mv (.c (.int .i64 0)), none⟩]) <|
  .block 2 (.loop (.seq (.region [
     ⟨(some 24), .bin .lss .int (.t 23) (.t 22), none⟩]) <|
    .seq (.cond (.t 24)
     (.skip)
     (.exit 2)) <|
    .seq (.block 3 (.seq (.region [
      ⟨(some 25), .indexAddr 1 (.t 21) (.t 23), none⟩,
      ⟨(some 26), .load none (.t 25), none⟩,
      ⟨(some 7), .mv (.t 26), none⟩]) <|
     .seq (.region [
      ⟨(some 27), .mv (.t 7), none⟩,
      ⟨(some 28), .len (.t 27), none⟩,
      ⟨(some 29), .mv (.t 0), none⟩,
      ⟨(some 30), .indexAddr 1 (.t 29) (.c (.int .i64 0)), none⟩,
      ⟨(some 31), .load none (.t 30), none⟩,
      ⟨(some 32), .len (.t 31), none⟩,
      ⟨(some 33), .bin .neq .int (.t 28) (.t 32), none⟩]) <|
     .cond (.t 33)
      (.seq (.region [
       ⟨(some 2), .mv (.c (.int .i64 70)), none⟩]) <|
      .ret)
      (.skip))) <|
    .region [
     ⟨(some 34), .bin .add .int (.t 23) (.c (.int .i64 1)), none⟩,
     ⟨(some 23), .mv (.t 34), none⟩]))) <|
  .seq (.region [
   ⟨(some 2), .mv (.c (.int .i64 0)), none⟩]) <|
  .ret, none⟩
noncomputable def ffn73 : FFn := ⟨1, 35, [(2, none)],
  cSeq (cReg 1 (
   oMv (kc (.int .i64 0)) s002)) <|
  cSeq (cSeq (cReg 3 (
   oSeq (oMv g000 s010) <|
   oSeq (oP (vLen g010) s011) <|
   oMv (kc (.int .i64 0)) s012)) <|
  cBlock 1 (cLoop 1000000 (cSeq (cReg 1 (
     oP (vLss g012 g011) s013)) <|
    cSeq (cCond g013
     (cSkip)
     (cExit 1)) <|
    cSeq (cBlock 3 (cSeq (cReg 3 (
      oSeq (oP (vIdx 1 g010 g012) s014) <|
      oSeq (oLoad g014 s015) <|
      oMv g015 s004)) <|
     cSeq (cReg 3 (
      oSeq (oMv g004 s016) <|
      oSeq (oCallF 25 (fun T => [g016 T]) s017) <|
      oMv g017 s005)) <|
     cSeq (cReg 2 (
      oSeq (oMv g005 s020) <|
      oP (vNeq g020 (kc (.int .i64 0))) s021)) <|
     cCond g021
      (cSeq (cReg 2 (
       oSeq (oMv g005 s022) <|
       oMv g022 s002)) <|
      cExit 0)
      (cSkip))) <|
    cReg 2 (
     oSeq (oP (vAdd g012 (kc (.int .i64 1))) s023) <|
     oMv g023 s012)))) <|
  cSeq (cSeq (cReg 4 (
   oSeq (oMv g000 s024) <|
   oSeq (oGen (.slice 1 (.t 20) (some (.c (.int .i64 1))) none none) 1 s025) <|
   oSeq (oP (vLen g025) s026) <|
   oMv (kc (.int .i64 0)) s027)) <|
  cBlock 5 (cLoop 1000000 (cSeq (cReg 1 (
     oP (vLss g027 g026) s030)) <|
    cSeq (cCond g030
     (cSkip)
     (cExit 5)) <|
    cSeq (cBlock 7 (cSeq (cReg 3 (
      oSeq (oP (vIdx 1 g025 g027) s031) <|
      oSeq (oLoad g031 s032) <|
      oMv g032 s007)) <|
     cSeq (cReg 7 (
      oSeq (oMv g007 s033) <|
      oSeq (oP (vLen g033) s034) <|
      oSeq (oMv g000 s035) <|
      oSeq (oP (vIdx 1 g035 (kc (.int .i64 0))) s036) <|
      oSeq (oLoad g036 s037) <|
      oSeq (oP (vLen g037) s040) <|
      oP (vNeq g034 g040) s041)) <|
     cCond g041
      (cSeq (cReg 1 (
       oMv (kc (.int .i64 70)) s002)) <|
      cExit 0)
      (cSkip))) <|
    cReg 2 (
     oSeq (oP (vAdd g027 (kc (.int .i64 1))) s042) <|
     oMv g042 s027)))) <|
  cSeq (cReg 1 (
   oMv (kc (.int .i64 0)) s002)) <|
  cExit 0⟩
def afn107 : AFn := ⟨2, 14, [(4, (some (some 2)))],
  .seq (.region [
   ⟨(some 2), .box 62 (.t 0), none⟩,
   ⟨(some 3), .box 62 (.t 1), none⟩,
   ⟨(some 4), .alloc 62 [(.bool false), .nilSl], none⟩]) <|
  .seq (.region [
   ⟨(some 8), .load (some 2) (.t 2), none⟩,
   ⟨(some 9), .load (some 2) (.t 3), none⟩,
   ⟨(some 10), .call (.c (.fn (.func 127) [] [])) [(.t 8), (.t 9)], none⟩,
   ⟨(some 7), .mv (.t 10), none⟩,
   ⟨(some 11), .extract 0 (.t 7), none⟩,
   ⟨(some 12), .extract 1 (.t 7), none⟩,
   ⟨(some 5), .alloc 62 [(.bool false), .nilSl], none⟩,
   ⟨none, .store 2 (.t 5) (.t 11), none⟩,
   ⟨(some 6), .mv (.t 12), none⟩]) <|
  .seq (.region [
   ⟨(some 13), .load (some 2) (.t 5), none⟩,
   ⟨none, .store 2 (.t 4) (.t 13), none⟩]) <|
  .ret, none⟩
noncomputable def ffn107 : FFn := ⟨2, 14, [(4, (some (some 2)))],
  cSeq (cReg 3 (
   oSeq (oBox 62 g000 0 s002) <|
   oSeq (oBox 62 g001 1 s003) <|
   oAlloc 62 [(.bool false), .nilSl] 2 s004)) <|
  cSeq (cReg 9 (
   oSeq (oLoadN 2 g002 s010) <|
   oSeq (oLoadN 2 g003 s011) <|
   oSeq (oCallF 127 (fun T => [g010 T, g011 T]) s012) <|
   oSeq (oMv g012 s007) <|
   oSeq (oP (vExt 0 g007) s013) <|
   oSeq (oP (vExt 1 g007) s014) <|
   oSeq (oAlloc 62 [(.bool false), .nilSl] 6 s005) <|
   oSeq (oStoreN 2 g005 g013 noPut) <|
   oMv g014 s006)) <|
  cSeq (cReg 2 (
   oSeq (oLoadN 2 g005 s015) <|
   oStoreN 2 g004 g015 noPut)) <|
  cExit 0⟩
def afn127 : AFn := ⟨2, 32, [(4, (some (some 2))), (5, none)],
  .seq (.region [
   ⟨(some 2), .box 62 (.t 0), none⟩,
   ⟨(some 3), .box 62 (.t 1), none⟩,
   ⟨(some 4), .alloc 62 [(.bool false), .nilSl], none⟩,
   ⟨(some 5), .mv (.c (.int .i64 0)), none⟩]) <|
  .seq (.seq (.region [
   ⟨(some 9), .load (some 2) (.t 2), none⟩,
   ⟨(some 10), .load (some 2) (.t 3), none⟩,
   ⟨(some 11), .buildSlice 62 2 [(.bool false), .nilSl, (.bool false), .nilSl] 2 [((0, 2), (.t 9)), ((2, 2), (.t 10))], none⟩,
   ⟨(some 12), .call (.c (.fn (.func 124) [] [])) [(.t 11)], none⟩,
   ⟨(some 6), .mv (.t 12), none⟩]) <|
  .seq (.region [
   ⟨(some 13), .mv (.t 6), none⟩,
   ⟨(some 14), .bin .neq .int (.t 13) (.c (.int .i64 0)), none⟩]) <|
  .cond (.t 14)
   (.seq (.region [
    ⟨(some 15), .build [(.bool false), .nilSl] [], none⟩,
    ⟨(some 16), .mv (.t 6), none⟩,
    ⟨none, .store 2 (.t 4) (.t 15), none⟩,
    ⟨(some 5), .mv (.t 16), none⟩]) <|
   .ret)
   (.skip)) <|
  .seq (.region [
   ⟨(some 18), .fieldAddr 1 (.t 2), none⟩,
   ⟨(some 19), .load none (.t 18), none⟩,
   ⟨(some 20), .fieldAddr 1 (.t 3), none⟩,
   ⟨(some 21), .load none (.t 20), none⟩,
   ⟨(some 22), .call (.c (.fn (.func 137) [] [])) [(.t 19), (.t 21)], none⟩,
   ⟨(some 17), .mv (.t 22), none⟩,
   ⟨(some 23), .extract 0 (.t 17), none⟩,
   ⟨(some 24), .extract 1 (.t 17), none⟩,
   ⟨(some 7), .mv (.t 23), none⟩,
   ⟨(some 8), .mv (.t 24), none⟩]) <|
  .seq (.region [
   ⟨(some 25), .fieldAddr 0 (.t 2), none⟩,
   ⟨(some 26), .load none (.t 25), none⟩,
   ⟨(some 27), .fieldAddr 0 (.t 3), none⟩,
   ⟨(some 28), .load none (.t 27), none⟩,
   ⟨(some 29), .bin .neq .bool (.t 26) (.t 28), none⟩,
   ⟨(some 30), .mv (.t 7), none⟩,
   ⟨(some 31), .call (.c (.fn (.func 54) [] [])) [(.t 29), (.t 30)], none⟩,
   ⟨none, .store 2 (.t 4) (.t 31), none⟩,
   ⟨(some 5), .mv (.c (.int .i64 0)), none⟩]) <|
  .ret, none⟩
noncomputable def ffn127 : FFn := ⟨2, 32, [(4, (some (some 2))), (5, none)],
  cSeq (cReg 4 (
   oSeq (oBox 62 g000 0 s002) <|
   oSeq (oBox 62 g001 1 s003) <|
   oSeq (oAlloc 62 [(.bool false), .nilSl] 2 s004) <|
   oMv (kc (.int .i64 0)) s005)) <|
  cSeq (cSeq (cReg 5 (
   oSeq (oLoadN 2 g002 s011) <|
   oSeq (oLoadN 2 g003 s012) <|
   oSeq (oBuildSlice 62 2 [(.bool false), .nilSl, (.bool false), .nilSl] 2 [((0, 2), g011), ((2, 2), g012)] 2 s013) <|
   oSeq (oCallF 124 (fun T => [g013 T]) s014) <|
   oMv g014 s006)) <|
  cSeq (cReg 2 (
   oSeq (oMv g006 s015) <|
   oP (vNeq g015 (kc (.int .i64 0))) s016)) <|
  cCond g016
   (cSeq (cReg 4 (
    oSeq (oP (vBuild [(.bool false), .nilSl] []) s017) <|
    oSeq (oMv g006 s020) <|
    oSeq (oStoreN 2 g004 g017 noPut) <|
    oMv g020 s005)) <|
   cExit 0)
   (cSkip)) <|
  cSeq (cReg 10 (
   oSeq (oP (vFA 1 g002) s022) <|
   oSeq (oLoad g022 s023) <|
   oSeq (oP (vFA 1 g003) s024) <|
   oSeq (oLoad g024 s025) <|
   oSeq (oCallF 137 (fun T => [g023 T, g025 T]) s026) <|
   oSeq (oMv g026 s021) <|
   oSeq (oP (vExt 0 g021) s027) <|
   oSeq (oP (vExt 1 g021) s030) <|
   oSeq (oMv g027 s007) <|
   oMv g030 s010)) <|
  cSeq (cReg 9 (
   oSeq (oP (vFA 0 g002) s031) <|
   oSeq (oLoad g031 s032) <|
   oSeq (oP (vFA 0 g003) s033) <|
   oSeq (oLoad g033 s034) <|
   oSeq (oGen (.bin .neq .bool (.t 26) (.t 28)) 4 s035) <|
   oSeq (oMv g007 s036) <|
   oSeq (oCallF 54 (fun T => [g035 T, g036 T]) s037) <|
   oSeq (oStoreN 2 g004 g037 noPut) <|
   oMv (kc (.int .i64 0)) s005)) <|
  cExit 0⟩
def afn124 : AFn := ⟨1, 18, [(2, none)],
  .seq (.region [
   ⟨(some 2), .mv (.c (.int .i64 0)), none⟩]) <|
  .seq (.seq (.region [
   ⟨(some 6), .mv (.t 0), none⟩,
   ⟨(some 7), .len (.t 6), none⟩,
   ⟨(some 8), .mv (.c (.int .i64 0)), none⟩]) <|
  .block 0 (.loop (.seq (.region [
     ⟨(some 9), .bin .lss .int (.t 8) (.t 7), none⟩]) <|
    .seq (.cond (.t 9)
     (.skip)
     (.exit 0)) <|
    .seq (.block 1 (.seq (.region [
      ⟨(some 10), .indexAddr 2 (.t 6) (.t 8), none⟩,
      ⟨(some 11), .load (some 2) (.t 10), none⟩,
      ⟨(some 4), .alloc 62 [(.bool false), .nilSl], none⟩,
      ⟨none, .store 2 (.t 4) (.t 11), none⟩]) <|
     .seq (.region [
      ⟨(some 12), .load (some 2) (.t 4), none⟩,
      ⟨(some 13), .call (.c (.fn (.func 41) [] [])) [(.t 12)], none⟩,
      ⟨(some 5), .mv (.t 13), none⟩]) <|
     .seq (.region [
      ⟨(some 14), .mv (.t 5), none⟩,
      ⟨(some 15), .bin .neq .int (.t 14) (.c (.int .i64 0)), none⟩]) <|
     .cond (.t 15)
      (.seq (.region [
       ⟨(some 16), .mv (.t 5), none⟩,
       ⟨(some 2), .mv (.t 16), none⟩]) <|
      .ret)
      (.skip))) <|
    .region [
     ⟨(some 17), .bin .add .int (.t 8) (.c (.int .i64 1)), none⟩,
     ⟨(some 8), .mv (.t 17), none⟩]))) <|
  .seq (.region [
   ⟨(some 2), .mv (.c (.int .i64 0)), none⟩]) <|
  .ret, none⟩
noncomputable def ffn124 : FFn := ⟨1, 18, [(2, none)],
  cSeq (cReg 1 (
   oMv (kc (.int .i64 0)) s002)) <|
  cSeq (cSeq (cReg 3 (
   oSeq (oMv g000 s006) <|
   oSeq (oP (vLen g006) s007) <|
   oMv (kc (.int .i64 0)) s010)) <|
  cBlock 1 (cLoop 1000000 (cSeq (cReg 1 (
     oP (vLss g010 g007) s011)) <|
    cSeq (cCond g011
     (cSkip)
     (cExit 1)) <|
    cSeq (cBlock 3 (cSeq (cReg 4 (
      oSeq (oP (vIdx 2 g006 g010) s012) <|
      oSeq (oLoadN 2 g012 s013) <|
      oSeq (oAlloc 62 [(.bool false), .nilSl] 2 s004) <|
      oStoreN 2 g004 g013 noPut)) <|
     cSeq (cReg 3 (
      oSeq (oLoadN 2 g004 s014) <|
      oSeq (oCallF 41 (fun T => [g014 T]) s015) <|
      oMv g015 s005)) <|
     cSeq (cReg 2 (
      oSeq (oMv g005 s016) <|
      oP (vNeq g016 (kc (.int .i64 0))) s017)) <|
     cCond g017
      (cSeq (cReg 2 (
       oSeq (oMv g005 s020) <|
       oMv g020 s002)) <|
      cExit 0)
      (cSkip))) <|
    cReg 2 (
     oSeq (oP (vAdd g010 (kc (.int .i64 1))) s021) <|
     oMv g021 s010)))) <|
  cSeq (cReg 1 (
   oMv (kc (.int .i64 0)) s002)) <|
  cExit 0⟩
def afn137 : AFn := ⟨2, 12, [(4, none), (5, none)],
  .seq (.region [
   ⟨(some 4), .mv (.c .nilSl), none⟩,
   ⟨(some 5), .mv (.c (.int .i64 0)), none⟩]) <|
  .seq (.region [
   ⟨(some 6), .mv (.t 0), none⟩,
   ⟨(some 7), .mv (.t 1), none⟩,
   ⟨(some 8), .mkfn (.func 146) [(.c (.int .i64 8))] [], none⟩,
   ⟨(some 9), .call (.c (.fn (.func 145) [] [])) [(.t 6), (.t 7), (.t 8)], none⟩,
   ⟨(some 10), .extract 0 (.t 9), none⟩,
   ⟨(some 11), .extract 1 (.t 9), none⟩,
   ⟨(some 4), .mv (.t 10), none⟩,
   ⟨(some 5), .mv (.t 11), none⟩]) <|
  .ret, none⟩
noncomputable def ffn137 : FFn := ⟨2, 12, [(4, none), (5, none)],
  cSeq (cReg 2 (
   oSeq (oMv (kc .nilSl) s004) <|
   oMv (kc (.int .i64 0)) s005)) <|
  cSeq (cReg 8 (
   oSeq (oMv g000 s006) <|
   oSeq (oMv g001 s007) <|
   oSeq (oGen (.mkfn (.func 146) [(.c (.int .i64 8))] []) 2 s010) <|
   oSeq (oCallF 145 (fun T => [g006 T, g007 T, g010 T]) s011) <|
   oSeq (oP (vExt 0 g011) s012) <|
   oSeq (oP (vExt 1 g011) s013) <|
   oSeq (oMv g012 s004) <|
   oMv g013 s005)) <|
  cExit 0⟩
def afn146 : AFn := ⟨3, 76, [(6, none)],
  .seq (.region [
   ⟨(some 6), .mv (.c .nilSl), none⟩]) <|
  .seq (.seq (.region [
   ⟨(some 15), .mv (.t 1), none⟩,
   ⟨(some 16), .len (.t 15), none⟩,
   ⟨(some 17), .mv (.t 2), none⟩,
   ⟨(some 18), .len (.t 17), none⟩,
   ⟨(some 19), .min [(.t 16), (.t 18)], none⟩,
   ⟨(some 20), .mv (.t 0), none⟩,
   ⟨(some 21), .bin .leq .int (.t 19) (.t 20), none⟩]) <|
  .cond (.t 21)
   (.seq (.region [
    ⟨(some 22), .mv (.t 1), none⟩,
    ⟨(some 23), .mv (.t 2), none⟩,
    ⟨(some 24), .call (.c (.fn (.func 158) [] [])) [(.t 22), (.t 23)], none⟩,
    ⟨(some 6), .mv (.t 24), none⟩]) <|
   .ret)
   (.skip)) <|
  .seq (.region [
   ⟨(some 25), .mv (.t 1), none⟩,
   ⟨(some 26), .len (.t 25), none⟩,
   ⟨(some 27), .mv (.t 2), none⟩,
   ⟨(some 28), .len (.t 27), none⟩,
   ⟨(some 29), .max [(.t 26), (.t 28)], none⟩,
   ⟨(some 30), .bin .add .int (.t 29) (.c (.int .i64 1)), none⟩,
   ⟨(some 31), .bin .quo .int (.t 30) (.c (.int .i64 2)), none⟩,
   ⟨(some 7), .mv (.t 31), none⟩]) <|
  .seq (.region [
   ⟨(some 33), .mv (.t 1), none⟩,
   ⟨(some 34), .mv (.t 7), none⟩,
   ⟨(some 35), .call (.c (.fn (.func 159) [] [])) [(.t 33), (.t 34)], none⟩,
   ⟨(some 32), .mv (.t 35), none⟩,
   ⟨(some 36), .extract 0 (.t 32), none⟩,
   ⟨(some 37), .extract 1 (.t 32), none⟩,
   ⟨(some 8), .mv (.t 36), none⟩,
   ⟨(some 9), .mv (.t 37), none⟩]) <|
  .seq (.region [
   ⟨(some 39), .mv (.t 2), none⟩,
   ⟨(some 40), .mv (.t 7), none⟩,
   ⟨(some 41), .call (.c (.fn (.func 159) [] [])) [(.t 39), (.t 40)], none⟩,
   ⟨(some 38), .mv (.t 41), none⟩,
   ⟨(some 42), .extract 0 (.t 38), none⟩,
   ⟨(some 43), .extract 1 (.t 38), none⟩,
   ⟨(some 10), .mv (.t 42), none⟩,
   ⟨(some 11), .mv (.t 43), none⟩]) <|
  .seq (.region [
   ⟨(some 44), .mv (.t 0), none⟩,
   ⟨(some 45), .mv (.t 8), none⟩,
   ⟨(some 46), .mv (.t 10), none⟩,
   ⟨(some 47), .call (.c (.fn (.func 146) [] [])) [(.t 44), (.t 45), (.t 46)], none⟩,
   ⟨(some 48), .mv (.t 0), none⟩,
   ⟨(some 49), .mv (.t 9), none⟩,
   ⟨(some 50), .mv (.t 11), none⟩,
   ⟨(some 51), .call (.c (.fn (.func 146) [] [])) [(.t 48), (.t 49), (.t 50)], none⟩,
   ⟨(some 12), .mv (.t 47), none⟩,
   ⟨(some 13), .mv (.t 51), none⟩]) <|
  .seq (.region [
   ⟨(some 52), .mv (.t 0), none⟩,
   ⟨(some 53), .mv (.t 8), none⟩,
   ⟨(some 54), .mv (.t 9), none⟩,
   ⟨(some 55), .buildSlice 60 1 [.nilSl, .nilSl] 2 [((0, 1), (.t 53)), ((1, 1), (.t 54))], none⟩,
   ⟨(some 56), .call (.c (.fn (.func 161) [] [])) [(.t 55)], none⟩,
   ⟨(some 57), .mv (.t 10), none⟩,
   ⟨(some 58), .mv (.t 11), none⟩,
   ⟨(some 59), .buildSlice 60 1 [.nilSl, .nilSl] 2 [((0, 1), (.t 57)), ((1, 1), (.t 58))], none⟩,
   ⟨(some 60), .call (.c (.fn (.func 161) [] [])) [(.t 59)], none⟩,
   ⟨(some 61), .call (.c (.fn (.func 146) [] [])) [(.t 52), (.t 56), (.t 60)], none⟩,
   ⟨(some 62), .mv (.t 12), none⟩,
   ⟨(some 63), .mv (.t 13), none⟩,
   ⟨(some 64), .buildSlice 60 1 [.nilSl, .nilSl] 2 [((0, 1), (.t 62)), ((1, 1), (.t 63))], none⟩,
   ⟨(some 65), .call (.c (.fn (.func 160) [] [])) [(.t 61), (.t 64)], none⟩,
   ⟨(some 14), .mv (.t 65), none⟩]) <|
  .seq (.region [
   ⟨(some 66), .mv (.t 12), none⟩,
   ⟨(some 67), .mv (.t 14), none⟩,
   ⟨(some 68), .mv (.t 7), none⟩,
   ⟨(some 69), .call (.c (.fn (.func 162) [] [])) [(.t 67), (.t 68)], none⟩,
   ⟨(some 70), .mv (.t 13), none⟩,
   ⟨(some 71), .mv (.t 7), none⟩,
   ⟨(some 72), .bin .mul .int (.c (.int .i64 2)) (.t 71), none⟩,
   ⟨(some 73), .call (.c (.fn (.func 162) [] [])) [(.t 70), (.t 72)], none⟩,
   ⟨(some 74), .buildSlice 60 1 [.nilSl, .nilSl, .nilSl] 3 [((0, 1), (.t 66)), ((1, 1), (.t 69)), ((2, 1), (.t 73))], none⟩,
   ⟨(some 75), .call (.c (.fn (.func 161) [] [])) [(.t 74)], none⟩,
   ⟨(some 6), .mv (.t 75), none⟩]) <|
  .ret, none⟩
noncomputable def ffn146 : FFn := ⟨3, 76, [(6, none)],
  cSeq (cReg 1 (
   oMv (kc .nilSl) s006)) <|
  cSeq (cSeq (cReg 7 (
   oSeq (oMv g001 s017) <|
   oSeq (oP (vLen g017) s020) <|
   oSeq (oMv g002 s021) <|
   oSeq (oP (vLen g021) s022) <|
   oSeq (oGen (.min [(.t 16), (.t 18)]) 4 s023) <|
   oSeq (oMv g000 s024) <|
   oP (vLeq g023 g024) s025)) <|
  cCond g025
   (cSeq (cReg 4 (
    oSeq (oMv g001 s026) <|
    oSeq (oMv g002 s027) <|
    oSeq (oCallF 158 (fun T => [g026 T, g027 T]) s030) <|
    oMv g030 s006)) <|
   cExit 0)
   (cSkip)) <|
  cSeq (cReg 8 (
   oSeq (oMv g001 s031) <|
   oSeq (oP (vLen g031) s032) <|
   oSeq (oMv g002 s033) <|
   oSeq (oP (vLen g033) s034) <|
   oSeq (oGen (.max [(.t 26), (.t 28)]) 4 s035) <|
   oSeq (oP (vAdd g035 (kc (.int .i64 1))) s036) <|
   oSeq (oGen (.bin .quo .int (.t 30) (.c (.int .i64 2))) 6 s037) <|
   oMv g037 s007)) <|
  cSeq (cReg 8 (
   oSeq (oMv g001 s041) <|
   oSeq (oMv g007 s042) <|
   oSeq (oCallF 159 (fun T => [g041 T, g042 T]) s043) <|
   oSeq (oMv g043 s040) <|
   oSeq (oP (vExt 0 g040) s044) <|
   oSeq (oP (vExt 1 g040) s045) <|
   oSeq (oMv g044 s010) <|
   oMv g045 s011)) <|
  cSeq (cReg 8 (
   oSeq (oMv g002 s047) <|
   oSeq (oMv g007 s050) <|
   oSeq (oCallF 159 (fun T => [g047 T, g050 T]) s051) <|
   oSeq (oMv g051 s046) <|
   oSeq (oP (vExt 0 g046) s052) <|
   oSeq (oP (vExt 1 g046) s053) <|
   oSeq (oMv g052 s012) <|
   oMv g053 s013)) <|
  cSeq (cReg 10 (
   oSeq (oMv g000 s054) <|
   oSeq (oMv g010 s055) <|
   oSeq (oMv g012 s056) <|
   oSeq (oCallF 146 (fun T => [g054 T, g055 T, g056 T]) s057) <|
   oSeq (oMv g000 s060) <|
   oSeq (oMv g011 s061) <|
   oSeq (oMv g013 s062) <|
   oSeq (oCallF 146 (fun T => [g060 T, g061 T, g062 T]) s063) <|
   oSeq (oMv g057 s014) <|
   oMv g063 s015)) <|
  cSeq (cReg 15 (
   oSeq (oMv g000 s064) <|
   oSeq (oMv g010 s065) <|
   oSeq (oMv g011 s066) <|
   oSeq (oBuildSlice 60 1 [.nilSl, .nilSl] 2 [((0, 1), g065), ((1, 1), g066)] 3 s067) <|
   oSeq (oCallF 161 (fun T => [g067 T]) s070) <|
   oSeq (oMv g012 s071) <|
   oSeq (oMv g013 s072) <|
   oSeq (oBuildSlice 60 1 [.nilSl, .nilSl] 2 [((0, 1), g071), ((1, 1), g072)] 7 s073) <|
   oSeq (oCallF 161 (fun T => [g073 T]) s074) <|
   oSeq (oCallF 146 (fun T => [g064 T, g070 T, g074 T]) s075) <|
   oSeq (oMv g014 s076) <|
   oSeq (oMv g015 s077) <|
   oSeq (oBuildSlice 60 1 [.nilSl, .nilSl] 2 [((0, 1), g076), ((1, 1), g077)] 12 s100) <|
   oSeq (oCallF 160 (fun T => [g075 T, g100 T]) s101) <|
   oMv g101 s016)) <|
  cSeq (cReg 11 (
   oSeq (oMv g014 s102) <|
   oSeq (oMv g016 s103) <|
   oSeq (oMv g007 s104) <|
   oSeq (oCallF 162 (fun T => [g103 T, g104 T]) s105) <|
   oSeq (oMv g015 s106) <|
   oSeq (oMv g007 s107) <|
   oSeq (oP (vMul (kc (.int .i64 2)) g107) s110) <|
   oSeq (oCallF 162 (fun T => [g106 T, g110 T]) s111) <|
   oSeq (oBuildSlice 60 1 [.nilSl, .nilSl, .nilSl] 3 [((0, 1), g102), ((1, 1), g105), ((2, 1), g111)] 8 s112) <|
   oSeq (oCallF 161 (fun T => [g112 T]) s113) <|
   oMv g113 s006)) <|
  cExit 0⟩
def afn158 : AFn := ⟨2, 80, [(4, none)],
  .seq (.region [
   ⟨(some 4), .mv (.c .nilSl), none⟩]) <|
  .seq (.region [
   ⟨(some 14), .mv (.t 0), none⟩,
   ⟨(some 15), .len (.t 14), none⟩,
   ⟨(some 16), .mv (.t 1), none⟩,
   ⟨(some 17), .len (.t 16), none⟩,
   ⟨(some 18), .bin .add .int (.t 15) (.t 17), none⟩,
   ⟨(some 19), .mksl 91 1 8 [(.int .u64 0)] (.t 18) (.t 18), none⟩,
   ⟨(some 5), .mv (.t 19), none⟩]) <|
  .seq (.seq (.region [
   ⟨(some 20), .mv (.t 0), none⟩,
   ⟨(some 21), .len (.t 20), none⟩,
   ⟨(some 22), .mv (.c (.int .i64 0)), none⟩]) <|
  .block 0 (.loop (.seq (.region [
     ⟨(some 23), .bin .lss .int (.t 22) (.t 21), none⟩]) <|
    .seq (.cond (.t 23)
     (.skip)
     (.exit 0)) <|
    .seq (.block 1 (.seq (.region [
      ⟨(some 24), .mv (.t 22), none⟩,
      ⟨(some 25), .indexAddr 1 (.t 20) (.t 22), none⟩,
      ⟨(some 26), .load none (.t 25), none⟩,
      ⟨(some 6), .mv (.t 24), none⟩,
      ⟨(some 7), .mv (.t 26), none⟩]) <|
     .seq (.region [
      ⟨(some 8), .mv (.c (.int .u64 0)), none⟩]) <|
     .seq (.seq (.region [
      ⟨(some 27), .mv (.t 1), none⟩,
      ⟨(some 28), .len (.t 27), none⟩,
      ⟨(some 29), .mv (.c (.int .i64 0)), none⟩]) <|
     .block 2 (.loop (.seq (.region [
        ⟨(some 30), .bin .lss .int (.t 29) (.t 28), none⟩]) <|
       .seq (.cond (.t 30)
        (.skip)
        (.exit 2)) <|
       .seq (.block 3 (.seq (.region [
         ⟨(some 31), .mv (.t 29), none⟩,
         ⟨(some 32), .indexAddr 1 (.t 27) (.t 29), none⟩,
         ⟨(some 33), .load none (.t 32), none⟩,
         ⟨(some 9), .mv (.t 31), none⟩,
         ⟨(some 10), .mv (.t 33), none⟩]) <|
        .seq (.region [
         ⟨(some 35), .mv (.t 7), none⟩,
         ⟨(some 36), .mv (.t 10), none⟩,
         ⟨(some 37), .call (.c (.fn (.func 166) [] [])) [(.t 35), (.t 36)], none⟩,
         ⟨(some 34), .mv (.t 37), none⟩,
         ⟨(some 38), .extract 0 (.t 34), none⟩,
         ⟨(some 39), .extract 1 (.t 34), none⟩,
         ⟨(some 11), .mv (.t 38), none⟩,
         ⟨(some 12), .mv (.t 39), none⟩]) <|
        .seq (.region [
         ⟨(some 41), .mv (.t 12), none⟩,
         ⟨(some 42), .mv (.t 5), none⟩,
         ⟨(some 43), .mv (.t 6), none⟩,
         ⟨(some 44), .mv (.t 9), none⟩,
         ⟨(some 45), .bin .add .int (.t 43) (.t 44), none⟩,
         ⟨(some 46), .indexAddr 1 (.t 42) (.t 45), none⟩,
         ⟨(some 47), .load none (.t 46), none⟩,
         ⟨(some 48), .call (.c (.fn (.func 143) [] [])) [(.t 41), (.t 47), (.c (.int .u64 0))], none⟩,
         ⟨(some 40), .mv (.t 48), none⟩,
         ⟨(some 49), .extract 0 (.t 40), none⟩,
         ⟨(some 50), .extract 1 (.t 40), none⟩,
         ⟨(some 12), .mv (.t 49), none⟩,
         ⟨(some 13), .mv (.t 50), none⟩]) <|
        .seq (.region [
         ⟨(some 51), .mv (.t 11), none⟩,
         ⟨(some 52), .mv (.t 13), none⟩,
         ⟨(some 53), .bin .add .int (.t 51) (.t 52), none⟩,
         ⟨(some 11), .mv (.t 53), none⟩]) <|
        .seq (.region [
         ⟨(some 55), .mv (.t 12), none⟩,
         ⟨(some 56), .mv (.t 8), none⟩,
         ⟨(some 57), .call (.c (.fn (.func 143) [] [])) [(.t 55), (.t 56), (.c (.int .u64 0))], none⟩,
         ⟨(some 54), .mv (.t 57), none⟩,
         ⟨(some 58), .extract 0 (.t 54), none⟩,
         ⟨(some 59), .extract 1 (.t 54), none⟩,
         ⟨(some 12), .mv (.t 58), none⟩,
         ⟨(some 13), .mv (.t 59), none⟩]) <|
        .region [
         ⟨(some 60), .mv (.t 5), none⟩,
         ⟨(some 61), .mv (.t 6), none⟩,
         ⟨(some 62), .mv (.t 9), none⟩,
         ⟨(some 63), .bin .add .int (.t 61) (.t 62), none⟩,
         ⟨(some 64), .mv (.t 12), none⟩,
         ⟨(some 65), .mv (.t 11), none⟩,
         ⟨(some 66), .mv (.t 13), none⟩,
         ⟨(some 67), .bin .add .int (.t 65) (.t 66), none⟩,
         ⟨(some 68), .indexAddr 1 (.t 60) (.t 63), none⟩,
         ⟨none, .store 1 (.t 68) (.t 64), none⟩,
         ⟨(some 8), .mv (.t 67), none⟩])) <|
       .region [
        ⟨(some 69), .bin .add .int (.t 29) (.c (.int .i64 1)), none⟩,
        ⟨(some 29), .mv (.t 69), none⟩]))) <|
     .region [
      ⟨(some 70), .mv (.t 5), none⟩,
      ⟨(some 71), .mv (.t 6), none⟩,
      ⟨(some 72), .mv (.t 1), none⟩,
      ⟨(some 73), .len (.t 72), none⟩,
      ⟨(some 74), .bin .add .int (.t 71) (.t 73), none⟩,
      ⟨(some 75), .mv (.t 8), none⟩,
      ⟨(some 76), .indexAddr 1 (.t 70) (.t 74), none⟩,
      ⟨none, .store 1 (.t 76) (.t 75), none⟩])) <|
    .region [
     ⟨(some 77), .bin .add .int (.t 22) (.c (.int .i64 1)), none⟩,
     ⟨(some 22), .mv (.t 77), none⟩]))) <|
  .seq (.region [
   ⟨(some 78), .mv (.t 5), none⟩,
   ⟨(some 79), .call (.c (.fn (.func 168) [] [])) [(.t 78)], none⟩,
   ⟨(some 4), .mv (.t 79), none⟩]) <|
  .ret, none⟩
noncomputable def ffn158 : FFn := ⟨2, 80, [(4, none)],
  cSeq (cReg 1 (
   oMv (kc .nilSl) s004)) <|
  cSeq (cReg 7 (
   oSeq (oMv g000 s016) <|
   oSeq (oP (vLen g016) s017) <|
   oSeq (oMv g001 s020) <|
   oSeq (oP (vLen g020) s021) <|
   oSeq (oP (vAdd g017 g021) s022) <|
   oSeq (oGen (.mksl 91 1 8 [(.int .u64 0)] (.t 18) (.t 18)) 5 s023) <|
   oMv g023 s005)) <|
  cSeq (cSeq (cReg 3 (
   oSeq (oMv g000 s024) <|
   oSeq (oP (vLen g024) s025) <|
   oMv (kc (.int .i64 0)) s026)) <|
  cBlock 1 (cLoop 1000000 (cSeq (cReg 1 (
     oP (vLss g026 g025) s027)) <|
    cSeq (cCond g027
     (cSkip)
     (cExit 1)) <|
    cSeq (cBlock 3 (cSeq (cReg 5 (
      oSeq (oMv g026 s030) <|
      oSeq (oP (vIdx 1 g024 g026) s031) <|
      oSeq (oLoad g031 s032) <|
      oSeq (oMv g030 s006) <|
      oMv g032 s007)) <|
     cSeq (cReg 1 (
      oMv (kc (.int .u64 0)) s010)) <|
     cSeq (cSeq (cReg 3 (
      oSeq (oMv g001 s033) <|
      oSeq (oP (vLen g033) s034) <|
      oMv (kc (.int .i64 0)) s035)) <|
     cBlock 5 (cLoop 1000000 (cSeq (cReg 1 (
        oP (vLss g035 g034) s036)) <|
       cSeq (cCond g036
        (cSkip)
        (cExit 5)) <|
       cSeq (cBlock 7 (cSeq (cReg 5 (
         oSeq (oMv g035 s037) <|
         oSeq (oP (vIdx 1 g033 g035) s040) <|
         oSeq (oLoad g040 s041) <|
         oSeq (oMv g037 s011) <|
         oMv g041 s012)) <|
        cSeq (cReg 8 (
         oSeq (oMv g007 s043) <|
         oSeq (oMv g012 s044) <|
         oSeq (oCallF 166 (fun T => [g043 T, g044 T]) s045) <|
         oSeq (oMv g045 s042) <|
         oSeq (oP (vExt 0 g042) s046) <|
         oSeq (oP (vExt 1 g042) s047) <|
         oSeq (oMv g046 s013) <|
         oMv g047 s014)) <|
        cSeq (cReg 13 (
         oSeq (oMv g014 s051) <|
         oSeq (oMv g005 s052) <|
         oSeq (oMv g006 s053) <|
         oSeq (oMv g011 s054) <|
         oSeq (oP (vAdd g053 g054) s055) <|
         oSeq (oP (vIdx 1 g052 g055) s056) <|
         oSeq (oLoad g056 s057) <|
         oSeq (oCallF 143 (fun T => [g051 T, g057 T, (.int .u64 0)]) s060) <|
         oSeq (oMv g060 s050) <|
         oSeq (oP (vExt 0 g050) s061) <|
         oSeq (oP (vExt 1 g050) s062) <|
         oSeq (oMv g061 s014) <|
         oMv g062 s015)) <|
        cSeq (cReg 4 (
         oSeq (oMv g013 s063) <|
         oSeq (oMv g015 s064) <|
         oSeq (oP (vAdd g063 g064) s065) <|
         oMv g065 s013)) <|
        cSeq (cReg 8 (
         oSeq (oMv g014 s067) <|
         oSeq (oMv g010 s070) <|
         oSeq (oCallF 143 (fun T => [g067 T, g070 T, (.int .u64 0)]) s071) <|
         oSeq (oMv g071 s066) <|
         oSeq (oP (vExt 0 g066) s072) <|
         oSeq (oP (vExt 1 g066) s073) <|
         oSeq (oMv g072 s014) <|
         oMv g073 s015)) <|
        cReg 11 (
         oSeq (oMv g005 s074) <|
         oSeq (oMv g006 s075) <|
         oSeq (oMv g011 s076) <|
         oSeq (oP (vAdd g075 g076) s077) <|
         oSeq (oMv g014 s100) <|
         oSeq (oMv g013 s101) <|
         oSeq (oMv g015 s102) <|
         oSeq (oP (vAdd g101 g102) s103) <|
         oSeq (oP (vIdx 1 g074 g077) s104) <|
         oSeq (oStore g104 g100 noPut) <|
         oMv g103 s010))) <|
       cReg 2 (
        oSeq (oP (vAdd g035 (kc (.int .i64 1))) s105) <|
        oMv g105 s035)))) <|
     cReg 8 (
      oSeq (oMv g005 s106) <|
      oSeq (oMv g006 s107) <|
      oSeq (oMv g001 s110) <|
      oSeq (oP (vLen g110) s111) <|
      oSeq (oP (vAdd g107 g111) s112) <|
      oSeq (oMv g010 s113) <|
      oSeq (oP (vIdx 1 g106 g112) s114) <|
      oStore g114 g113 noPut))) <|
    cReg 2 (
     oSeq (oP (vAdd g026 (kc (.int .i64 1))) s115) <|
     oMv g115 s026)))) <|
  cSeq (cReg 3 (
   oSeq (oMv g005 s116) <|
   oSeq (oCallF 168 (fun T => [g116 T]) s117) <|
   oMv g117 s004)) <|
  cExit 0⟩
def afn166 : AFn := ⟨2, 51, [(4, none), (5, none)],
  .seq (.region [
   ⟨(some 4), .mv (.c (.int .u64 0)), none⟩,
   ⟨(some 5), .mv (.c (.int .u64 0)), none⟩]) <|
  .seq (.region [
   ⟨(some 14), .mv (.t 0), none⟩,
   ⟨(some 15), .bin .and .int (.t 14) (.c (.int .u64 4294967295)), none⟩,
   ⟨(some 6), .mv (.t 15), none⟩]) <|
  .seq (.region [
   ⟨(some 16), .mv (.t 0), none⟩,
   ⟨(some 17), .bin .shr .int (.t 16) (.c (.int .u64 32)), none⟩,
   ⟨(some 7), .mv (.t 17), none⟩]) <|
  .seq (.region [
   ⟨(some 18), .mv (.t 1), none⟩,
   ⟨(some 19), .bin .and .int (.t 18) (.c (.int .u64 4294967295)), none⟩,
   ⟨(some 8), .mv (.t 19), none⟩]) <|
  .seq (.region [
   ⟨(some 20), .mv (.t 1), none⟩,
   ⟨(some 21), .bin .shr .int (.t 20) (.c (.int .u64 32)), none⟩,
   ⟨(some 9), .mv (.t 21), none⟩]) <|
  .seq (.region [
   ⟨(some 22), .mv (.t 6), none⟩,
   ⟨(some 23), .mv (.t 8), none⟩,
   ⟨(some 24), .bin .mul .int (.t 22) (.t 23), none⟩,
   ⟨(some 10), .mv (.t 24), none⟩]) <|
  .seq (.region [
   ⟨(some 25), .mv (.t 7), none⟩,
   ⟨(some 26), .mv (.t 8), none⟩,
   ⟨(some 27), .bin .mul .int (.t 25) (.t 26), none⟩,
   ⟨(some 28), .mv (.t 10), none⟩,
   ⟨(some 29), .bin .shr .int (.t 28) (.c (.int .u64 32)), none⟩,
   ⟨(some 30), .bin .add .int (.t 27) (.t 29), none⟩,
   ⟨(some 11), .mv (.t 30), none⟩]) <|
  .seq (.region [
   ⟨(some 31), .mv (.t 11), none⟩,
   ⟨(some 32), .bin .and .int (.t 31) (.c (.int .u64 4294967295)), none⟩,
   ⟨(some 12), .mv (.t 32), none⟩]) <|
  .seq (.region [
   ⟨(some 33), .mv (.t 11), none⟩,
   ⟨(some 34), .bin .shr .int (.t 33) (.c (.int .u64 32)), none⟩,
   ⟨(some 13), .mv (.t 34), none⟩]) <|
  .seq (.region [
   ⟨(some 35), .mv (.t 12), none⟩,
   ⟨(some 36), .mv (.t 6), none⟩,
   ⟨(some 37), .mv (.t 9), none⟩,
   ⟨(some 38), .bin .mul .int (.t 36) (.t 37), none⟩,
   ⟨(some 39), .bin .add .int (.t 35) (.t 38), none⟩,
   ⟨(some 12), .mv (.t 39), none⟩]) <|
  .seq (.region [
   ⟨(some 40), .mv (.t 7), none⟩,
   ⟨(some 41), .mv (.t 9), none⟩,
   ⟨(some 42), .bin .mul .int (.t 40) (.t 41), none⟩,
   ⟨(some 43), .mv (.t 13), none⟩,
   ⟨(some 44), .bin .add .int (.t 42) (.t 43), none⟩,
   ⟨(some 45), .mv (.t 12), none⟩,
   ⟨(some 46), .bin .shr .int (.t 45) (.c (.int .u64 32)), none⟩,
   ⟨(some 47), .bin .add .int (.t 44) (.t 46), none⟩,
   ⟨(some 4), .mv (.t 47), none⟩]) <|
  .seq (.region [
   ⟨(some 48), .mv (.t 0), none⟩,
   ⟨(some 49), .mv (.t 1), none⟩,
   ⟨(some 50), .bin .mul .int (.t 48) (.t 49), none⟩,
   ⟨(some 5), .mv (.t 50), none⟩]) <|
  .ret, none⟩
noncomputable def ffn166 : FFn := ⟨2, 51, [(4, none), (5, none)],
  cSeq (cReg 2 (
   oSeq (oMv (kc (.int .u64 0)) s004) <|
   oMv (kc (.int .u64 0)) s005)) <|
  cSeq (cReg 3 (
   oSeq (oMv g000 s016) <|
   oSeq (oGen (.bin .and .int (.t 14) (.c (.int .u64 4294967295))) 1 s017) <|
   oMv g017 s006)) <|
  cSeq (cReg 3 (
   oSeq (oMv g000 s020) <|
   oSeq (oGen (.bin .shr .int (.t 16) (.c (.int .u64 32))) 1 s021) <|
   oMv g021 s007)) <|
  cSeq (cReg 3 (
   oSeq (oMv g001 s022) <|
   oSeq (oGen (.bin .and .int (.t 18) (.c (.int .u64 4294967295))) 1 s023) <|
   oMv g023 s010)) <|
  cSeq (cReg 3 (
   oSeq (oMv g001 s024) <|
   oSeq (oGen (.bin .shr .int (.t 20) (.c (.int .u64 32))) 1 s025) <|
   oMv g025 s011)) <|
  cSeq (cReg 4 (
   oSeq (oMv g006 s026) <|
   oSeq (oMv g010 s027) <|
   oSeq (oP (vMul g026 g027) s030) <|
   oMv g030 s012)) <|
  cSeq (cReg 7 (
   oSeq (oMv g007 s031) <|
   oSeq (oMv g010 s032) <|
   oSeq (oP (vMul g031 g032) s033) <|
   oSeq (oMv g012 s034) <|
   oSeq (oGen (.bin .shr .int (.t 28) (.c (.int .u64 32))) 4 s035) <|
   oSeq (oP (vAdd g033 g035) s036) <|
   oMv g036 s013)) <|
  cSeq (cReg 3 (
   oSeq (oMv g013 s037) <|
   oSeq (oGen (.bin .and .int (.t 31) (.c (.int .u64 4294967295))) 1 s040) <|
   oMv g040 s014)) <|
  cSeq (cReg 3 (
   oSeq (oMv g013 s041) <|
   oSeq (oGen (.bin .shr .int (.t 33) (.c (.int .u64 32))) 1 s042) <|
   oMv g042 s015)) <|
  cSeq (cReg 6 (
   oSeq (oMv g014 s043) <|
   oSeq (oMv g006 s044) <|
   oSeq (oMv g011 s045) <|
   oSeq (oP (vMul g044 g045) s046) <|
   oSeq (oP (vAdd g043 g046) s047) <|
   oMv g047 s014)) <|
  cSeq (cReg 9 (
   oSeq (oMv g007 s050) <|
   oSeq (oMv g011 s051) <|
   oSeq (oP (vMul g050 g051) s052) <|
   oSeq (oMv g015 s053) <|
   oSeq (oP (vAdd g052 g053) s054) <|
   oSeq (oMv g014 s055) <|
   oSeq (oGen (.bin .shr .int (.t 45) (.c (.int .u64 32))) 6 s056) <|
   oSeq (oP (vAdd g054 g056) s057) <|
   oMv g057 s004)) <|
  cSeq (cReg 4 (
   oSeq (oMv g000 s060) <|
   oSeq (oMv g001 s061) <|
   oSeq (oP (vMul g060 g061) s062) <|
   oMv g062 s005)) <|
  cExit 0⟩
def afn143 : AFn := ⟨3, 3, [],
  .skip, (some .add64)⟩
def afn168 : AFn := ⟨1, 22, [(2, none)],
  .seq (.region [
   ⟨(some 2), .mv (.c .nilSl), none⟩]) <|
  .seq (.region [
   ⟨(some 4), .mv (.t 0), none⟩,
   ⟨(some 5), .len (.t 4), none⟩,
   ⟨(some 3), .mv (.t 5), none⟩]) <|
  .seq (.block 0 (.loop (.seq (.seq (.region [
     ⟨(some 6), .mv (.t 3), none⟩,
     ⟨(some 7), .bin .gtr .int (.t 6) (.c (.int .i64 0)), none⟩,
     ⟨(some 8), .mv (.t 7), none⟩,
     ⟨(some 9), .mv (.t 0), (some (8, true))⟩,
     ⟨(some 10), .mv (.t 3), (some (8, true))⟩,
     ⟨(some 11), .bin .sub .int (.t 10) (.c (.int .i64 1)), (some (8, true))⟩,
     ⟨(some 12), .indexAddr 1 (.t 9) (.t 11), (some (8, true))⟩,
     ⟨(some 13), .load none (.t 12), (some (8, true))⟩,
     ⟨(some 14), .bin .eql .int (.t 13) (.c (.int .u64 0)), (some (8, true))⟩,
     ⟨(some 15), .pick (.t 8) (.t 14) (.c (.bool false)), none⟩]) <|
    .cond (.t 15)
     (.skip)
     (.exit 0)) <|
    .block 1 (.region [
      ⟨(some 16), .mv (.t 3), none⟩,
      ⟨(some 17), .bin .sub .int (.t 16) (.c (.int .i64 1)), none⟩,
      ⟨(some 3), .mv (.t 17), none⟩])))) <|
  .seq (.region [
   ⟨(some 18), .mv (.t 0), none⟩,
   ⟨(some 19), .mv (.t 3), none⟩,
   ⟨(some 20), .mv (.t 3), none⟩,
   ⟨(some 21), .slice 1 (.t 18) none (some (.t 19)) (some (.t 20)), none⟩,
   ⟨(some 2), .mv (.t 21), none⟩]) <|
  .ret, none⟩
noncomputable def ffn168 : FFn := ⟨1, 22, [(2, none)],
  cSeq (cReg 1 (
   oMv (kc .nilSl) s002)) <|
  cSeq (cReg 3 (
   oSeq (oMv g000 s004) <|
   oSeq (oP (vLen g004) s005) <|
   oMv g005 s003)) <|
  cSeq (cBlock 1 (cLoop 1000000 (cSeq (cSeq (cReg 10 (
     oSeq (oMv g003 s006) <|
     oSeq (oP (vGtr g006 (kc (.int .i64 0))) s007) <|
     oSeq (oMv g007 s010) <|
     oSeq (oGuard g010 true s011 (oMv g000 s011)) <|
     oSeq (oGuard g010 true s012 (oMv g003 s012)) <|
     oSeq (oGuard g010 true s013 (oP (vSub g012 (kc (.int .i64 1))) s013)) <|
     oSeq (oGuard g010 true s014 (oP (vIdx 1 g011 g013) s014)) <|
     oSeq (oGuard g010 true s015 (oLoad g014 s015)) <|
     oSeq (oGuard g010 true s016 (oP (vEql g015 (kc (.int .u64 0))) s016)) <|
     oP (vPick g010 g016 (kc (.bool false))) s017)) <|
    cCond g017
     (cSkip)
     (cExit 1)) <|
    cBlock 3 (cReg 3 (
      oSeq (oMv g003 s020) <|
      oSeq (oP (vSub g020 (kc (.int .i64 1))) s021) <|
      oMv g021 s003))))) <|
  cSeq (cReg 5 (
   oSeq (oMv g000 s022) <|
   oSeq (oMv g003 s023) <|
   oSeq (oMv g003 s024) <|
   oSeq (oGen (.slice 1 (.t 18) none (some (.t 19)) (some (.t 20))) 3 s025) <|
   oMv g025 s002)) <|
  cExit 0⟩
def afn159 : AFn := ⟨2, 18, [(4, none), (5, none)],
  .seq (.region [
   ⟨(some 4), .mv (.c .nilSl), none⟩,
   ⟨(some 5), .mv (.c .nilSl), none⟩]) <|
  .seq (.region [
   ⟨(some 6), .mv (.t 1), none⟩,
   ⟨(some 7), .mv (.t 0), none⟩,
   ⟨(some 8), .len (.t 7), none⟩,
   ⟨(some 9), .min [(.t 6), (.t 8)], none⟩,
   ⟨(some 1), .mv (.t 9), none⟩]) <|
  .seq (.draw [
   ⟨(some 10), .mv (.t 0), none, [(0, none)], 0, [(0, [])]⟩,
   ⟨(some 11), .mv (.t 1), none, [(1, none)], 0, [(0, [])]⟩,
   ⟨(some 12), .mv (.t 1), none, [(1, none)], 0, [(0, [])]⟩,
   ⟨(some 13), .slice 1 (.t 10) none (some (.t 11)) (some (.t 12)), none, [(10, (some 0)), (11, (some 1)), (12, (some 2))], 0, [(0, [])]⟩,
   ⟨(some 14), .call (.c (.fn (.func 168) [] [])) [(.t 13)], none, [(13, (some 3))], 2, [(0, [])]⟩,
   ⟨(some 15), .mv (.t 0), none, [(0, none)], 0, [(0, []), (1, [])]⟩,
   ⟨(some 16), .mv (.t 1), none, [(1, none)], 0, [(0, []), (1, [])]⟩,
   ⟨(some 17), .slice 1 (.t 15) (some (.t 16)) none none, none, [(15, (some 5)), (16, (some 6))], 0, [(0, []), (1, [])]⟩,
   ⟨(some 4), .mv (.t 14), none, [(14, (some 4))], 0, [(1, [])]⟩,
   ⟨(some 5), .mv (.t 17), none, [(17, (some 7))], 0, [(1, [])]⟩] []) <|
  .ret, none⟩
noncomputable def ffn159 : FFn := ⟨2, 18, [(4, none), (5, none)],
  cSeq (cReg 2 (
   oSeq (oMv (kc .nilSl) s004) <|
   oMv (kc .nilSl) s005)) <|
  cSeq (cReg 5 (
   oSeq (oMv g001 s006) <|
   oSeq (oMv g000 s007) <|
   oSeq (oP (vLen g007) s010) <|
   oSeq (oGen (.min [(.t 6), (.t 8)]) 3 s011) <|
   oMv g011 s001)) <|
  cSeq (cDrw 10 (
   dSeq (dLook 0 [] (oMv g000 s012)) <|
   dSeq (dLook 0 [] (oMv g001 s013)) <|
   dSeq (dLook 0 [] (oMv g001 s014)) <|
   dSeq (dLook 0 [] (oGen (.slice 1 (.t 10) none (some (.t 11)) (some (.t 12))) 3 s015)) <|
   dSeq (dAct 0 [] (oCallF 168 (fun T => [g015 T]) s016)) <|
   dSeq (dLook 0 [] (oMv g000 s017)) <|
   dSeq (dLook 0 [] (oMv g001 s020)) <|
   dSeq (dLook 0 [] (oGen (.slice 1 (.t 15) (some (.t 16)) none none) 7 s021)) <|
   dSeq (dLook 0 [] (oMv g016 s004)) <|
   dSeq (dLook 0 [] (oMv g021 s005)) <|
   dNop)
   (ckNop) []) <|
  cExit 0⟩
def afn161 : AFn := ⟨1, 18, [(2, none)],
  .seq (.region [
   ⟨(some 2), .mv (.c .nilSl), none⟩]) <|
  .seq (.seq (.region [
   ⟨(some 5), .mv (.t 0), none⟩,
   ⟨(some 6), .len (.t 5), none⟩,
   ⟨(some 7), .mv (.c (.int .i64 0)), none⟩]) <|
  .block 0 (.loop (.seq (.region [
     ⟨(some 8), .bin .lss .int (.t 7) (.t 6), none⟩]) <|
    .seq (.cond (.t 8)
     (.skip)
     (.exit 0)) <|
    .seq (.block 1 (.seq (.region [
      ⟨(some 9), .indexAddr 1 (.t 5) (.t 7), none⟩,
      ⟨(some 10), .load none (.t 9), none⟩,
      ⟨(some 4), .mv (.t 10), none⟩]) <|
     .region [
      ⟨(some 12), .mv (.t 2), none⟩,
      ⟨(some 13), .mv (.t 4), none⟩,
      ⟨(some 14), .call (.c (.fn (.func 135) [] [])) [(.t 12), (.t 13)], none⟩,
      ⟨(some 11), .mv (.t 14), none⟩,
      ⟨(some 15), .extract 0 (.t 11), none⟩,
      ⟨(some 16), .extract 1 (.t 11), none⟩,
      ⟨(some 2), .mv (.t 15), none⟩])) <|
    .region [
     ⟨(some 17), .bin .add .int (.t 7) (.c (.int .i64 1)), none⟩,
     ⟨(some 7), .mv (.t 17), none⟩]))) <|
  .ret, none⟩
noncomputable def ffn161 : FFn := ⟨1, 18, [(2, none)],
  cSeq (cReg 1 (
   oMv (kc .nilSl) s002)) <|
  cSeq (cSeq (cReg 3 (
   oSeq (oMv g000 s005) <|
   oSeq (oP (vLen g005) s006) <|
   oMv (kc (.int .i64 0)) s007)) <|
  cBlock 1 (cLoop 1000000 (cSeq (cReg 1 (
     oP (vLss g007 g006) s010)) <|
    cSeq (cCond g010
     (cSkip)
     (cExit 1)) <|
    cSeq (cBlock 3 (cSeq (cReg 3 (
      oSeq (oP (vIdx 1 g005 g007) s011) <|
      oSeq (oLoad g011 s012) <|
      oMv g012 s004)) <|
     cReg 7 (
      oSeq (oMv g002 s014) <|
      oSeq (oMv g004 s015) <|
      oSeq (oCallF 135 (fun T => [g014 T, g015 T]) s016) <|
      oSeq (oMv g016 s013) <|
      oSeq (oP (vExt 0 g013) s017) <|
      oSeq (oP (vExt 1 g013) s020) <|
      oMv g017 s002))) <|
    cReg 2 (
     oSeq (oP (vAdd g007 (kc (.int .i64 1))) s021) <|
     oMv g021 s007)))) <|
  cExit 0⟩
def afn135 : AFn := ⟨2, 27, [(4, none), (5, none)],
  .seq (.region [
   ⟨(some 4), .mv (.c .nilSl), none⟩,
   ⟨(some 5), .mv (.c (.int .i64 0)), none⟩]) <|
  .seq (.seq (.region [
   ⟨(some 9), .mv (.t 0), none⟩,
   ⟨(some 10), .mv (.t 1), none⟩,
   ⟨(some 11), .buildSlice 60 1 [.nilSl, .nilSl] 2 [((0, 1), (.t 9)), ((1, 1), (.t 10))], none⟩,
   ⟨(some 12), .call (.c (.fn (.func 141) [] [])) [(.t 11)], none⟩,
   ⟨(some 6), .mv (.t 12), none⟩]) <|
  .seq (.region [
   ⟨(some 13), .mv (.t 6), none⟩,
   ⟨(some 14), .bin .neq .int (.t 13) (.c (.int .i64 0)), none⟩]) <|
  .cond (.t 14)
   (.seq (.region [
    ⟨(some 15), .mv (.t 6), none⟩,
    ⟨(some 4), .mv (.c .nilSl), none⟩,
    ⟨(some 5), .mv (.t 15), none⟩]) <|
   .ret)
   (.skip)) <|
  .seq (.region [
   ⟨(some 17), .mv (.t 0), none⟩,
   ⟨(some 18), .mv (.t 1), none⟩,
   ⟨(some 19), .call (.c (.fn (.func 142) [] [])) [(.t 17), (.t 18), (.c (.fn (.func 143) [] []))], none⟩,
   ⟨(some 16), .mv (.t 19), none⟩,
   ⟨(some 20), .extract 0 (.t 16), none⟩,
   ⟨(some 21), .extract 1 (.t 16), none⟩,
   ⟨(some 7), .mv (.t 20), none⟩,
   ⟨(some 8), .mv (.t 21), none⟩]) <|
  .seq (.region [
   ⟨(some 22), .mv (.t 7), none⟩,
   ⟨(some 23), .mv (.t 8), none⟩,
   ⟨(some 24), .buildSlice 91 1 [(.int .u64 0)] 1 [((0, 1), (.t 23))], none⟩,
   ⟨(some 25), .append 1 8 91 [(.int .u64 0)] (.t 22) (.t 24), none⟩,
   ⟨(some 26), .call (.c (.fn (.func 78) [] [])) [(.t 25)], none⟩,
   ⟨(some 4), .mv (.t 26), none⟩,
   ⟨(some 5), .mv (.c (.int .i64 0)), none⟩]) <|
  .ret, none⟩
noncomputable def ffn135 : FFn := ⟨2, 27, [(4, none), (5, none)],
  cSeq (cReg 2 (
   oSeq (oMv (kc .nilSl) s004) <|
   oMv (kc (.int .i64 0)) s005)) <|
  cSeq (cSeq (cReg 5 (
   oSeq (oMv g000 s011) <|
   oSeq (oMv g001 s012) <|
   oSeq (oBuildSlice 60 1 [.nilSl, .nilSl] 2 [((0, 1), g011), ((1, 1), g012)] 2 s013) <|
   oSeq (oCallF 141 (fun T => [g013 T]) s014) <|
   oMv g014 s006)) <|
  cSeq (cReg 2 (
   oSeq (oMv g006 s015) <|
   oP (vNeq g015 (kc (.int .i64 0))) s016)) <|
  cCond g016
   (cSeq (cReg 3 (
    oSeq (oMv g006 s017) <|
    oSeq (oMv (kc .nilSl) s004) <|
    oMv g017 s005)) <|
   cExit 0)
   (cSkip)) <|
  cSeq (cReg 8 (
   oSeq (oMv g000 s021) <|
   oSeq (oMv g001 s022) <|
   oSeq (oCallF 142 (fun T => [g021 T, g022 T, (.fn (.func 143) [] [])]) s023) <|
   oSeq (oMv g023 s020) <|
   oSeq (oP (vExt 0 g020) s024) <|
   oSeq (oP (vExt 1 g020) s025) <|
   oSeq (oMv g024 s007) <|
   oMv g025 s010)) <|
  cSeq (cReg 7 (
   oSeq (oMv g007 s026) <|
   oSeq (oMv g010 s027) <|
   oSeq (oBuildSlice 91 1 [(.int .u64 0)] 1 [((0, 1), g027)] 2 s030) <|
   oSeq (oGen (.append 1 8 91 [(.int .u64 0)] (.t 22) (.t 24)) 3 s031) <|
   oSeq (oCallF 78 (fun T => [g031 T]) s032) <|
   oSeq (oMv g032 s004) <|
   oMv (kc (.int .i64 0)) s005)) <|
  cExit 0⟩
def afn141 : AFn := ⟨1, 18, [(2, none)],
  .seq (.region [
   ⟨(some 2), .mv (.c (.int .i64 0)), none⟩]) <|
  .seq (.seq (.region [
   ⟨(some 6), .mv (.t 0), none⟩,
   ⟨(some 7), .len (.t 6), none⟩,
   ⟨(some 8), .mv (.c (.int .i64 0)), none⟩]) <|
  .block 0 (.loop (.seq (.region [
     ⟨(some 9), .bin .lss .int (.t 8) (.t 7), none⟩]) <|
    .seq (.cond (.t 9)
     (.skip)
     (.exit 0)) <|
    .seq (.block 1 (.seq (.region [
      ⟨(some 10), .indexAddr 1 (.t 6) (.t 8), none⟩,
      ⟨(some 11), .load none (.t 10), none⟩,
      ⟨(some 4), .mv (.t 11), none⟩]) <|
     .seq (.region [
      ⟨(some 12), .mv (.t 4), none⟩,
      ⟨(some 13), .call (.c (.fn (.func 60) [] [])) [(.t 12)], none⟩,
      ⟨(some 5), .mv (.t 13), none⟩]) <|
     .seq (.region [
      ⟨(some 14), .mv (.t 5), none⟩,
      ⟨(some 15), .bin .neq .int (.t 14) (.c (.int .i64 0)), none⟩]) <|
     .cond (.t 15)
      (.seq (.region [
       ⟨(some 16), .mv (.t 5), none⟩,
       ⟨(some 2), .mv (.t 16), none⟩]) <|
      .ret)
      (.skip))) <|
    .region [
     ⟨(some 17), .bin .add .int (.t 8) (.c (.int .i64 1)), none⟩,
     ⟨(some 8), .mv (.t 17), none⟩]))) <|
  .seq (.region [
   ⟨(some 2), .mv (.c (.int .i64 0)), none⟩]) <|
  .ret, none⟩
noncomputable def ffn141 : FFn := ⟨1, 18, [(2, none)],
  cSeq (cReg 1 (
   oMv (kc (.int .i64 0)) s002)) <|
  cSeq (cSeq (cReg 3 (
   oSeq (oMv g000 s006) <|
   oSeq (oP (vLen g006) s007) <|
   oMv (kc (.int .i64 0)) s010)) <|
  cBlock 1 (cLoop 1000000 (cSeq (cReg 1 (
     oP (vLss g010 g007) s011)) <|
    cSeq (cCond g011
     (cSkip)
     (cExit 1)) <|
    cSeq (cBlock 3 (cSeq (cReg 3 (
      oSeq (oP (vIdx 1 g006 g010) s012) <|
      oSeq (oLoad g012 s013) <|
      oMv g013 s004)) <|
     cSeq (cReg 3 (
      oSeq (oMv g004 s014) <|
      oSeq (oCallF 60 (fun T => [g014 T]) s015) <|
      oMv g015 s005)) <|
     cSeq (cReg 2 (
      oSeq (oMv g005 s016) <|
      oP (vNeq g016 (kc (.int .i64 0))) s017)) <|
     cCond g017
      (cSeq (cReg 2 (
       oSeq (oMv g005 s020) <|
       oMv g020 s002)) <|
      cExit 0)
      (cSkip))) <|
    cReg 2 (
     oSeq (oP (vAdd g010 (kc (.int .i64 1))) s021) <|
     oMv g021 s010)))) <|
  cSeq (cReg 1 (
   oMv (kc (.int .i64 0)) s002)) <|
  cExit 0⟩
def afn142 : AFn := ⟨3, 28, [(6, (some none)), (7, (some none))],
  .seq (.region [
   ⟨(some 5), .box 181 (.t 2), none⟩,
   ⟨(some 6), .alloc 60 [.nilSl], none⟩,
   ⟨(some 7), .alloc 91 [(.int .u64 0)], none⟩]) <|
  .seq (.seq (.region [
   ⟨(some 11), .mv (.t 0), none⟩,
   ⟨(some 12), .mv (.t 1), none⟩,
   ⟨(some 13), .call (.c (.fn (.func 157) [] [])) [(.t 11), (.t 12)], none⟩]) <|
  .block 0 (.rangeFunc (.t 13) [14, 15] (.seq (.region [
    ⟨(some 8), .mv (.t 14), none⟩]) <|
   .region [
    ⟨(some 9), .mv (.t 15), none⟩]) (.block 1 (.seq (.region [
      ⟨(some 10), .mv (.c (.int .u64 0)), none⟩]) <|
     .seq (.region [
      ⟨(some 17), .load none (.t 5), none⟩,
      ⟨(some 18), .mv (.t 8), none⟩,
      ⟨(some 19), .mv (.t 9), none⟩,
      ⟨(some 20), .load none (.t 7), none⟩,
      ⟨(some 21), .call (.t 17) [(.t 18), (.t 19), (.t 20)], none⟩,
      ⟨(some 16), .mv (.t 21), none⟩,
      ⟨(some 22), .extract 0 (.t 16), none⟩,
      ⟨(some 23), .extract 1 (.t 16), none⟩,
      ⟨(some 10), .mv (.t 22), none⟩,
      ⟨none, .store 1 (.t 7) (.t 23), none⟩]) <|
     .region [
      ⟨(some 24), .load none (.t 6), none⟩,
      ⟨(some 25), .mv (.t 10), none⟩,
      ⟨(some 26), .buildSlice 91 1 [(.int .u64 0)] 1 [((0, 1), (.t 25))], none⟩,
      ⟨(some 27), .append 1 8 91 [(.int .u64 0)] (.t 24) (.t 26), none⟩,
      ⟨none, .store 1 (.t 6) (.t 27), none⟩])))) <|
  .ret, none⟩
noncomputable def ffn142 : FFn := ⟨3, 28, [(6, (some none)), (7, (some none))],
  cSeq (cReg 3 (
   oSeq (oBox 181 g002 0 s005) <|
   oSeq (oAlloc 60 [.nilSl] 1 s006) <|
   oAlloc 91 [(.int .u64 0)] 2 s007)) <|
  cSeq (cSeq (cReg 3 (
   oSeq (oMv g000 s013) <|
   oSeq (oMv g001 s014) <|
   oCallF 157 (fun T => [g013 T, g014 T]) s015)) <|
  cBlock 1 (cSlow 1000000 false 28 (.rangeFunc (.t 13) [14, 15] (.seq (.region [
    ⟨(some 8), .mv (.t 14), none⟩]) <|
   .region [
    ⟨(some 9), .mv (.t 15), none⟩]) (.block 1 (.seq (.region [
      ⟨(some 10), .mv (.c (.int .u64 0)), none⟩]) <|
     .seq (.region [
      ⟨(some 17), .load none (.t 5), none⟩,
      ⟨(some 18), .mv (.t 8), none⟩,
      ⟨(some 19), .mv (.t 9), none⟩,
      ⟨(some 20), .load none (.t 7), none⟩,
      ⟨(some 21), .call (.t 17) [(.t 18), (.t 19), (.t 20)], none⟩,
      ⟨(some 16), .mv (.t 21), none⟩,
      ⟨(some 22), .extract 0 (.t 16), none⟩,
      ⟨(some 23), .extract 1 (.t 16), none⟩,
      ⟨(some 10), .mv (.t 22), none⟩,
      ⟨none, .store 1 (.t 7) (.t 23), none⟩]) <|
     .region [
      ⟨(some 24), .load none (.t 6), none⟩,
      ⟨(some 25), .mv (.t 10), none⟩,
      ⟨(some 26), .buildSlice 91 1 [(.int .u64 0)] 1 [((0, 1), (.t 25))], none⟩,
      ⟨(some 27), .append 1 8 91 [(.int .u64 0)] (.t 24) (.t 26), none⟩,
      ⟨none, .store 1 (.t 6) (.t 27), none⟩]))))) <|
  cExit 0⟩
def afn157 : AFn := ⟨2, 6, [(4, none)],
  .seq (.region [
   ⟨(some 2), .box 60 (.t 0), none⟩,
   ⟨(some 3), .box 60 (.t 1), none⟩,
   ⟨(some 4), .mv (.c .nilFn), none⟩]) <|
  .seq (.region [
   ⟨(some 5), .mkfn (.func 167) [] [(.t 2), (.t 3)], none⟩,
   ⟨(some 4), .mv (.t 5), none⟩]) <|
  .ret, none⟩
noncomputable def ffn157 : FFn := ⟨2, 6, [(4, none)],
  cSeq (cReg 3 (
   oSeq (oBox 60 g000 0 s002) <|
   oSeq (oBox 60 g001 1 s003) <|
   oMv (kc .nilFn) s004)) <|
  cSeq (cReg 2 (
   oSeq (oGen (.mkfn (.func 167) [] [(.t 2), (.t 3)]) 0 s005) <|
   oMv g005 s004)) <|
  cExit 0⟩
def afn167 : AFn := ⟨3, 37, [],
  .seq (.region [
   ⟨(some 7), .load none (.t 1), none⟩,
   ⟨(some 8), .len (.t 7), none⟩,
   ⟨(some 9), .load none (.t 2), none⟩,
   ⟨(some 10), .len (.t 9), none⟩,
   ⟨(some 11), .max [(.t 8), (.t 10)], none⟩,
   ⟨(some 12), .mv (.c (.int .i64 0)), none⟩]) <|
  .block 0 (.loop (.seq (.region [
     ⟨(some 13), .bin .lss .int (.t 12) (.t 11), none⟩]) <|
    .seq (.cond (.t 13)
     (.skip)
     (.exit 0)) <|
    .seq (.block 1 (.seq (.region [
      ⟨(some 14), .mv (.t 12), none⟩,
      ⟨(some 4), .mv (.t 14), none⟩]) <|
     .seq (.region [
      ⟨(some 5), .mv (.c (.int .u64 0)), none⟩,
      ⟨(some 6), .mv (.c (.int .u64 0)), none⟩]) <|
     .seq (.seq (.region [
      ⟨(some 15), .mv (.t 4), none⟩,
      ⟨(some 16), .load none (.t 1), none⟩,
      ⟨(some 17), .len (.t 16), none⟩,
      ⟨(some 18), .bin .lss .int (.t 15) (.t 17), none⟩]) <|
     .cond (.t 18)
      (.region [
       ⟨(some 19), .load none (.t 1), none⟩,
       ⟨(some 20), .mv (.t 4), none⟩,
       ⟨(some 21), .indexAddr 1 (.t 19) (.t 20), none⟩,
       ⟨(some 22), .load none (.t 21), none⟩,
       ⟨(some 5), .mv (.t 22), none⟩])
      (.skip)) <|
     .seq (.seq (.region [
      ⟨(some 23), .mv (.t 4), none⟩,
      ⟨(some 24), .load none (.t 2), none⟩,
      ⟨(some 25), .len (.t 24), none⟩,
      ⟨(some 26), .bin .lss .int (.t 23) (.t 25), none⟩]) <|
     .cond (.t 26)
      (.region [
       ⟨(some 27), .load none (.t 2), none⟩,
       ⟨(some 28), .mv (.t 4), none⟩,
       ⟨(some 29), .indexAddr 1 (.t 27) (.t 28), none⟩,
       ⟨(some 30), .load none (.t 29), none⟩,
       ⟨(some 6), .mv (.t 30), none⟩])
      (.skip)) <|
     .seq (.region [
      ⟨(some 31), .mv (.t 0), none⟩,
      ⟨(some 32), .mv (.t 5), none⟩,
      ⟨(some 33), .mv (.t 6), none⟩,
      ⟨(some 34), .call (.t 31) [(.t 32), (.t 33)], none⟩,
      ⟨(some 35), .un .not (.t 34), none⟩]) <|
     .cond (.t 35)
      (.ret)
      (.skip))) <|
    .region [
     ⟨(some 36), .bin .add .int (.t 12) (.c (.int .i64 1)), none⟩,
     ⟨(some 12), .mv (.t 36), none⟩])), none⟩
noncomputable def ffn167 : FFn := ⟨3, 37, [],
  cSeq (cReg 6 (
   oSeq (oLoad g001 s007) <|
   oSeq (oP (vLen g007) s010) <|
   oSeq (oLoad g002 s011) <|
   oSeq (oP (vLen g011) s012) <|
   oSeq (oGen (.max [(.t 8), (.t 10)]) 4 s013) <|
   oMv (kc (.int .i64 0)) s014)) <|
  cBlock 1 (cLoop 1000000 (cSeq (cReg 1 (
     oP (vLss g014 g013) s015)) <|
    cSeq (cCond g015
     (cSkip)
     (cExit 1)) <|
    cSeq (cBlock 3 (cSeq (cReg 2 (
      oSeq (oMv g014 s016) <|
      oMv g016 s004)) <|
     cSeq (cReg 2 (
      oSeq (oMv (kc (.int .u64 0)) s005) <|
      oMv (kc (.int .u64 0)) s006)) <|
     cSeq (cSeq (cReg 4 (
      oSeq (oMv g004 s017) <|
      oSeq (oLoad g001 s020) <|
      oSeq (oP (vLen g020) s021) <|
      oP (vLss g017 g021) s022)) <|
     cCond g022
      (cReg 5 (
       oSeq (oLoad g001 s023) <|
       oSeq (oMv g004 s024) <|
       oSeq (oP (vIdx 1 g023 g024) s025) <|
       oSeq (oLoad g025 s026) <|
       oMv g026 s005))
      (cSkip)) <|
     cSeq (cSeq (cReg 4 (
      oSeq (oMv g004 s027) <|
      oSeq (oLoad g002 s030) <|
      oSeq (oP (vLen g030) s031) <|
      oP (vLss g027 g031) s032)) <|
     cCond g032
      (cReg 5 (
       oSeq (oLoad g002 s033) <|
       oSeq (oMv g004 s034) <|
       oSeq (oP (vIdx 1 g033 g034) s035) <|
       oSeq (oLoad g035 s036) <|
       oMv g036 s006))
      (cSkip)) <|
     cSeq (cReg 5 (
      oSeq (oMv g000 s037) <|
      oSeq (oMv g005 s040) <|
      oSeq (oMv g006 s041) <|
      oSeq (oCall g037 (fun T => [g040 T, g041 T]) s042) <|
      oGen (.un .not (.t 34)) 4 s043)) <|
     cCond g043
      (cExit 0)
      (cSkip))) <|
    cReg 2 (
     oSeq (oP (vAdd g014 (kc (.int .i64 1))) s044) <|
     oMv g044 s014)))⟩
end Go.Proofs.YtjenkjblcpinnabGreat.Ev
