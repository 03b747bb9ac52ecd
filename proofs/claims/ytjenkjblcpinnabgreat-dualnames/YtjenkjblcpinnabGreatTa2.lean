/-
  The code of the law's functions, printed by program off the translation.
-/
import Derived.Test.YtjenkjblcpinnabGreatEvSlots
namespace Go.Proofs.YtjenkjblcpinnabGreat.Ev
open Go
set_option maxRecDepth 1000000
def afn154 : AFn := ⟨2, 70, [(4, none)],
  .seq (.region [
   ⟨(some 4), .mv (.c (.bool false)), none⟩]) <|
  .seq (.region [
   ⟨(some 5), .mv (.c (.int .u64 0)), none⟩]) <|
  .seq (.seq (.region [
   ⟨(some 9), .mv (.t 0), none⟩,
   ⟨(some 10), .nilCheck (.t 9), none⟩,
   ⟨(some 11), .fieldAddr 1 (.t 10), none⟩,
   ⟨(some 12), .load none (.t 11), none⟩,
   ⟨(some 13), .len (.t 12), none⟩,
   ⟨(some 14), .mv (.c (.int .i64 0)), none⟩]) <|
  .block 0 (.loop (.seq (.region [
     ⟨(some 15), .bin .lss .int (.t 14) (.t 13), none⟩]) <|
    .seq (.cond (.t 15)
     (.skip)
     (.exit 0)) <|
    .seq (.block 1 (.seq (.region [
      ⟨(some 16), .mv (.t 14), none⟩,
      ⟨(some 17), .indexAddr 1 (.t 12) (.t 14), none⟩,
      ⟨(some 18), .load none (.t 17), none⟩,
      ⟨(some 6), .mv (.t 16), none⟩,
      ⟨(some 7), .mv (.t 18), none⟩]) <|
     .draw [
      ⟨(some 20), .mv (.t 0), none, [(0, none)], 0, [(0, []), (1, [])]⟩,
      ⟨(some 21), .nilCheck (.t 20), none, [(20, (some 0))], 0, [(0, []), (1, [])]⟩,
      ⟨(some 22), .fieldAddr 0 (.t 21), none, [(21, (some 1))], 0, [(0, []), (1, [])]⟩,
      ⟨(some 23), .load none (.t 22), none, [(22, (some 2))], 0, [(0, []), (1, [])]⟩,
      ⟨(some 24), .mv (.t 1), none, [(1, none)], 0, [(0, []), (1, [])]⟩,
      ⟨(some 25), .mv (.t 6), none, [(6, none)], 0, [(0, []), (1, [])]⟩,
      ⟨(some 26), .bin .add .int (.t 24) (.t 25), none, [(24, (some 4)), (25, (some 5))], 0, [(0, []), (1, [])]⟩,
      ⟨(some 27), .mv (.t 0), none, [(0, none)], 0, [(0, [])]⟩,
      ⟨(some 28), .nilCheck (.t 27), none, [(27, (some 7))], 0, [(0, [])]⟩,
      ⟨(some 29), .fieldAddr 0 (.t 28), none, [(28, (some 8))], 0, [(0, [])]⟩,
      ⟨(some 30), .load none (.t 29), none, [(29, (some 9))], 0, [(0, [])]⟩,
      ⟨(some 31), .mv (.t 1), none, [(1, none)], 0, [(0, [])]⟩,
      ⟨(some 32), .mv (.t 6), none, [(6, none)], 0, [(0, [])]⟩,
      ⟨(some 33), .bin .add .int (.t 31) (.t 32), none, [(31, (some 11)), (32, (some 12))], 0, [(0, [])]⟩,
      ⟨(some 34), .indexAddr 1 (.t 30) (.t 33), none, [(30, (some 10)), (33, (some 13))], 0, [(0, [])]⟩,
      ⟨(some 35), .load none (.t 34), none, [(34, (some 14))], 0, [(0, [])]⟩,
      ⟨(some 36), .mv (.t 7), none, [(7, none)], 0, [(0, [])]⟩,
      ⟨(some 37), .mv (.t 5), none, [(5, none)], 0, [(0, [])]⟩,
      ⟨(some 38), .call (.c (.fn (.func 143) [] [])) [(.t 35), (.t 36), (.t 37)], none, [(35, (some 15)), (36, (some 16)), (37, (some 17))], 2, [(0, [])]⟩,
      ⟨(some 19), .mv (.t 38), none, [(38, (some 18))], 0, [(1, [])]⟩,
      ⟨(some 39), .extract 0 (.t 19), none, [(19, (some 19))], 0, [(1, [])]⟩,
      ⟨(some 40), .extract 1 (.t 19), none, [(19, (some 19))], 0, [(1, []), (2, [])]⟩,
      ⟨(some 41), .indexAddr 1 (.t 23) (.t 26), none, [(23, (some 3)), (26, (some 6))], 0, [(1, [])]⟩,
      ⟨none, .store 1 (.t 41) (.t 39), none, [(41, (some 22)), (39, (some 20))], 2, [(1, [])]⟩,
      ⟨(some 5), .mv (.t 40), none, [(40, (some 21))], 0, [(2, [])]⟩] [])) <|
    .region [
     ⟨(some 42), .bin .add .int (.t 14) (.c (.int .i64 1)), none⟩,
     ⟨(some 14), .mv (.t 42), none⟩]))) <|
  .seq (.region [
   ⟨(some 43), .mv (.t 1), none⟩,
   ⟨(some 44), .mv (.t 0), none⟩,
   ⟨(some 45), .nilCheck (.t 44), none⟩,
   ⟨(some 46), .fieldAddr 1 (.t 45), none⟩,
   ⟨(some 47), .load none (.t 46), none⟩,
   ⟨(some 48), .len (.t 47), none⟩,
   ⟨(some 49), .bin .add .int (.t 43) (.t 48), none⟩,
   ⟨(some 8), .mv (.t 49), none⟩]) <|
  .seq (.draw [
   ⟨(some 51), .mv (.t 0), none, [(0, none)], 0, [(0, []), (1, [])]⟩,
   ⟨(some 52), .nilCheck (.t 51), none, [(51, (some 0))], 0, [(0, []), (1, [])]⟩,
   ⟨(some 53), .fieldAddr 0 (.t 52), none, [(52, (some 1))], 0, [(0, []), (1, [])]⟩,
   ⟨(some 54), .load none (.t 53), none, [(53, (some 2))], 0, [(0, []), (1, [])]⟩,
   ⟨(some 55), .mv (.t 8), none, [(8, none)], 0, [(0, []), (1, [])]⟩,
   ⟨(some 56), .mv (.t 0), none, [(0, none)], 0, [(0, [])]⟩,
   ⟨(some 57), .nilCheck (.t 56), none, [(56, (some 5))], 0, [(0, [])]⟩,
   ⟨(some 58), .fieldAddr 0 (.t 57), none, [(57, (some 6))], 0, [(0, [])]⟩,
   ⟨(some 59), .load none (.t 58), none, [(58, (some 7))], 0, [(0, [])]⟩,
   ⟨(some 60), .mv (.t 8), none, [(8, none)], 0, [(0, [])]⟩,
   ⟨(some 61), .indexAddr 1 (.t 59) (.t 60), none, [(59, (some 8)), (60, (some 9))], 0, [(0, [])]⟩,
   ⟨(some 62), .load none (.t 61), none, [(61, (some 10))], 0, [(0, [])]⟩,
   ⟨(some 63), .mv (.t 5), none, [(5, none)], 0, [(0, [])]⟩,
   ⟨(some 64), .call (.c (.fn (.func 143) [] [])) [(.t 62), (.c (.int .u64 0)), (.t 63)], none, [(62, (some 11)), (63, (some 12))], 2, [(0, [])]⟩,
   ⟨(some 50), .mv (.t 64), none, [(64, (some 13))], 0, [(1, [])]⟩,
   ⟨(some 65), .extract 0 (.t 50), none, [(50, (some 14))], 0, [(1, [])]⟩,
   ⟨(some 66), .extract 1 (.t 50), none, [(50, (some 14))], 0, [(1, []), (2, [])]⟩,
   ⟨(some 67), .indexAddr 1 (.t 54) (.t 55), none, [(54, (some 3)), (55, (some 4))], 0, [(1, [])]⟩,
   ⟨none, .store 1 (.t 67) (.t 65), none, [(67, (some 17)), (65, (some 15))], 2, [(1, [])]⟩,
   ⟨(some 5), .mv (.t 66), none, [(66, (some 16))], 0, [(2, [])]⟩] []) <|
  .seq (.region [
   ⟨(some 68), .mv (.t 5), none⟩,
   ⟨(some 69), .bin .gtr .int (.t 68) (.c (.int .u64 0)), none⟩,
   ⟨(some 4), .mv (.t 69), none⟩]) <|
  .ret, none⟩
noncomputable def ffn154 : FFn := ⟨2, 70, [(4, none)],
  cSeq (cReg 1 (
   oMv (kc (.bool false)) s004)) <|
  cSeq (cReg 1 (
   oMv (kc (.int .u64 0)) s005)) <|
  cSeq (cSeq (cReg 6 (
   oSeq (oMv g000 s011) <|
   oSeq (oGen (.nilCheck (.t 9)) 1 s012) <|
   oSeq (oP (vFA 1 g012) s013) <|
   oSeq (oLoad g013 s014) <|
   oSeq (oP (vLen g014) s015) <|
   oMv (kc (.int .i64 0)) s016)) <|
  cBlock 1 (cLoop 1000000 (cSeq (cReg 1 (
     oP (vLss g016 g015) s017)) <|
    cSeq (cCond g017
     (cSkip)
     (cExit 1)) <|
    cSeq (cBlock 3 (cSeq (cReg 5 (
      oSeq (oMv g016 s020) <|
      oSeq (oP (vIdx 1 g014 g016) s021) <|
      oSeq (oLoad g021 s022) <|
      oSeq (oMv g020 s006) <|
      oMv g022 s007)) <|
     cDrw 25 (
      dSeq (dLook 0 [] (oMv g000 s024)) <|
      dSeq (dLook 0 [] (oGen (.nilCheck (.t 20)) 1 s025)) <|
      dSeq (dLook 0 [] (oP (vFA 0 g025) s026)) <|
      dSeq (dLook 0 [] (oLoad g026 s027)) <|
      dSeq (dLook 0 [] (oMv g001 s030)) <|
      dSeq (dLook 0 [] (oMv g006 s031)) <|
      dSeq (dLook 0 [] (oP (vAdd g030 g031) s032)) <|
      dSeq (dLook 0 [] (oMv g000 s033)) <|
      dSeq (dLook 0 [] (oGen (.nilCheck (.t 27)) 8 s034)) <|
      dSeq (dLook 0 [] (oP (vFA 0 g034) s035)) <|
      dSeq (dLook 0 [] (oLoad g035 s036)) <|
      dSeq (dLook 0 [] (oMv g001 s037)) <|
      dSeq (dLook 0 [] (oMv g006 s040)) <|
      dSeq (dLook 0 [] (oP (vAdd g037 g040) s041)) <|
      dSeq (dLook 0 [] (oP (vIdx 1 g036 g041) s042)) <|
      dSeq (dLook 0 [] (oLoad g042 s043)) <|
      dSeq (dLook 0 [] (oMv g007 s044)) <|
      dSeq (dLook 0 [] (oMv g005 s045)) <|
      dSeq (dAct 0 [] (oCallF 143 (fun T => [g043 T, g044 T, g045 T]) s046)) <|
      dSeq (dLook 0 [] (oMv g046 s023)) <|
      dSeq (dLook 0 [] (oP (vExt 0 g023) s047)) <|
      dSeq (dLook 0 [] (oP (vExt 1 g023) s050)) <|
      dSeq (dLook 0 [] (oP (vIdx 1 g027 g032) s051)) <|
      dSeq (dAct 0 [] (oStore g051 g047 noPut)) <|
      dSeq (dLook 0 [] (oMv g050 s005)) <|
      dNop)
      (ckSeq (ckOne g027 1 [] (oLoad g026 s027)) <|
     ckNop) [])) <|
    cReg 2 (
     oSeq (oP (vAdd g016 (kc (.int .i64 1))) s052) <|
     oMv g052 s016)))) <|
  cSeq (cReg 8 (
   oSeq (oMv g001 s053) <|
   oSeq (oMv g000 s054) <|
   oSeq (oGen (.nilCheck (.t 44)) 2 s055) <|
   oSeq (oP (vFA 1 g055) s056) <|
   oSeq (oLoad g056 s057) <|
   oSeq (oP (vLen g057) s060) <|
   oSeq (oP (vAdd g053 g060) s061) <|
   oMv g061 s010)) <|
  cSeq (cDrw 20 (
   dSeq (dLook 0 [] (oMv g000 s063)) <|
   dSeq (dLook 0 [] (oGen (.nilCheck (.t 51)) 1 s064)) <|
   dSeq (dLook 0 [] (oP (vFA 0 g064) s065)) <|
   dSeq (dLook 0 [] (oLoad g065 s066)) <|
   dSeq (dLook 0 [] (oMv g010 s067)) <|
   dSeq (dLook 0 [] (oMv g000 s070)) <|
   dSeq (dLook 0 [] (oGen (.nilCheck (.t 56)) 6 s071)) <|
   dSeq (dLook 0 [] (oP (vFA 0 g071) s072)) <|
   dSeq (dLook 0 [] (oLoad g072 s073)) <|
   dSeq (dLook 0 [] (oMv g010 s074)) <|
   dSeq (dLook 0 [] (oP (vIdx 1 g073 g074) s075)) <|
   dSeq (dLook 0 [] (oLoad g075 s076)) <|
   dSeq (dLook 0 [] (oMv g005 s077)) <|
   dSeq (dAct 0 [] (oCallF 143 (fun T => [g076 T, (.int .u64 0), g077 T]) s100)) <|
   dSeq (dLook 0 [] (oMv g100 s062)) <|
   dSeq (dLook 0 [] (oP (vExt 0 g062) s101)) <|
   dSeq (dLook 0 [] (oP (vExt 1 g062) s102)) <|
   dSeq (dLook 0 [] (oP (vIdx 1 g066 g067) s103)) <|
   dSeq (dAct 0 [] (oStore g103 g101 noPut)) <|
   dSeq (dLook 0 [] (oMv g102 s005)) <|
   dNop)
   (ckSeq (ckOne g066 1 [] (oLoad g065 s066)) <|
  ckNop) []) <|
  cSeq (cReg 3 (
   oSeq (oMv g005 s104) <|
   oSeq (oP (vGtr g104 (kc (.int .u64 0))) s105) <|
   oMv g105 s004)) <|
  cExit 0⟩
def afn155 : AFn := ⟨2, 59, [(4, none), (5, none)],
  .seq (.region [
   ⟨(some 4), .mv (.c .nilSl), none⟩,
   ⟨(some 5), .mv (.c (.int .i64 0)), none⟩]) <|
  .seq (.seq (.region [
   ⟨(some 9), .mv (.t 0), none⟩,
   ⟨(some 10), .mv (.t 1), none⟩,
   ⟨(some 11), .call (.c (.fn (.func 165) [] [])) [(.t 9), (.t 10)], none⟩,
   ⟨(some 6), .mv (.t 11), none⟩]) <|
  .seq (.region [
   ⟨(some 12), .mv (.t 6), none⟩,
   ⟨(some 13), .bin .neq .int (.t 12) (.c (.int .i64 0)), none⟩]) <|
  .cond (.t 13)
   (.seq (.region [
    ⟨(some 14), .mv (.t 6), none⟩,
    ⟨(some 4), .mv (.c .nilSl), none⟩,
    ⟨(some 5), .mv (.t 14), none⟩]) <|
   .ret)
   (.skip)) <|
  .seq (.region [
   ⟨(some 15), .mv (.t 0), none⟩,
   ⟨(some 16), .mv (.t 1), none⟩,
   ⟨(some 17), .bin .quo .int (.t 16) (.c (.int .i64 64)), none⟩,
   ⟨(some 18), .mv (.t 0), none⟩,
   ⟨(some 19), .len (.t 18), none⟩,
   ⟨(some 20), .min [(.t 17), (.t 19)], none⟩,
   ⟨(some 21), .slice 1 (.t 15) (some (.t 20)) none none, none⟩,
   ⟨(some 22), .call (.c (.fn (.func 90) [] [])) [(.t 21)], none⟩,
   ⟨(some 7), .mv (.t 22), none⟩]) <|
  .seq (.seq (.region [
   ⟨(some 23), .mv (.t 7), none⟩,
   ⟨(some 24), .len (.t 23), none⟩,
   ⟨(some 25), .mv (.c (.int .i64 0)), none⟩]) <|
  .block 0 (.loop (.seq (.region [
     ⟨(some 26), .bin .lss .int (.t 25) (.t 24), none⟩]) <|
    .seq (.cond (.t 26)
     (.skip)
     (.exit 0)) <|
    .seq (.block 1 (.seq (.region [
      ⟨(some 27), .mv (.t 25), none⟩,
      ⟨(some 8), .mv (.t 27), none⟩]) <|
     .seq (.region [
      ⟨(some 28), .mv (.t 7), none⟩,
      ⟨(some 29), .mv (.t 8), none⟩,
      ⟨(some 30), .indexAddr 1 (.t 28) (.t 29), none⟩,
      ⟨(some 31), .load none (.t 30), none⟩,
      ⟨(some 32), .mv (.t 1), none⟩,
      ⟨(some 33), .bin .rem .int (.t 32) (.c (.int .i64 64)), none⟩,
      ⟨(some 34), .bin .shr .int (.t 31) (.t 33), none⟩,
      ⟨(some 35), .indexAddr 1 (.t 28) (.t 29), none⟩,
      ⟨none, .store 1 (.t 35) (.t 34), none⟩]) <|
     .seq (.region [
      ⟨(some 36), .mv (.t 8), none⟩,
      ⟨(some 37), .bin .add .int (.t 36) (.c (.int .i64 1)), none⟩,
      ⟨(some 38), .mv (.t 7), none⟩,
      ⟨(some 39), .len (.t 38), none⟩,
      ⟨(some 40), .bin .lss .int (.t 37) (.t 39), none⟩]) <|
     .cond (.t 40)
      (.draw [
       ⟨(some 41), .mv (.t 7), none, [(7, none)], 0, [(0, [])]⟩,
       ⟨(some 42), .mv (.t 8), none, [(8, none)], 0, [(0, [])]⟩,
       ⟨(some 43), .indexAddr 1 (.t 41) (.t 42), none, [(41, (some 0)), (42, (some 1))], 0, [(0, [])]⟩,
       ⟨(some 44), .load none (.t 43), none, [(43, (some 2))], 0, [(0, [])]⟩,
       ⟨(some 45), .mv (.t 7), none, [(7, none)], 0, [(0, [])]⟩,
       ⟨(some 46), .mv (.t 8), none, [(8, none)], 0, [(0, [])]⟩,
       ⟨(some 47), .bin .add .int (.t 46) (.c (.int .i64 1)), none, [(46, (some 5))], 0, [(0, [])]⟩,
       ⟨(some 48), .indexAddr 1 (.t 45) (.t 47), none, [(45, (some 4)), (47, (some 6))], 0, [(0, [])]⟩,
       ⟨(some 49), .load none (.t 48), none, [(48, (some 7))], 0, [(0, [])]⟩,
       ⟨(some 50), .mv (.t 1), none, [(1, none)], 0, [(0, [])]⟩,
       ⟨(some 51), .bin .rem .int (.t 50) (.c (.int .i64 64)), none, [(50, (some 9))], 0, [(0, [])]⟩,
       ⟨(some 52), .bin .sub .int (.c (.int .i64 64)) (.t 51), none, [(51, (some 10))], 0, [(0, [])]⟩,
       ⟨(some 53), .bin .shl .int (.t 49) (.t 52), none, [(49, (some 8)), (52, (some 11))], 0, [(0, [])]⟩,
       ⟨(some 54), .bin .or .int (.t 44) (.t 53), none, [(44, (some 3)), (53, (some 12))], 0, [(0, [])]⟩,
       ⟨(some 55), .indexAddr 1 (.t 41) (.t 42), none, [(41, (some 0)), (42, (some 1))], 0, [(0, [])]⟩,
       ⟨none, .store 1 (.t 55) (.t 54), none, [(55, (some 14)), (54, (some 13))], 2, [(0, [])]⟩] [])
      (.skip))) <|
    .region [
     ⟨(some 56), .bin .add .int (.t 25) (.c (.int .i64 1)), none⟩,
     ⟨(some 25), .mv (.t 56), none⟩]))) <|
  .seq (.region [
   ⟨(some 57), .mv (.t 7), none⟩,
   ⟨(some 58), .call (.c (.fn (.func 78) [] [])) [(.t 57)], none⟩,
   ⟨(some 4), .mv (.t 58), none⟩,
   ⟨(some 5), .mv (.c (.int .i64 0)), none⟩]) <|
  .ret, none⟩
noncomputable def ffn155 : FFn := ⟨2, 59, [(4, none), (5, none)],
  cSeq (cReg 2 (
   oSeq (oMv (kc .nilSl) s004) <|
   oMv (kc (.int .i64 0)) s005)) <|
  cSeq (cSeq (cReg 4 (
   oSeq (oMv g000 s011) <|
   oSeq (oMv g001 s012) <|
   oSeq (oCallF 165 (fun T => [g011 T, g012 T]) s013) <|
   oMv g013 s006)) <|
  cSeq (cReg 2 (
   oSeq (oMv g006 s014) <|
   oP (vNeq g014 (kc (.int .i64 0))) s015)) <|
  cCond g015
   (cSeq (cReg 3 (
    oSeq (oMv g006 s016) <|
    oSeq (oMv (kc .nilSl) s004) <|
    oMv g016 s005)) <|
   cExit 0)
   (cSkip)) <|
  cSeq (cReg 9 (
   oSeq (oMv g000 s017) <|
   oSeq (oMv g001 s020) <|
   oSeq (oGen (.bin .quo .int (.t 16) (.c (.int .i64 64))) 2 s021) <|
   oSeq (oMv g000 s022) <|
   oSeq (oP (vLen g022) s023) <|
   oSeq (oGen (.min [(.t 17), (.t 19)]) 5 s024) <|
   oSeq (oGen (.slice 1 (.t 15) (some (.t 20)) none none) 6 s025) <|
   oSeq (oCallF 90 (fun T => [g025 T]) s026) <|
   oMv g026 s007)) <|
  cSeq (cSeq (cReg 3 (
   oSeq (oMv g007 s027) <|
   oSeq (oP (vLen g027) s030) <|
   oMv (kc (.int .i64 0)) s031)) <|
  cBlock 1 (cLoop 1000000 (cSeq (cReg 1 (
     oP (vLss g031 g030) s032)) <|
    cSeq (cCond g032
     (cSkip)
     (cExit 1)) <|
    cSeq (cBlock 3 (cSeq (cReg 2 (
      oSeq (oMv g031 s033) <|
      oMv g033 s010)) <|
     cSeq (cReg 9 (
      oSeq (oMv g007 s034) <|
      oSeq (oMv g010 s035) <|
      oSeq (oP (vIdx 1 g034 g035) s036) <|
      oSeq (oLoad g036 s037) <|
      oSeq (oMv g001 s040) <|
      oSeq (oGen (.bin .rem .int (.t 32) (.c (.int .i64 64))) 5 s041) <|
      oSeq (oGen (.bin .shr .int (.t 31) (.t 33)) 6 s042) <|
      oSeq (oP (vIdx 1 g034 g035) s043) <|
      oStore g043 g042 noPut)) <|
     cSeq (cReg 5 (
      oSeq (oMv g010 s044) <|
      oSeq (oP (vAdd g044 (kc (.int .i64 1))) s045) <|
      oSeq (oMv g007 s046) <|
      oSeq (oP (vLen g046) s047) <|
      oP (vLss g045 g047) s050)) <|
     cCond g050
      (cDrw 16 (
       dSeq (dLook 0 [] (oMv g007 s051)) <|
       dSeq (dLook 0 [] (oMv g010 s052)) <|
       dSeq (dLook 0 [] (oP (vIdx 1 g051 g052) s053)) <|
       dSeq (dLook 0 [] (oLoad g053 s054)) <|
       dSeq (dLook 0 [] (oMv g007 s055)) <|
       dSeq (dLook 0 [] (oMv g010 s056)) <|
       dSeq (dLook 0 [] (oP (vAdd g056 (kc (.int .i64 1))) s057)) <|
       dSeq (dLook 0 [] (oP (vIdx 1 g055 g057) s060)) <|
       dSeq (dLook 0 [] (oLoad g060 s061)) <|
       dSeq (dLook 0 [] (oMv g001 s062)) <|
       dSeq (dLook 0 [] (oGen (.bin .rem .int (.t 50) (.c (.int .i64 64))) 10 s063)) <|
       dSeq (dLook 0 [] (oP (vSub (kc (.int .i64 64)) g063) s064)) <|
       dSeq (dLook 0 [] (oGen (.bin .shl .int (.t 49) (.t 52)) 12 s065)) <|
       dSeq (dLook 0 [] (oGen (.bin .or .int (.t 44) (.t 53)) 13 s066)) <|
       dSeq (dLook 0 [] (oP (vIdx 1 g051 g052) s067)) <|
       dSeq (dAct 0 [] (oStore g067 g066 noPut)) <|
       dNop)
       (ckNop) [])
      (cSkip))) <|
    cReg 2 (
     oSeq (oP (vAdd g031 (kc (.int .i64 1))) s070) <|
     oMv g070 s031)))) <|
  cSeq (cReg 4 (
   oSeq (oMv g007 s071) <|
   oSeq (oCallF 78 (fun T => [g071 T]) s072) <|
   oSeq (oMv g072 s004) <|
   oMv (kc (.int .i64 0)) s005)) <|
  cExit 0⟩
def afn69 : AFn := ⟨1, 5, [(2, none)],
  .seq (.region [
   ⟨(some 2), .mv (.c .nilSl), none⟩]) <|
  .seq (.region [
   ⟨(some 3), .mv (.t 0), none⟩,
   ⟨(some 4), .call (.c (.fn (.func 88) [] [])) [(.t 3), (.c (.fn (.func 89) [] []))], none⟩,
   ⟨(some 2), .mv (.t 4), none⟩]) <|
  .ret, none⟩
noncomputable def ffn69 : FFn := ⟨1, 5, [(2, none)],
  cSeq (cReg 1 (
   oMv (kc .nilSl) s002)) <|
  cSeq (cReg 3 (
   oSeq (oMv g000 s003) <|
   oSeq (oCallF 88 (fun T => [g003 T, (.fn (.func 89) [] [])]) s004) <|
   oMv g004 s002)) <|
  cExit 0⟩
def afn89 : AFn := ⟨2, 11, [(4, (some (some 2)))],
  .seq (.region [
   ⟨(some 3), .box 62 (.t 1), none⟩,
   ⟨(some 4), .alloc 62 [(.bool false), .nilSl], none⟩]) <|
  .seq (.draw [
   ⟨(some 5), .fieldAddr 0 (.t 3), none, [(3, none)], 0, [(0, []), (1, [])]⟩,
   ⟨(some 6), .load none (.t 5), none, [(5, (some 0))], 0, [(0, []), (1, [])]⟩,
   ⟨(some 7), .fieldAddr 1 (.t 3), none, [(3, none)], 0, [(0, [])]⟩,
   ⟨(some 8), .load none (.t 7), none, [(7, (some 2))], 0, [(0, [])]⟩,
   ⟨(some 9), .call (.c (.fn (.func 90) [] [])) [(.t 8)], none, [(8, (some 3))], 2, [(0, [])]⟩,
   ⟨(some 10), .build [(.bool false), .nilSl] [((0, 1), (.t 6)), ((1, 1), (.t 9))], none, [(6, (some 1)), (9, (some 4))], 0, [(1, [])]⟩,
   ⟨none, .store 2 (.t 4) (.t 10), none, [(4, none), (10, (some 5))], 2, [(1, [])]⟩] []) <|
  .ret, none⟩
noncomputable def ffn89 : FFn := ⟨2, 11, [(4, (some (some 2)))],
  cSeq (cReg 2 (
   oSeq (oBox 62 g001 0 s003) <|
   oAlloc 62 [(.bool false), .nilSl] 1 s004)) <|
  cSeq (cDrw 7 (
   dSeq (dLook 0 [] (oP (vFA 0 g003) s005)) <|
   dSeq (dLook 0 [] (oLoad g005 s006)) <|
   dSeq (dLook 0 [] (oP (vFA 1 g003) s007)) <|
   dSeq (dLook 0 [] (oLoad g007 s010)) <|
   dSeq (dAct 0 [] (oCallF 90 (fun T => [g010 T]) s011)) <|
   dSeq (dLook 0 [] (oP (vBuild [(.bool false), .nilSl] [((0, 1), g006), ((1, 1), g011)]) s012)) <|
   dSeq (dAct 0 [] (oStoreN 2 g004 g012 noPut)) <|
   dNop)
   (ckSeq (ckOne g006 1 [] (oLoad g005 s006)) <|
  ckNop) []) <|
  cExit 0⟩
def afn116 : AFn := ⟨3, 16, [(5, (some (some 2)))],
  .seq (.region [
   ⟨(some 4), .box 62 (.t 1), none⟩,
   ⟨(some 5), .alloc 62 [(.bool false), .nilSl], none⟩]) <|
  .seq (.region [
   ⟨(some 9), .load (some 2) (.t 4), none⟩,
   ⟨(some 10), .load none (.t 2), none⟩,
   ⟨(some 11), .build [(.bool false), .nilSl] [((1, 1), (.t 10))], none⟩,
   ⟨(some 12), .call (.c (.fn (.func 117) [] [])) [(.t 9), (.t 11)], none⟩,
   ⟨(some 8), .mv (.t 12), none⟩,
   ⟨(some 13), .extract 0 (.t 8), none⟩,
   ⟨(some 14), .extract 1 (.t 8), none⟩,
   ⟨(some 6), .alloc 62 [(.bool false), .nilSl], none⟩,
   ⟨none, .store 2 (.t 6) (.t 13), none⟩,
   ⟨(some 7), .mv (.t 14), none⟩]) <|
  .seq (.region [
   ⟨(some 15), .load (some 2) (.t 6), none⟩,
   ⟨none, .store 2 (.t 5) (.t 15), none⟩]) <|
  .ret, none⟩
noncomputable def ffn116 : FFn := ⟨3, 16, [(5, (some (some 2)))],
  cSeq (cReg 2 (
   oSeq (oBox 62 g001 0 s004) <|
   oAlloc 62 [(.bool false), .nilSl] 1 s005)) <|
  cSeq (cReg 10 (
   oSeq (oLoadN 2 g004 s011) <|
   oSeq (oLoad g002 s012) <|
   oSeq (oP (vBuild [(.bool false), .nilSl] [((1, 1), g012)]) s013) <|
   oSeq (oCallF 117 (fun T => [g011 T, g013 T]) s014) <|
   oSeq (oMv g014 s010) <|
   oSeq (oP (vExt 0 g010) s015) <|
   oSeq (oP (vExt 1 g010) s016) <|
   oSeq (oAlloc 62 [(.bool false), .nilSl] 7 s006) <|
   oSeq (oStoreN 2 g006 g015 noPut) <|
   oMv g016 s007)) <|
  cSeq (cReg 2 (
   oSeq (oLoadN 2 g006 s017) <|
   oStoreN 2 g005 g017 noPut)) <|
  cExit 0⟩
def afn117 : AFn := ⟨2, 27, [(4, (some (some 2))), (5, none)],
  .seq (.region [
   ⟨(some 2), .box 62 (.t 0), none⟩,
   ⟨(some 3), .box 62 (.t 1), none⟩,
   ⟨(some 4), .alloc 62 [(.bool false), .nilSl], none⟩,
   ⟨(some 5), .mv (.c (.int .i64 0)), none⟩]) <|
  .seq (.region [
   ⟨(some 11), .load (some 2) (.t 2), none⟩,
   ⟨(some 12), .load (some 2) (.t 3), none⟩,
   ⟨(some 13), .call (.c (.fn (.func 132) [] [])) [(.t 11), (.t 12)], none⟩,
   ⟨(some 10), .mv (.t 13), none⟩,
   ⟨(some 14), .extract 0 (.t 10), none⟩,
   ⟨(some 15), .extract 1 (.t 10), none⟩,
   ⟨(some 16), .extract 2 (.t 10), none⟩,
   ⟨(some 17), .extract 3 (.t 10), none⟩,
   ⟨(some 6), .alloc 62 [(.bool false), .nilSl], none⟩,
   ⟨none, .store 2 (.t 6) (.t 14), none⟩,
   ⟨(some 7), .mv (.t 15), none⟩,
   ⟨(some 8), .mv (.t 16), none⟩,
   ⟨(some 9), .mv (.t 17), none⟩]) <|
  .seq (.block 0 (.seq (.region [
    ⟨(some 19), .mv (.t 9), none⟩,
    ⟨(some 20), .bin .neq .int (.t 19) (.c (.int .i64 0)), none⟩,
    ⟨(some 18), .mv (.t 20), none⟩]) <|
   .cond (.t 18)
    (.seq (.region [
     ⟨(some 21), .build [(.bool false), .nilSl] [], none⟩,
     ⟨(some 22), .mv (.t 9), none⟩,
     ⟨none, .store 2 (.t 4) (.t 21), none⟩,
     ⟨(some 5), .mv (.t 22), none⟩]) <|
    .ret)
    (.seq (.region [
     ⟨(some 24), .mv (.t 7), none⟩,
     ⟨(some 23), .mv (.t 24), none⟩]) <|
    .cond (.t 23)
     (.seq (.region [
      ⟨(some 25), .build [(.bool false), .nilSl] [], none⟩,
      ⟨none, .store 2 (.t 4) (.t 25), none⟩,
      ⟨(some 5), .mv (.c (.int .i64 6)), none⟩]) <|
     .ret)
     (.skip)))) <|
  .seq (.region [
   ⟨(some 26), .load (some 2) (.t 6), none⟩,
   ⟨none, .store 2 (.t 4) (.t 26), none⟩,
   ⟨(some 5), .mv (.c (.int .i64 0)), none⟩]) <|
  .ret, none⟩
noncomputable def ffn117 : FFn := ⟨2, 27, [(4, (some (some 2))), (5, none)],
  cSeq (cReg 4 (
   oSeq (oBox 62 g000 0 s002) <|
   oSeq (oBox 62 g001 1 s003) <|
   oSeq (oAlloc 62 [(.bool false), .nilSl] 2 s004) <|
   oMv (kc (.int .i64 0)) s005)) <|
  cSeq (cReg 13 (
   oSeq (oLoadN 2 g002 s013) <|
   oSeq (oLoadN 2 g003 s014) <|
   oSeq (oCallF 132 (fun T => [g013 T, g014 T]) s015) <|
   oSeq (oMv g015 s012) <|
   oSeq (oP (vExt 0 g012) s016) <|
   oSeq (oP (vExt 1 g012) s017) <|
   oSeq (oP (vExt 2 g012) s020) <|
   oSeq (oP (vExt 3 g012) s021) <|
   oSeq (oAlloc 62 [(.bool false), .nilSl] 8 s006) <|
   oSeq (oStoreN 2 g006 g016 noPut) <|
   oSeq (oMv g017 s007) <|
   oSeq (oMv g020 s010) <|
   oMv g021 s011)) <|
  cSeq (cBlock 1 (cSeq (cReg 3 (
    oSeq (oMv g011 s023) <|
    oSeq (oP (vNeq g023 (kc (.int .i64 0))) s024) <|
    oMv g024 s022)) <|
   cCond g022
    (cSeq (cReg 4 (
     oSeq (oP (vBuild [(.bool false), .nilSl] []) s025) <|
     oSeq (oMv g011 s026) <|
     oSeq (oStoreN 2 g004 g025 noPut) <|
     oMv g026 s005)) <|
    cExit 0)
    (cSeq (cReg 2 (
     oSeq (oMv g007 s030) <|
     oMv g030 s027)) <|
    cCond g027
     (cSeq (cReg 3 (
      oSeq (oP (vBuild [(.bool false), .nilSl] []) s031) <|
      oSeq (oStoreN 2 g004 g031 noPut) <|
      oMv (kc (.int .i64 6)) s005)) <|
     cExit 0)
     (cSkip)))) <|
  cSeq (cReg 3 (
   oSeq (oLoadN 2 g006 s032) <|
   oSeq (oStoreN 2 g004 g032 noPut) <|
   oMv (kc (.int .i64 0)) s005)) <|
  cExit 0⟩
def afn132 : AFn := ⟨2, 38, [(4, (some (some 2))), (5, none), (6, none), (7, none)],
  .seq (.region [
   ⟨(some 2), .box 62 (.t 0), none⟩,
   ⟨(some 3), .box 62 (.t 1), none⟩,
   ⟨(some 4), .alloc 62 [(.bool false), .nilSl], none⟩,
   ⟨(some 5), .mv (.c (.bool false)), none⟩,
   ⟨(some 6), .mv (.c (.bool false)), none⟩,
   ⟨(some 7), .mv (.c (.int .i64 0)), none⟩]) <|
  .seq (.seq (.region [
   ⟨(some 10), .load (some 2) (.t 2), none⟩,
   ⟨(some 11), .load (some 2) (.t 3), none⟩,
   ⟨(some 12), .buildSlice 62 2 [(.bool false), .nilSl, (.bool false), .nilSl] 2 [((0, 2), (.t 10)), ((2, 2), (.t 11))], none⟩,
   ⟨(some 13), .call (.c (.fn (.func 124) [] [])) [(.t 12)], none⟩,
   ⟨(some 7), .mv (.t 13), none⟩]) <|
  .seq (.region [
   ⟨(some 14), .mv (.t 7), none⟩,
   ⟨(some 15), .bin .neq .int (.t 14) (.c (.int .i64 0)), none⟩]) <|
  .cond (.t 15)
   (.ret)
   (.skip)) <|
  .seq (.region [
   ⟨(some 17), .fieldAddr 1 (.t 2), none⟩,
   ⟨(some 18), .load none (.t 17), none⟩,
   ⟨(some 19), .fieldAddr 1 (.t 3), none⟩,
   ⟨(some 20), .load none (.t 19), none⟩,
   ⟨(some 21), .call (.c (.fn (.func 140) [] [])) [(.t 18), (.t 20)], none⟩,
   ⟨(some 16), .mv (.t 21), none⟩,
   ⟨(some 22), .extract 0 (.t 16), none⟩,
   ⟨(some 23), .extract 1 (.t 16), none⟩,
   ⟨(some 24), .extract 2 (.t 16), none⟩,
   ⟨(some 8), .mv (.t 22), none⟩,
   ⟨(some 9), .mv (.t 23), none⟩,
   ⟨(some 7), .mv (.t 24), none⟩]) <|
  .seq (.region [
   ⟨(some 25), .fieldAddr 0 (.t 2), none⟩,
   ⟨(some 26), .load none (.t 25), none⟩,
   ⟨(some 27), .fieldAddr 0 (.t 3), none⟩,
   ⟨(some 28), .load none (.t 27), none⟩,
   ⟨(some 29), .bin .neq .bool (.t 26) (.t 28), none⟩,
   ⟨(some 6), .mv (.t 29), none⟩]) <|
  .seq (.region [
   ⟨(some 30), .mv (.t 6), none⟩,
   ⟨(some 31), .mv (.t 8), none⟩,
   ⟨(some 32), .call (.c (.fn (.func 54) [] [])) [(.t 30), (.t 31)], none⟩,
   ⟨(some 33), .mv (.t 9), none⟩,
   ⟨(some 34), .len (.t 33), none⟩,
   ⟨(some 35), .bin .gtr .int (.t 34) (.c (.int .i64 0)), none⟩,
   ⟨(some 36), .mv (.t 6), none⟩,
   ⟨(some 37), .mv (.t 7), none⟩,
   ⟨none, .store 2 (.t 4) (.t 32), none⟩,
   ⟨(some 5), .mv (.t 35), none⟩,
   ⟨(some 6), .mv (.t 36), none⟩,
   ⟨(some 7), .mv (.t 37), none⟩]) <|
  .ret, none⟩
noncomputable def ffn132 : FFn := ⟨2, 38, [(4, (some (some 2))), (5, none), (6, none), (7, none)],
  cSeq (cReg 6 (
   oSeq (oBox 62 g000 0 s002) <|
   oSeq (oBox 62 g001 1 s003) <|
   oSeq (oAlloc 62 [(.bool false), .nilSl] 2 s004) <|
   oSeq (oMv (kc (.bool false)) s005) <|
   oSeq (oMv (kc (.bool false)) s006) <|
   oMv (kc (.int .i64 0)) s007)) <|
  cSeq (cSeq (cReg 5 (
   oSeq (oLoadN 2 g002 s012) <|
   oSeq (oLoadN 2 g003 s013) <|
   oSeq (oBuildSlice 62 2 [(.bool false), .nilSl, (.bool false), .nilSl] 2 [((0, 2), g012), ((2, 2), g013)] 2 s014) <|
   oSeq (oCallF 124 (fun T => [g014 T]) s015) <|
   oMv g015 s007)) <|
  cSeq (cReg 2 (
   oSeq (oMv g007 s016) <|
   oP (vNeq g016 (kc (.int .i64 0))) s017)) <|
  cCond g017
   (cExit 0)
   (cSkip)) <|
  cSeq (cReg 12 (
   oSeq (oP (vFA 1 g002) s021) <|
   oSeq (oLoad g021 s022) <|
   oSeq (oP (vFA 1 g003) s023) <|
   oSeq (oLoad g023 s024) <|
   oSeq (oCallF 140 (fun T => [g022 T, g024 T]) s025) <|
   oSeq (oMv g025 s020) <|
   oSeq (oP (vExt 0 g020) s026) <|
   oSeq (oP (vExt 1 g020) s027) <|
   oSeq (oP (vExt 2 g020) s030) <|
   oSeq (oMv g026 s010) <|
   oSeq (oMv g027 s011) <|
   oMv g030 s007)) <|
  cSeq (cReg 6 (
   oSeq (oP (vFA 0 g002) s031) <|
   oSeq (oLoad g031 s032) <|
   oSeq (oP (vFA 0 g003) s033) <|
   oSeq (oLoad g033 s034) <|
   oSeq (oGen (.bin .neq .bool (.t 26) (.t 28)) 4 s035) <|
   oMv g035 s006)) <|
  cSeq (cReg 12 (
   oSeq (oMv g006 s036) <|
   oSeq (oMv g010 s037) <|
   oSeq (oCallF 54 (fun T => [g036 T, g037 T]) s040) <|
   oSeq (oMv g011 s041) <|
   oSeq (oP (vLen g041) s042) <|
   oSeq (oP (vGtr g042 (kc (.int .i64 0))) s043) <|
   oSeq (oMv g006 s044) <|
   oSeq (oMv g007 s045) <|
   oSeq (oStoreN 2 g004 g040 noPut) <|
   oSeq (oMv g043 s005) <|
   oSeq (oMv g044 s006) <|
   oMv g045 s007)) <|
  cExit 0⟩
def afn67 : AFn := ⟨3, 81, [(6, none)],
  .seq (.region [
   ⟨(some 6), .mv (.c .nilSl), none⟩]) <|
  .seq (.region [
   ⟨(some 12), .mv (.t 0), none⟩,
   ⟨(some 13), .nilCheck (.t 12), none⟩,
   ⟨(some 14), .fieldAddr 0 (.t 13), none⟩,
   ⟨(some 15), .load none (.t 14), none⟩,
   ⟨(some 16), .mv (.t 2), none⟩,
   ⟨(some 17), .indexAddr 1 (.t 15) (.t 16), none⟩,
   ⟨(some 18), .load none (.t 17), none⟩,
   ⟨(some 6), .mv (.t 18), none⟩]) <|
  .seq (.region [
   ⟨(some 19), .mv (.t 1), none⟩,
   ⟨(some 20), .mv (.t 6), none⟩,
   ⟨(some 21), .call (.c (.fn (.func 65) [] [])) [(.t 19), (.t 20)], none⟩,
   ⟨(some 7), .alloc 62 [(.bool false), .nilSl], none⟩,
   ⟨none, .store 2 (.t 7) (.t 21), none⟩]) <|
  .seq (.seq (.region [
   ⟨(some 22), .fieldAddr 0 (.t 7), none⟩,
   ⟨(some 23), .load none (.t 22), none⟩]) <|
  .cond (.t 23)
   (.seq (.region [
    ⟨(some 25), .mv (.t 6), none⟩,
    ⟨(some 26), .call (.c (.fn (.func 31) [] [])) [(.c (.int .i64 (-1)))], none⟩,
    ⟨(some 27), .call (.c (.fn (.func 84) [] [])) [(.t 25), (.t 26)], none⟩,
    ⟨(some 24), .mv (.t 27), none⟩,
    ⟨(some 28), .extract 0 (.t 24), none⟩,
    ⟨(some 29), .extract 1 (.t 24), none⟩,
    ⟨(some 6), .mv (.t 28), none⟩]) <|
   .region [
    ⟨(some 30), .load (some 2) (.t 7), none⟩,
    ⟨(some 31), .call (.c (.fn (.func 83) [] [])) [(.t 30)], none⟩,
    ⟨none, .store 2 (.t 7) (.t 31), none⟩])
   (.skip)) <|
  .seq (.region [
   ⟨(some 32), .mv (.t 0), none⟩,
   ⟨(some 33), .mv (.t 0), none⟩,
   ⟨(some 34), .nilCheck (.t 33), none⟩,
   ⟨(some 35), .fieldAddr 0 (.t 34), none⟩,
   ⟨(some 36), .load none (.t 35), none⟩,
   ⟨(some 37), .call (.c (.fn (.func 86) [] [])) [(.t 36)], none⟩,
   ⟨(some 38), .mv (.t 2), none⟩,
   ⟨(some 39), .mv (.t 2), none⟩,
   ⟨(some 40), .bin .add .int (.t 39) (.c (.int .i64 1)), none⟩,
   ⟨(some 41), .call (.c (.fn (.func 85) [] [])) [(.t 37), (.t 38), (.t 40)], none⟩,
   ⟨(some 42), .nilCheck (.t 32), none⟩,
   ⟨(some 43), .fieldAddr 0 (.t 42), none⟩,
   ⟨none, .store 1 (.t 43) (.t 41), none⟩]) <|
  .seq (.seq (.draw [
   ⟨(some 44), .mv (.t 0), none, [(0, none)], 0, [(0, [])]⟩,
   ⟨(some 45), .nilCheck (.t 44), none, [(44, (some 0))], 0, [(0, [])]⟩,
   ⟨(some 46), .fieldAddr 0 (.t 45), none, [(45, (some 1))], 0, [(0, [])]⟩,
   ⟨(some 47), .mv (.t 0), none, [(0, none)], 0, [(0, [])]⟩,
   ⟨(some 48), .nilCheck (.t 47), none, [(47, (some 3))], 0, [(0, [])]⟩,
   ⟨(some 49), .fieldAddr 1 (.t 48), none, [(48, (some 4))], 0, [(0, [])]⟩,
   ⟨(some 50), .buildSlice 128 1 [.nilPtr, .nilPtr] 2 [((0, 1), (.t 46)), ((1, 1), (.t 49))], none, [(46, (some 2)), (49, (some 5))], 1, [(0, [])]⟩,
   ⟨(some 51), .len (.t 50), none, [(50, (some 6))], 0, [(0, [6])]⟩,
   ⟨(some 52), .mv (.c (.int .i64 0)), none, [], 0, [(0, [])]⟩] [6]) <|
  .block 0 (.loop (.seq (.region [
     ⟨(some 53), .bin .lss .int (.t 52) (.t 51), none⟩]) <|
    .seq (.cond (.t 53)
     (.skip)
     (.exit 0)) <|
    .seq (.block 1 (.seq (.region [
      ⟨(some 54), .indexAddr 1 (.t 50) (.t 52), none⟩,
      ⟨(some 55), .load none (.t 54), none⟩,
      ⟨(some 9), .mv (.t 55), none⟩]) <|
     .seq (.region [
      ⟨(some 56), .mv (.t 9), none⟩,
      ⟨(some 57), .nilCheck (.t 56), none⟩,
      ⟨(some 58), .load none (.t 57), none⟩,
      ⟨(some 59), .len (.t 58), none⟩,
      ⟨(some 60), .mv (.c (.int .i64 0)), none⟩]) <|
     .block 2 (.loop (.seq (.region [
        ⟨(some 61), .bin .lss .int (.t 60) (.t 59), none⟩]) <|
       .seq (.cond (.t 61)
        (.skip)
        (.exit 2)) <|
       .seq (.block 3 (.seq (.region [
         ⟨(some 62), .mv (.t 60), none⟩,
         ⟨(some 63), .indexAddr 1 (.t 58) (.t 60), none⟩,
         ⟨(some 64), .load none (.t 63), none⟩,
         ⟨(some 10), .mv (.t 62), none⟩,
         ⟨(some 11), .mv (.t 64), none⟩]) <|
        .draw [
         ⟨(some 65), .mv (.t 9), none, [(9, none)], 0, [(0, []), (1, []), (2, []), (3, [])]⟩,
         ⟨(some 66), .nilCheck (.t 65), none, [(65, (some 0))], 0, [(0, []), (1, []), (2, []), (3, [])]⟩,
         ⟨(some 67), .load none (.t 66), none, [(66, (some 1))], 0, [(0, []), (1, []), (2, []), (3, [])]⟩,
         ⟨(some 68), .mv (.t 10), none, [(10, none)], 0, [(0, []), (1, []), (2, []), (3, [])]⟩,
         ⟨(some 69), .load (some 2) (.t 7), none, [(7, none)], 0, [(0, []), (1, []), (2, [])]⟩,
         ⟨(some 70), .mv (.t 11), none, [(11, none)], 0, [(0, []), (1, []), (2, [])]⟩,
         ⟨(some 71), .mv (.t 1), none, [(1, none)], 0, [(0, [])]⟩,
         ⟨(some 72), .mv (.t 11), none, [(11, none)], 0, [(0, [])]⟩,
         ⟨(some 73), .call (.c (.fn (.func 65) [] [])) [(.t 71), (.t 72)], none, [(71, (some 6)), (72, (some 7))], 2, [(0, [])]⟩,
         ⟨(some 74), .call (.c (.fn (.func 83) [] [])) [(.t 73)], none, [(73, (some 8))], 2, [(1, [])]⟩,
         ⟨(some 75), .mv (.t 6), none, [(6, none)], 0, [(0, []), (1, []), (2, [])]⟩,
         ⟨(some 76), .call (.c (.fn (.func 82) [] [])) [(.t 69), (.t 70), (.t 74), (.t 75)], none, [(69, (some 4)), (70, (some 5)), (74, (some 9)), (75, (some 10))], 2, [(2, [])]⟩,
         ⟨(some 77), .indexAddr 1 (.t 67) (.t 68), none, [(67, (some 2)), (68, (some 3))], 0, [(3, [])]⟩,
         ⟨none, .store 1 (.t 77) (.t 76), none, [(77, (some 12)), (76, (some 11))], 2, [(3, [])]⟩] [])) <|
       .region [
        ⟨(some 78), .bin .add .int (.t 60) (.c (.int .i64 1)), none⟩,
        ⟨(some 60), .mv (.t 78), none⟩])))) <|
    .region [
     ⟨(some 79), .bin .add .int (.t 52) (.c (.int .i64 1)), none⟩,
     ⟨(some 52), .mv (.t 79), none⟩]))) <|
  .seq (.region [
   ⟨(some 80), .mv (.t 6), none⟩,
   ⟨(some 6), .mv (.t 80), none⟩]) <|
  .ret, none⟩
noncomputable def ffn67 : FFn := ⟨3, 81, [(6, none)],
  cSeq (cReg 1 (
   oMv (kc .nilSl) s006)) <|
  cSeq (cReg 8 (
   oSeq (oMv g000 s014) <|
   oSeq (oGen (.nilCheck (.t 12)) 1 s015) <|
   oSeq (oP (vFA 0 g015) s016) <|
   oSeq (oLoad g016 s017) <|
   oSeq (oMv g002 s020) <|
   oSeq (oP (vIdx 1 g017 g020) s021) <|
   oSeq (oLoad g021 s022) <|
   oMv g022 s006)) <|
  cSeq (cReg 5 (
   oSeq (oMv g001 s023) <|
   oSeq (oMv g006 s024) <|
   oSeq (oCallF 65 (fun T => [g023 T, g024 T]) s025) <|
   oSeq (oAlloc 62 [(.bool false), .nilSl] 3 s007) <|
   oStoreN 2 g007 g025 noPut)) <|
  cSeq (cSeq (cReg 2 (
   oSeq (oP (vFA 0 g007) s026) <|
   oLoad g026 s027)) <|
  cCond g027
   (cSeq (cReg 7 (
    oSeq (oMv g006 s031) <|
    oSeq (oCallF 31 (fun T => [(.int .i64 (-1))]) s032) <|
    oSeq (oCallF 84 (fun T => [g031 T, g032 T]) s033) <|
    oSeq (oMv g033 s030) <|
    oSeq (oP (vExt 0 g030) s034) <|
    oSeq (oP (vExt 1 g030) s035) <|
    oMv g034 s006)) <|
   cReg 3 (
    oSeq (oLoadN 2 g007 s036) <|
    oSeq (oCallF 83 (fun T => [g036 T]) s037) <|
    oStoreN 2 g007 g037 noPut))
   (cSkip)) <|
  cSeq (cReg 13 (
   oSeq (oMv g000 s040) <|
   oSeq (oMv g000 s041) <|
   oSeq (oGen (.nilCheck (.t 33)) 2 s042) <|
   oSeq (oP (vFA 0 g042) s043) <|
   oSeq (oLoad g043 s044) <|
   oSeq (oCallF 86 (fun T => [g044 T]) s045) <|
   oSeq (oMv g002 s046) <|
   oSeq (oMv g002 s047) <|
   oSeq (oP (vAdd g047 (kc (.int .i64 1))) s050) <|
   oSeq (oCallF 85 (fun T => [g045 T, g046 T, g050 T]) s051) <|
   oSeq (oGen (.nilCheck (.t 32)) 10 s052) <|
   oSeq (oP (vFA 0 g052) s053) <|
   oStore g053 g051 noPut)) <|
  cSeq (cSeq (cDrw 9 (
   dSeq (dLook 0 [] (oMv g000 s054)) <|
   dSeq (dLook 0 [] (oGen (.nilCheck (.t 44)) 1 s055)) <|
   dSeq (dLook 0 [] (oP (vFA 0 g055) s056)) <|
   dSeq (dLook 0 [] (oMv g000 s057)) <|
   dSeq (dLook 0 [] (oGen (.nilCheck (.t 47)) 4 s060)) <|
   dSeq (dLook 0 [] (oP (vFA 1 g060) s061)) <|
   dSeq (dMake 6 (oBuildSlice 128 1 [.nilPtr, .nilPtr] 2 [((0, 1), g056), ((1, 1), g061)] 6 s062)) <|
   dSeq (dLook 0 [] (oP (vLen g062) s063)) <|
   dSeq (dLook 0 [] (oMv (kc (.int .i64 0)) s064)) <|
   dNop)
   (ckNop) [(6, 2)]) <|
  cBlock 1 (cLoop 1000000 (cSeq (cReg 1 (
     oP (vLss g064 g063) s065)) <|
    cSeq (cCond g065
     (cSkip)
     (cExit 1)) <|
    cSeq (cBlock 3 (cSeq (cReg 3 (
      oSeq (oP (vIdx 1 g062 g064) s066) <|
      oSeq (oLoad g066 s067) <|
      oMv g067 s011)) <|
     cSeq (cReg 5 (
      oSeq (oMv g011 s070) <|
      oSeq (oGen (.nilCheck (.t 56)) 1 s071) <|
      oSeq (oLoad g071 s072) <|
      oSeq (oP (vLen g072) s073) <|
      oMv (kc (.int .i64 0)) s074)) <|
     cBlock 5 (cLoop 1000000 (cSeq (cReg 1 (
        oP (vLss g074 g073) s075)) <|
       cSeq (cCond g075
        (cSkip)
        (cExit 5)) <|
       cSeq (cBlock 7 (cSeq (cReg 5 (
         oSeq (oMv g074 s076) <|
         oSeq (oP (vIdx 1 g072 g074) s077) <|
         oSeq (oLoad g077 s100) <|
         oSeq (oMv g076 s012) <|
         oMv g100 s013)) <|
        cDrw 14 (
         dSeq (dLook 0 [] (oMv g011 s101)) <|
         dSeq (dLook 0 [] (oGen (.nilCheck (.t 65)) 1 s102)) <|
         dSeq (dLook 0 [] (oLoad g102 s103)) <|
         dSeq (dLook 0 [] (oMv g012 s104)) <|
         dSeq (dLook 0 [] (oLoadN 2 g007 s105)) <|
         dSeq (dLook 0 [] (oMv g013 s106)) <|
         dSeq (dLook 0 [] (oMv g001 s107)) <|
         dSeq (dLook 0 [] (oMv g013 s110)) <|
         dSeq (dAct 0 [] (oCallF 65 (fun T => [g107 T, g110 T]) s111)) <|
         dSeq (dAct 0 [] (oCallF 83 (fun T => [g111 T]) s112)) <|
         dSeq (dLook 0 [] (oMv g006 s113)) <|
         dSeq (dAct 0 [] (oCallF 82 (fun T => [g105 T, g106 T, g112 T, g113 T]) s114)) <|
         dSeq (dLook 0 [] (oP (vIdx 1 g103 g104) s115)) <|
         dSeq (dAct 0 [] (oStore g115 g114 noPut)) <|
         dNop)
         (ckSeq (ckOne g103 3 [] (oLoad g102 s103)) <|
        ckSeq (ckOne g103 2 [] (oLoad g102 s103)) <|
        ckSeq (ckOne g103 1 [] (oLoad g102 s103)) <|
        ckSeq (ckOne g105 3 [] (oLoadN 2 g007 s105)) <|
        ckSeq (ckOne g105 2 [] (oLoadN 2 g007 s105)) <|
        ckNop) [])) <|
       cReg 2 (
        oSeq (oP (vAdd g074 (kc (.int .i64 1))) s116) <|
        oMv g116 s074))))) <|
    cReg 2 (
     oSeq (oP (vAdd g064 (kc (.int .i64 1))) s117) <|
     oMv g117 s064)))) <|
  cSeq (cReg 2 (
   oSeq (oMv g006 s120) <|
   oMv g120 s006)) <|
  cExit 0⟩
def afn84 : AFn := ⟨2, 18, [(4, none), (5, none)],
  .seq (.region [
   ⟨(some 3), .box 62 (.t 1), none⟩,
   ⟨(some 4), .mv (.c .nilSl), none⟩,
   ⟨(some 5), .mv (.c (.int .i64 0)), none⟩]) <|
  .seq (.seq (.region [
   ⟨(some 6), .mv (.t 0), none⟩,
   ⟨(some 7), .buildSlice 27 1 [.nilSl] 1 [((0, 1), (.t 6))], none⟩,
   ⟨(some 8), .call (.c (.fn (.func 73) [] [])) [(.t 7)], none⟩,
   ⟨(some 9), .bin .neq .int (.t 8) (.c (.int .i64 0)), none⟩,
   ⟨(some 10), .mv (.t 9), none⟩,
   ⟨(some 11), .load (some 2) (.t 3), (some (10, false))⟩,
   ⟨(some 12), .call (.c (.fn (.func 41) [] [])) [(.t 11)], (some (10, false))⟩,
   ⟨(some 13), .bin .neq .int (.t 12) (.c (.int .i64 0)), (some (10, false))⟩,
   ⟨(some 14), .pick (.t 10) (.c (.bool true)) (.t 13), none⟩]) <|
  .cond (.t 14)
   (.seq (.region [
    ⟨(some 4), .mv (.c .nilSl), none⟩,
    ⟨(some 5), .mv (.c (.int .i64 8)), none⟩]) <|
   .ret)
   (.skip)) <|
  .seq (.region [
   ⟨(some 15), .mv (.t 0), none⟩,
   ⟨(some 16), .mkfn (.func 112) [] [(.t 3)], none⟩,
   ⟨(some 17), .call (.c (.fn (.func 88) [] [])) [(.t 15), (.t 16)], none⟩,
   ⟨(some 4), .mv (.t 17), none⟩,
   ⟨(some 5), .mv (.c (.int .i64 0)), none⟩]) <|
  .ret, none⟩
noncomputable def ffn84 : FFn := ⟨2, 18, [(4, none), (5, none)],
  cSeq (cReg 3 (
   oSeq (oBox 62 g001 0 s003) <|
   oSeq (oMv (kc .nilSl) s004) <|
   oMv (kc (.int .i64 0)) s005)) <|
  cSeq (cSeq (cReg 9 (
   oSeq (oMv g000 s006) <|
   oSeq (oBuildSlice 27 1 [.nilSl] 1 [((0, 1), g006)] 1 s007) <|
   oSeq (oCallF 73 (fun T => [g007 T]) s010) <|
   oSeq (oP (vNeq g010 (kc (.int .i64 0))) s011) <|
   oSeq (oMv g011 s012) <|
   oSeq (oGuard g012 false s013 (oLoadN 2 g003 s013)) <|
   oSeq (oGuard g012 false s014 (oCallF 41 (fun T => [g013 T]) s014)) <|
   oSeq (oGuard g012 false s015 (oP (vNeq g014 (kc (.int .i64 0))) s015)) <|
   oP (vPick g012 (kc (.bool true)) g015) s016)) <|
  cCond g016
   (cSeq (cReg 2 (
    oSeq (oMv (kc .nilSl) s004) <|
    oMv (kc (.int .i64 8)) s005)) <|
   cExit 0)
   (cSkip)) <|
  cSeq (cReg 5 (
   oSeq (oMv g000 s017) <|
   oSeq (oGen (.mkfn (.func 112) [] [(.t 3)]) 1 s020) <|
   oSeq (oCallF 88 (fun T => [g017 T, g020 T]) s021) <|
   oSeq (oMv g021 s004) <|
   oMv (kc (.int .i64 0)) s005)) <|
  cExit 0⟩
def afn112 : AFn := ⟨3, 9, [(5, (some (some 2)))],
  .seq (.region [
   ⟨(some 4), .box 62 (.t 1), none⟩,
   ⟨(some 5), .alloc 62 [(.bool false), .nilSl], none⟩]) <|
  .seq (.region [
   ⟨(some 6), .load (some 2) (.t 4), none⟩,
   ⟨(some 7), .load (some 2) (.t 2), none⟩,
   ⟨(some 8), .call (.c (.fn (.func 107) [] [])) [(.t 6), (.t 7)], none⟩,
   ⟨none, .store 2 (.t 5) (.t 8), none⟩]) <|
  .ret, none⟩
noncomputable def ffn112 : FFn := ⟨3, 9, [(5, (some (some 2)))],
  cSeq (cReg 2 (
   oSeq (oBox 62 g001 0 s004) <|
   oAlloc 62 [(.bool false), .nilSl] 1 s005)) <|
  cSeq (cReg 4 (
   oSeq (oLoadN 2 g004 s006) <|
   oSeq (oLoadN 2 g002 s007) <|
   oSeq (oCallF 107 (fun T => [g006 T, g007 T]) s010) <|
   oStoreN 2 g005 g010 noPut)) <|
  cExit 0⟩
def afn86 : AFn := ⟨1, 8, [(2, none)],
  .seq (.region [
   ⟨(some 2), .mv (.c .nilSl), none⟩]) <|
  .seq (.seq (.region [
   ⟨(some 3), .mv (.t 0), none⟩,
   ⟨(some 4), .bin .eql .sl (.t 3) (.c .nilSl), none⟩]) <|
  .cond (.t 4)
   (.seq (.region [
    ⟨(some 2), .mv (.c .nilSl), none⟩]) <|
   .ret)
   (.skip)) <|
  .seq (.region [
   ⟨(some 5), .buildSlice 27 1 [] 0 [], none⟩,
   ⟨(some 6), .mv (.t 0), none⟩,
   ⟨(some 7), .append 1 24 27 [.nilSl] (.t 5) (.t 6), none⟩,
   ⟨(some 2), .mv (.t 7), none⟩]) <|
  .ret, none⟩
noncomputable def ffn86 : FFn := ⟨1, 8, [(2, none)],
  cSeq (cReg 1 (
   oMv (kc .nilSl) s002)) <|
  cSeq (cSeq (cReg 2 (
   oSeq (oMv g000 s003) <|
   oGen (.bin .eql .sl (.t 3) (.c .nilSl)) 1 s004)) <|
  cCond g004
   (cSeq (cReg 1 (
    oMv (kc .nilSl) s002)) <|
   cExit 0)
   (cSkip)) <|
  cSeq (cReg 4 (
   oSeq (oBuildSlice 27 1 [] 0 [] 0 s005) <|
   oSeq (oMv g000 s006) <|
   oSeq (oGen (.append 1 24 27 [.nilSl] (.t 5) (.t 6)) 2 s007) <|
   oMv g007 s002)) <|
  cExit 0⟩
def afn85 : AFn := ⟨3, 33, [(6, none)],
  .seq (.region [
   ⟨(some 6), .mv (.c .nilSl), none⟩]) <|
  .seq (.region [
   ⟨(some 8), .mv (.t 0), none⟩,
   ⟨(some 9), .mv (.t 1), none⟩,
   ⟨(some 10), .mv (.t 2), none⟩,
   ⟨(some 11), .mv (.t 0), none⟩,
   ⟨(some 12), .len (.t 11), none⟩,
   ⟨(some 13), .slice 1 (.t 8) (some (.t 9)) (some (.t 10)) (some (.t 12)), none⟩]) <|
  .seq (.seq (.region [
   ⟨(some 14), .mv (.t 1), none⟩,
   ⟨(some 15), .mv (.t 2), none⟩,
   ⟨(some 16), .bin .eql .int (.t 14) (.t 15), none⟩]) <|
  .cond (.t 16)
   (.seq (.region [
    ⟨(some 17), .mv (.t 0), none⟩,
    ⟨(some 6), .mv (.t 17), none⟩]) <|
   .ret)
   (.skip)) <|
  .seq (.region [
   ⟨(some 18), .mv (.t 0), none⟩,
   ⟨(some 19), .len (.t 18), none⟩,
   ⟨(some 7), .mv (.t 19), none⟩]) <|
  .seq (.draw [
   ⟨(some 20), .mv (.t 0), none, [(0, none)], 0, [(0, [])]⟩,
   ⟨(some 21), .mv (.t 1), none, [(1, none)], 0, [(0, [])]⟩,
   ⟨(some 22), .slice 1 (.t 20) none (some (.t 21)) none, none, [(20, (some 0)), (21, (some 1))], 0, [(0, [])]⟩,
   ⟨(some 23), .mv (.t 0), none, [(0, none)], 0, [(0, [])]⟩,
   ⟨(some 24), .mv (.t 2), none, [(2, none)], 0, [(0, [])]⟩,
   ⟨(some 25), .slice 1 (.t 23) (some (.t 24)) none none, none, [(23, (some 3)), (24, (some 4))], 0, [(0, [])]⟩,
   ⟨(some 26), .append 1 24 27 [.nilSl] (.t 22) (.t 25), none, [(22, (some 2)), (25, (some 5))], 2, [(0, [])]⟩,
   ⟨(some 0), .mv (.t 26), none, [(26, (some 6))], 0, [(1, [])]⟩] []) <|
  .seq (.region [
   ⟨(some 27), .mv (.t 0), none⟩,
   ⟨(some 28), .mv (.t 0), none⟩,
   ⟨(some 29), .len (.t 28), none⟩,
   ⟨(some 30), .mv (.t 7), none⟩,
   ⟨(some 31), .slice 1 (.t 27) (some (.t 29)) (some (.t 30)) none, none⟩,
   ⟨none, .clear 1 [.nilSl] (.t 31), none⟩]) <|
  .seq (.region [
   ⟨(some 32), .mv (.t 0), none⟩,
   ⟨(some 6), .mv (.t 32), none⟩]) <|
  .ret, none⟩
noncomputable def ffn85 : FFn := ⟨3, 33, [(6, none)],
  cSeq (cReg 1 (
   oMv (kc .nilSl) s006)) <|
  cSeq (cReg 6 (
   oSeq (oMv g000 s010) <|
   oSeq (oMv g001 s011) <|
   oSeq (oMv g002 s012) <|
   oSeq (oMv g000 s013) <|
   oSeq (oP (vLen g013) s014) <|
   oGen (.slice 1 (.t 8) (some (.t 9)) (some (.t 10)) (some (.t 12))) 5 s015)) <|
  cSeq (cSeq (cReg 3 (
   oSeq (oMv g001 s016) <|
   oSeq (oMv g002 s017) <|
   oP (vEql g016 g017) s020)) <|
  cCond g020
   (cSeq (cReg 2 (
    oSeq (oMv g000 s021) <|
    oMv g021 s006)) <|
   cExit 0)
   (cSkip)) <|
  cSeq (cReg 3 (
   oSeq (oMv g000 s022) <|
   oSeq (oP (vLen g022) s023) <|
   oMv g023 s007)) <|
  cSeq (cDrw 8 (
   dSeq (dLook 0 [] (oMv g000 s024)) <|
   dSeq (dLook 0 [] (oMv g001 s025)) <|
   dSeq (dLook 0 [] (oGen (.slice 1 (.t 20) none (some (.t 21)) none) 2 s026)) <|
   dSeq (dLook 0 [] (oMv g000 s027)) <|
   dSeq (dLook 0 [] (oMv g002 s030)) <|
   dSeq (dLook 0 [] (oGen (.slice 1 (.t 23) (some (.t 24)) none none) 5 s031)) <|
   dSeq (dAct 0 [] (oGen (.append 1 24 27 [.nilSl] (.t 22) (.t 25)) 6 s032)) <|
   dSeq (dLook 0 [] (oMv g032 s000)) <|
   dNop)
   (ckNop) []) <|
  cSeq (cReg 6 (
   oSeq (oMv g000 s033) <|
   oSeq (oMv g000 s034) <|
   oSeq (oP (vLen g034) s035) <|
   oSeq (oMv g007 s036) <|
   oSeq (oGen (.slice 1 (.t 27) (some (.t 29)) (some (.t 30)) none) 4 s037) <|
   oGen (.clear 1 [.nilSl] (.t 31)) 5 noPut)) <|
  cSeq (cReg 2 (
   oSeq (oMv g000 s040) <|
   oMv g040 s006)) <|
  cExit 0⟩
def afn47 : AFn := ⟨1, 15, [(2, none), (3, none)],
  .seq (.region [
   ⟨(some 2), .mv (.c .nilSl), none⟩,
   ⟨(some 3), .mv (.c (.int .i64 0)), none⟩]) <|
  .seq (.seq (.region [
   ⟨(some 5), .mv (.t 0), none⟩,
   ⟨(some 6), .call (.c (.fn (.func 62) [] [])) [(.t 5)], none⟩,
   ⟨(some 4), .mv (.t 6), none⟩]) <|
  .seq (.region [
   ⟨(some 7), .mv (.t 4), none⟩,
   ⟨(some 8), .bin .neq .int (.t 7) (.c (.int .i64 0)), none⟩]) <|
  .cond (.t 8)
   (.seq (.region [
    ⟨(some 9), .mv (.t 4), none⟩,
    ⟨(some 2), .mv (.c .nilSl), none⟩,
    ⟨(some 3), .mv (.t 9), none⟩]) <|
   .ret)
   (.skip)) <|
  .seq (.region [
   ⟨(some 10), .mv (.t 0), none⟩,
   ⟨(some 11), .call (.c (.fn (.func 68) [] [])) [(.t 10)], none⟩,
   ⟨(some 12), .nilCheck (.t 11), none⟩,
   ⟨(some 13), .fieldAddr 0 (.t 12), none⟩,
   ⟨(some 14), .load none (.t 13), none⟩,
   ⟨(some 2), .mv (.t 14), none⟩,
   ⟨(some 3), .mv (.c (.int .i64 0)), none⟩]) <|
  .ret, none⟩
noncomputable def ffn47 : FFn := ⟨1, 15, [(2, none), (3, none)],
  cSeq (cReg 2 (
   oSeq (oMv (kc .nilSl) s002) <|
   oMv (kc (.int .i64 0)) s003)) <|
  cSeq (cSeq (cReg 3 (
   oSeq (oMv g000 s005) <|
   oSeq (oCallF 62 (fun T => [g005 T]) s006) <|
   oMv g006 s004)) <|
  cSeq (cReg 2 (
   oSeq (oMv g004 s007) <|
   oP (vNeq g007 (kc (.int .i64 0))) s010)) <|
  cCond g010
   (cSeq (cReg 3 (
    oSeq (oMv g004 s011) <|
    oSeq (oMv (kc .nilSl) s002) <|
    oMv g011 s003)) <|
   cExit 0)
   (cSkip)) <|
  cSeq (cReg 7 (
   oSeq (oMv g000 s012) <|
   oSeq (oCallF 68 (fun T => [g012 T]) s013) <|
   oSeq (oGen (.nilCheck (.t 11)) 2 s014) <|
   oSeq (oP (vFA 0 g014) s015) <|
   oSeq (oLoad g015 s016) <|
   oSeq (oMv g016 s002) <|
   oMv (kc (.int .i64 0)) s003)) <|
  cExit 0⟩
def afn68 : AFn := ⟨1, 22, [(2, none)],
  .seq (.region [
   ⟨(some 2), .mv (.c .nilPtr), none⟩]) <|
  .seq (.region [
   ⟨(some 7), .build [.nilSl] [], none⟩,
   ⟨(some 8), .box 104 (.t 7), none⟩,
   ⟨(some 3), .mv (.t 8), none⟩]) <|
  .seq (.region [
   ⟨(some 9), .mv (.t 3), none⟩,
   ⟨(some 10), .mkfn (.func 87) [(.t 9)] [], none⟩,
   ⟨(some 4), .mv (.t 10), none⟩]) <|
  .seq (.seq (.region [
   ⟨(some 11), .mv (.t 0), none⟩,
   ⟨(some 12), .len (.t 11), none⟩,
   ⟨(some 13), .mv (.c (.int .i64 0)), none⟩]) <|
  .block 0 (.loop (.seq (.region [
     ⟨(some 14), .bin .lss .int (.t 13) (.t 12), none⟩]) <|
    .seq (.cond (.t 14)
     (.skip)
     (.exit 0)) <|
    .seq (.block 1 (.seq (.region [
      ⟨(some 15), .indexAddr 1 (.t 11) (.t 13), none⟩,
      ⟨(some 16), .load none (.t 15), none⟩,
      ⟨(some 6), .mv (.t 16), none⟩]) <|
     .region [
      ⟨(some 17), .mv (.t 4), none⟩,
      ⟨(some 18), .mv (.t 6), none⟩,
      ⟨(some 19), .call (.t 17) [(.t 18)], none⟩])) <|
    .region [
     ⟨(some 20), .bin .add .int (.t 13) (.c (.int .i64 1)), none⟩,
     ⟨(some 13), .mv (.t 20), none⟩]))) <|
  .seq (.region [
   ⟨(some 21), .mv (.t 3), none⟩,
   ⟨(some 2), .mv (.t 21), none⟩]) <|
  .ret, none⟩
noncomputable def ffn68 : FFn := ⟨1, 22, [(2, none)],
  cSeq (cReg 1 (
   oMv (kc .nilPtr) s002)) <|
  cSeq (cReg 3 (
   oSeq (oP (vBuild [.nilSl] []) s007) <|
   oSeq (oBox 104 g007 1 s010) <|
   oMv g010 s003)) <|
  cSeq (cReg 3 (
   oSeq (oMv g003 s011) <|
   oSeq (oGen (.mkfn (.func 87) [(.t 9)] []) 1 s012) <|
   oMv g012 s004)) <|
  cSeq (cSeq (cReg 3 (
   oSeq (oMv g000 s013) <|
   oSeq (oP (vLen g013) s014) <|
   oMv (kc (.int .i64 0)) s015)) <|
  cBlock 1 (cLoop 1000000 (cSeq (cReg 1 (
     oP (vLss g015 g014) s016)) <|
    cSeq (cCond g016
     (cSkip)
     (cExit 1)) <|
    cSeq (cBlock 3 (cSeq (cReg 3 (
      oSeq (oP (vIdx 1 g013 g015) s017) <|
      oSeq (oLoad g017 s020) <|
      oMv g020 s006)) <|
     cReg 3 (
      oSeq (oMv g004 s021) <|
      oSeq (oMv g006 s022) <|
      oCall g021 (fun T => [g022 T]) s023))) <|
    cReg 2 (
     oSeq (oP (vAdd g015 (kc (.int .i64 1))) s024) <|
     oMv g024 s015)))) <|
  cSeq (cReg 2 (
   oSeq (oMv g003 s025) <|
   oMv g025 s002)) <|
  cExit 0⟩
def afn87 : AFn := ⟨2, 79, [],
  .seq (.region [
   ⟨(some 8), .mv (.t 0), none⟩,
   ⟨(some 9), .mv (.t 1), none⟩,
   ⟨(some 10), .call (.c (.fn (.func 70) [] [])) [(.t 8), (.t 9)], none⟩,
   ⟨(some 1), .mv (.t 10), none⟩]) <|
  .seq (.region [
   ⟨(some 11), .mv (.t 1), none⟩,
   ⟨(some 12), .call (.c (.fn (.func 93) [] [])) [(.t 11)], none⟩,
   ⟨(some 4), .mv (.t 12), none⟩]) <|
  .seq (.seq (.region [
   ⟨(some 13), .mv (.t 4), none⟩,
   ⟨(some 14), .bin .lss .int (.t 13) (.c (.int .i64 0)), none⟩]) <|
  .cond (.t 14)
   (.ret)
   (.skip)) <|
  .seq (.seq (.region [
   ⟨(some 15), .mv (.t 1), none⟩,
   ⟨(some 16), .mv (.t 4), none⟩,
   ⟨(some 17), .indexAddr 2 (.t 15) (.t 16), none⟩,
   ⟨(some 18), .fieldAddr 0 (.t 17), none⟩,
   ⟨(some 19), .load none (.t 18), none⟩]) <|
  .cond (.t 19)
   (.region [
    ⟨(some 21), .mv (.t 1), none⟩,
    ⟨(some 22), .call (.c (.fn (.func 31) [] [])) [(.c (.int .i64 (-1)))], none⟩,
    ⟨(some 23), .call (.c (.fn (.func 84) [] [])) [(.t 21), (.t 22)], none⟩,
    ⟨(some 20), .mv (.t 23), none⟩,
    ⟨(some 24), .extract 0 (.t 20), none⟩,
    ⟨(some 25), .extract 1 (.t 20), none⟩,
    ⟨(some 1), .mv (.t 24), none⟩])
   (.skip)) <|
  .seq (.seq (.region [
   ⟨(some 26), .mv (.t 0), none⟩,
   ⟨(some 27), .nilCheck (.t 26), none⟩,
   ⟨(some 28), .fieldAddr 0 (.t 27), none⟩,
   ⟨(some 29), .load none (.t 28), none⟩,
   ⟨(some 30), .len (.t 29), none⟩,
   ⟨(some 31), .mv (.c (.int .i64 0)), none⟩]) <|
  .block 0 (.loop (.seq (.region [
     ⟨(some 32), .bin .lss .int (.t 31) (.t 30), none⟩]) <|
    .seq (.cond (.t 32)
     (.skip)
     (.exit 0)) <|
    .seq (.block 1 (.seq (.region [
      ⟨(some 33), .mv (.t 31), none⟩,
      ⟨(some 34), .indexAddr 1 (.t 29) (.t 31), none⟩,
      ⟨(some 35), .load none (.t 34), none⟩,
      ⟨(some 5), .mv (.t 33), none⟩,
      ⟨(some 6), .mv (.t 35), none⟩]) <|
     .draw [
      ⟨(some 36), .mv (.t 0), none, [(0, none)], 0, [(0, []), (1, [])]⟩,
      ⟨(some 37), .nilCheck (.t 36), none, [(36, (some 0))], 0, [(0, []), (1, [])]⟩,
      ⟨(some 38), .fieldAddr 0 (.t 37), none, [(37, (some 1))], 0, [(0, []), (1, [])]⟩,
      ⟨(some 39), .load none (.t 38), none, [(38, (some 2))], 0, [(0, []), (1, [])]⟩,
      ⟨(some 40), .mv (.t 5), none, [(5, none)], 0, [(0, []), (1, [])]⟩,
      ⟨(some 41), .mv (.t 6), none, [(6, none)], 0, [(0, [])]⟩,
      ⟨(some 42), .mv (.t 1), none, [(1, none)], 0, [(0, [])]⟩,
      ⟨(some 43), .mv (.t 4), none, [(4, none)], 0, [(0, [])]⟩,
      ⟨(some 44), .call (.c (.fn (.func 92) [] [])) [(.t 41), (.t 42), (.t 43)], none, [(41, (some 5)), (42, (some 6)), (43, (some 7))], 2, [(0, [])]⟩,
      ⟨(some 45), .indexAddr 1 (.t 39) (.t 40), none, [(39, (some 3)), (40, (some 4))], 0, [(1, [])]⟩,
      ⟨none, .store 1 (.t 45) (.t 44), none, [(45, (some 9)), (44, (some 8))], 2, [(1, [])]⟩] [])) <|
    .region [
     ⟨(some 46), .bin .add .int (.t 31) (.c (.int .i64 1)), none⟩,
     ⟨(some 31), .mv (.t 46), none⟩]))) <|
  .seq (.region [
   ⟨(some 7), .mv (.c (.int .i64 0)), none⟩]) <|
  .seq (.block 2 (.loop (.seq (.seq (.region [
     ⟨(some 47), .mv (.t 7), none⟩,
     ⟨(some 48), .mv (.t 0), none⟩,
     ⟨(some 49), .nilCheck (.t 48), none⟩,
     ⟨(some 50), .fieldAddr 0 (.t 49), none⟩,
     ⟨(some 51), .load none (.t 50), none⟩,
     ⟨(some 52), .len (.t 51), none⟩,
     ⟨(some 53), .bin .lss .int (.t 47) (.t 52), none⟩,
     ⟨(some 54), .mv (.t 53), none⟩,
     ⟨(some 55), .mv (.t 0), (some (54, true))⟩,
     ⟨(some 56), .nilCheck (.t 55), (some (54, true))⟩,
     ⟨(some 57), .fieldAddr 0 (.t 56), (some (54, true))⟩,
     ⟨(some 58), .load none (.t 57), (some (54, true))⟩,
     ⟨(some 59), .mv (.t 7), (some (54, true))⟩,
     ⟨(some 60), .indexAddr 1 (.t 58) (.t 59), (some (54, true))⟩,
     ⟨(some 61), .load none (.t 60), (some (54, true))⟩,
     ⟨(some 62), .call (.c (.fn (.func 93) [] [])) [(.t 61)], (some (54, true))⟩,
     ⟨(some 63), .mv (.t 4), (some (54, true))⟩,
     ⟨(some 64), .call (.c (.fn (.func 113) [] [])) [(.t 62), (.t 63)], (some (54, true))⟩,
     ⟨(some 65), .pick (.t 54) (.t 64) (.c (.bool false)), none⟩]) <|
    .cond (.t 65)
     (.skip)
     (.exit 2)) <|
    .block 3 (.region [
      ⟨(some 66), .mv (.t 7), none⟩,
      ⟨(some 67), .bin .add .int (.t 66) (.c (.int .i64 1)), none⟩,
      ⟨(some 7), .mv (.t 67), none⟩])))) <|
  .region [
   ⟨(some 68), .mv (.t 0), none⟩,
   ⟨(some 69), .mv (.t 0), none⟩,
   ⟨(some 70), .nilCheck (.t 69), none⟩,
   ⟨(some 71), .fieldAddr 0 (.t 70), none⟩,
   ⟨(some 72), .load none (.t 71), none⟩,
   ⟨(some 73), .mv (.t 7), none⟩,
   ⟨(some 74), .mv (.t 1), none⟩,
   ⟨(some 75), .buildSlice 27 1 [.nilSl] 1 [((0, 1), (.t 74))], none⟩,
   ⟨(some 76), .call (.c (.fn (.func 114) [] [])) [(.t 72), (.t 73), (.t 75)], none⟩,
   ⟨(some 77), .nilCheck (.t 68), none⟩,
   ⟨(some 78), .fieldAddr 0 (.t 77), none⟩,
   ⟨none, .store 1 (.t 78) (.t 76), none⟩], none⟩
noncomputable def ffn87 : FFn := ⟨2, 79, [],
  cSeq (cReg 4 (
   oSeq (oMv g000 s010) <|
   oSeq (oMv g001 s011) <|
   oSeq (oCallF 70 (fun T => [g010 T, g011 T]) s012) <|
   oMv g012 s001)) <|
  cSeq (cReg 3 (
   oSeq (oMv g001 s013) <|
   oSeq (oCallF 93 (fun T => [g013 T]) s014) <|
   oMv g014 s004)) <|
  cSeq (cSeq (cReg 2 (
   oSeq (oMv g004 s015) <|
   oP (vLss g015 (kc (.int .i64 0))) s016)) <|
  cCond g016
   (cExit 0)
   (cSkip)) <|
  cSeq (cSeq (cReg 5 (
   oSeq (oMv g001 s017) <|
   oSeq (oMv g004 s020) <|
   oSeq (oP (vIdx 2 g017 g020) s021) <|
   oSeq (oP (vFA 0 g021) s022) <|
   oLoad g022 s023)) <|
  cCond g023
   (cReg 7 (
    oSeq (oMv g001 s025) <|
    oSeq (oCallF 31 (fun T => [(.int .i64 (-1))]) s026) <|
    oSeq (oCallF 84 (fun T => [g025 T, g026 T]) s027) <|
    oSeq (oMv g027 s024) <|
    oSeq (oP (vExt 0 g024) s030) <|
    oSeq (oP (vExt 1 g024) s031) <|
    oMv g030 s001))
   (cSkip)) <|
  cSeq (cSeq (cReg 6 (
   oSeq (oMv g000 s032) <|
   oSeq (oGen (.nilCheck (.t 26)) 1 s033) <|
   oSeq (oP (vFA 0 g033) s034) <|
   oSeq (oLoad g034 s035) <|
   oSeq (oP (vLen g035) s036) <|
   oMv (kc (.int .i64 0)) s037)) <|
  cBlock 1 (cLoop 1000000 (cSeq (cReg 1 (
     oP (vLss g037 g036) s040)) <|
    cSeq (cCond g040
     (cSkip)
     (cExit 1)) <|
    cSeq (cBlock 3 (cSeq (cReg 5 (
      oSeq (oMv g037 s041) <|
      oSeq (oP (vIdx 1 g035 g037) s042) <|
      oSeq (oLoad g042 s043) <|
      oSeq (oMv g041 s005) <|
      oMv g043 s006)) <|
     cDrw 11 (
      dSeq (dLook 0 [] (oMv g000 s044)) <|
      dSeq (dLook 0 [] (oGen (.nilCheck (.t 36)) 1 s045)) <|
      dSeq (dLook 0 [] (oP (vFA 0 g045) s046)) <|
      dSeq (dLook 0 [] (oLoad g046 s047)) <|
      dSeq (dLook 0 [] (oMv g005 s050)) <|
      dSeq (dLook 0 [] (oMv g006 s051)) <|
      dSeq (dLook 0 [] (oMv g001 s052)) <|
      dSeq (dLook 0 [] (oMv g004 s053)) <|
      dSeq (dAct 0 [] (oCallF 92 (fun T => [g051 T, g052 T, g053 T]) s054)) <|
      dSeq (dLook 0 [] (oP (vIdx 1 g047 g050) s055)) <|
      dSeq (dAct 0 [] (oStore g055 g054 noPut)) <|
      dNop)
      (ckSeq (ckOne g047 1 [] (oLoad g046 s047)) <|
     ckNop) [])) <|
    cReg 2 (
     oSeq (oP (vAdd g037 (kc (.int .i64 1))) s056) <|
     oMv g056 s037)))) <|
  cSeq (cReg 1 (
   oMv (kc (.int .i64 0)) s007)) <|
  cSeq (cBlock 5 (cLoop 1000000 (cSeq (cSeq (cReg 19 (
     oSeq (oMv g007 s057) <|
     oSeq (oMv g000 s060) <|
     oSeq (oGen (.nilCheck (.t 48)) 2 s061) <|
     oSeq (oP (vFA 0 g061) s062) <|
     oSeq (oLoad g062 s063) <|
     oSeq (oP (vLen g063) s064) <|
     oSeq (oP (vLss g057 g064) s065) <|
     oSeq (oMv g065 s066) <|
     oSeq (oGuard g066 true s067 (oMv g000 s067)) <|
     oSeq (oGuard g066 true s070 (oGen (.nilCheck (.t 55)) 9 s070)) <|
     oSeq (oGuard g066 true s071 (oP (vFA 0 g070) s071)) <|
     oSeq (oGuard g066 true s072 (oLoad g071 s072)) <|
     oSeq (oGuard g066 true s073 (oMv g007 s073)) <|
     oSeq (oGuard g066 true s074 (oP (vIdx 1 g072 g073) s074)) <|
     oSeq (oGuard g066 true s075 (oLoad g074 s075)) <|
     oSeq (oGuard g066 true s076 (oCallF 93 (fun T => [g075 T]) s076)) <|
     oSeq (oGuard g066 true s077 (oMv g004 s077)) <|
     oSeq (oGuard g066 true s100 (oCallF 113 (fun T => [g076 T, g077 T]) s100)) <|
     oP (vPick g066 g100 (kc (.bool false))) s101)) <|
    cCond g101
     (cSkip)
     (cExit 5)) <|
    cBlock 7 (cReg 3 (
      oSeq (oMv g007 s102) <|
      oSeq (oP (vAdd g102 (kc (.int .i64 1))) s103) <|
      oMv g103 s007))))) <|
  cReg 12 (
   oSeq (oMv g000 s104) <|
   oSeq (oMv g000 s105) <|
   oSeq (oGen (.nilCheck (.t 69)) 2 s106) <|
   oSeq (oP (vFA 0 g106) s107) <|
   oSeq (oLoad g107 s110) <|
   oSeq (oMv g007 s111) <|
   oSeq (oMv g001 s112) <|
   oSeq (oBuildSlice 27 1 [.nilSl] 1 [((0, 1), g112)] 7 s113) <|
   oSeq (oCallF 114 (fun T => [g110 T, g111 T, g113 T]) s114) <|
   oSeq (oGen (.nilCheck (.t 68)) 9 s115) <|
   oSeq (oP (vFA 0 g115) s116) <|
   oStore g116 g114 noPut)⟩
def afn70 : AFn := ⟨2, 28, [(4, none)],
  .seq (.region [
   ⟨(some 4), .mv (.c .nilSl), none⟩]) <|
  .seq (.region [
   ⟨(some 8), .mv (.t 1), none⟩,
   ⟨(some 9), .call (.c (.fn (.func 91) [] [])) [(.t 8)], none⟩,
   ⟨(some 7), .mv (.t 9), none⟩,
   ⟨(some 10), .extract 0 (.t 7), none⟩,
   ⟨(some 11), .extract 1 (.t 7), none⟩,
   ⟨(some 1), .mv (.t 10), none⟩]) <|
  .seq (.seq (.region [
   ⟨(some 12), .mv (.t 0), none⟩,
   ⟨(some 13), .nilCheck (.t 12), none⟩,
   ⟨(some 14), .fieldAddr 0 (.t 13), none⟩,
   ⟨(some 15), .load none (.t 14), none⟩,
   ⟨(some 16), .len (.t 15), none⟩,
   ⟨(some 17), .mv (.c (.int .i64 0)), none⟩]) <|
  .block 0 (.loop (.seq (.region [
     ⟨(some 18), .bin .lss .int (.t 17) (.t 16), none⟩]) <|
    .seq (.cond (.t 18)
     (.skip)
     (.exit 0)) <|
    .seq (.block 1 (.seq (.region [
      ⟨(some 19), .indexAddr 1 (.t 15) (.t 17), none⟩,
      ⟨(some 20), .load none (.t 19), none⟩,
      ⟨(some 6), .mv (.t 20), none⟩]) <|
     .region [
      ⟨(some 21), .mv (.t 1), none⟩,
      ⟨(some 22), .mv (.t 6), none⟩,
      ⟨(some 23), .mv (.t 6), none⟩,
      ⟨(some 24), .call (.c (.fn (.func 93) [] [])) [(.t 23)], none⟩,
      ⟨(some 25), .call (.c (.fn (.func 92) [] [])) [(.t 21), (.t 22), (.t 24)], none⟩,
      ⟨(some 1), .mv (.t 25), none⟩])) <|
    .region [
     ⟨(some 26), .bin .add .int (.t 17) (.c (.int .i64 1)), none⟩,
     ⟨(some 17), .mv (.t 26), none⟩]))) <|
  .seq (.region [
   ⟨(some 27), .mv (.t 1), none⟩,
   ⟨(some 4), .mv (.t 27), none⟩]) <|
  .ret, none⟩
noncomputable def ffn70 : FFn := ⟨2, 28, [(4, none)],
  cSeq (cReg 1 (
   oMv (kc .nilSl) s004)) <|
  cSeq (cReg 6 (
   oSeq (oMv g001 s010) <|
   oSeq (oCallF 91 (fun T => [g010 T]) s011) <|
   oSeq (oMv g011 s007) <|
   oSeq (oP (vExt 0 g007) s012) <|
   oSeq (oP (vExt 1 g007) s013) <|
   oMv g012 s001)) <|
  cSeq (cSeq (cReg 6 (
   oSeq (oMv g000 s014) <|
   oSeq (oGen (.nilCheck (.t 12)) 1 s015) <|
   oSeq (oP (vFA 0 g015) s016) <|
   oSeq (oLoad g016 s017) <|
   oSeq (oP (vLen g017) s020) <|
   oMv (kc (.int .i64 0)) s021)) <|
  cBlock 1 (cLoop 1000000 (cSeq (cReg 1 (
     oP (vLss g021 g020) s022)) <|
    cSeq (cCond g022
     (cSkip)
     (cExit 1)) <|
    cSeq (cBlock 3 (cSeq (cReg 3 (
      oSeq (oP (vIdx 1 g017 g021) s023) <|
      oSeq (oLoad g023 s024) <|
      oMv g024 s006)) <|
     cReg 6 (
      oSeq (oMv g001 s025) <|
      oSeq (oMv g006 s026) <|
      oSeq (oMv g006 s027) <|
      oSeq (oCallF 93 (fun T => [g027 T]) s030) <|
      oSeq (oCallF 92 (fun T => [g025 T, g026 T, g030 T]) s031) <|
      oMv g031 s001))) <|
    cReg 2 (
     oSeq (oP (vAdd g021 (kc (.int .i64 1))) s032) <|
     oMv g032 s021)))) <|
  cSeq (cReg 2 (
   oSeq (oMv g001 s033) <|
   oMv g033 s004)) <|
  cExit 0⟩
def afn93 : AFn := ⟨1, 16, [(2, (some none))],
  .seq (.region [
   ⟨(some 1), .box 27 (.t 0), none⟩,
   ⟨(some 2), .alloc 3 [(.int .i64 0)], none⟩]) <|
  .seq (.seq (.region [
   ⟨(some 4), .load none (.t 1), none⟩,
   ⟨(some 5), .len (.t 4), none⟩,
   ⟨(some 6), .call (.c (.fn (.func 118) [] [])) [(.t 5)], none⟩]) <|
  .block 0 (.rangeFunc (.t 6) [7] (.region [
    ⟨(some 3), .mv (.t 7), none⟩]) (.block 1 (.seq (.region [
      ⟨(some 8), .load none (.t 1), none⟩,
      ⟨(some 9), .mv (.t 3), none⟩,
      ⟨(some 10), .indexAddr 2 (.t 8) (.t 9), none⟩,
      ⟨(some 11), .fieldAddr 1 (.t 10), none⟩,
      ⟨(some 12), .load none (.t 11), none⟩,
      ⟨(some 13), .len (.t 12), none⟩,
      ⟨(some 14), .bin .gtr .int (.t 13) (.c (.int .i64 0)), none⟩]) <|
     .cond (.t 14)
      (.seq (.region [
       ⟨(some 15), .mv (.t 3), none⟩,
       ⟨none, .store 1 (.t 2) (.t 15), none⟩]) <|
      .ret)
      (.skip))))) <|
  .seq (.region [
   ⟨none, .store 1 (.t 2) (.c (.int .i64 (-1))), none⟩]) <|
  .ret, none⟩
noncomputable def ffn93 : FFn := ⟨1, 16, [(2, (some none))],
  cSeq (cReg 2 (
   oSeq (oBox 27 g000 0 s001) <|
   oAlloc 3 [(.int .i64 0)] 1 s002)) <|
  cSeq (cSeq (cReg 3 (
   oSeq (oLoad g001 s004) <|
   oSeq (oP (vLen g004) s005) <|
   oCallF 118 (fun T => [g005 T]) s006)) <|
  cBlock 1 (cSlow 1000000 false 16 (.rangeFunc (.t 6) [7] (.region [
    ⟨(some 3), .mv (.t 7), none⟩]) (.block 1 (.seq (.region [
      ⟨(some 8), .load none (.t 1), none⟩,
      ⟨(some 9), .mv (.t 3), none⟩,
      ⟨(some 10), .indexAddr 2 (.t 8) (.t 9), none⟩,
      ⟨(some 11), .fieldAddr 1 (.t 10), none⟩,
      ⟨(some 12), .load none (.t 11), none⟩,
      ⟨(some 13), .len (.t 12), none⟩,
      ⟨(some 14), .bin .gtr .int (.t 13) (.c (.int .i64 0)), none⟩]) <|
     .cond (.t 14)
      (.seq (.region [
       ⟨(some 15), .mv (.t 3), none⟩,
       ⟨none, .store 1 (.t 2) (.t 15), none⟩]) <|
      .ret)
      (.skip)))))) <|
  cSeq (cReg 1 (
   oStore g002 (kc (.int .i64 (-1))) noPut)) <|
  cExit 0⟩
def afn118 : AFn := ⟨1, 4, [(2, none)],
  .seq (.region [
   ⟨(some 1), .box 3 (.t 0), none⟩,
   ⟨(some 2), .mv (.c .nilFn), none⟩]) <|
  .seq (.region [
   ⟨(some 3), .mkfn (.func 133) [] [(.t 1)], none⟩,
   ⟨(some 2), .mv (.t 3), none⟩]) <|
  .ret, none⟩
noncomputable def ffn118 : FFn := ⟨1, 4, [(2, none)],
  cSeq (cReg 2 (
   oSeq (oBox 3 g000 0 s001) <|
   oMv (kc .nilFn) s002)) <|
  cSeq (cReg 2 (
   oSeq (oGen (.mkfn (.func 133) [] [(.t 1)]) 0 s003) <|
   oMv g003 s002)) <|
  cExit 0⟩
def afn133 : AFn := ⟨2, 17, [],
  .seq (.seq (.region [
   ⟨(some 3), .mv (.c (.int .i64 1)), none⟩]) <|
  .block 0 (.loop (.seq (.seq (.region [
     ⟨(some 4), .mv (.t 3), none⟩,
     ⟨(some 5), .load none (.t 1), none⟩,
     ⟨(some 6), .bin .lss .int (.t 4) (.t 5), none⟩]) <|
    .cond (.t 6)
     (.skip)
     (.exit 0)) <|
    .seq (.block 1 (.seq (.region [
      ⟨(some 9), .mv (.t 0), none⟩,
      ⟨(some 10), .mv (.t 3), none⟩,
      ⟨(some 11), .call (.t 9) [(.t 10)], none⟩,
      ⟨(some 12), .un .not (.t 11), none⟩]) <|
     .cond (.t 12)
      (.ret)
      (.skip))) <|
    .region [
     ⟨(some 7), .mv (.t 3), none⟩,
     ⟨(some 8), .bin .add .int (.t 7) (.c (.int .i64 1)), none⟩,
     ⟨(some 3), .mv (.t 8), none⟩]))) <|
  .seq (.region [
   ⟨(some 13), .load none (.t 1), none⟩,
   ⟨(some 14), .bin .gtr .int (.t 13) (.c (.int .i64 0)), none⟩]) <|
  .cond (.t 14)
   (.region [
    ⟨(some 15), .mv (.t 0), none⟩,
    ⟨(some 16), .call (.t 15) [(.c (.int .i64 0))], none⟩])
   (.skip), none⟩
noncomputable def ffn133 : FFn := ⟨2, 17, [],
  cSeq (cSeq (cReg 1 (
   oMv (kc (.int .i64 1)) s003)) <|
  cBlock 1 (cLoop 1000000 (cSeq (cSeq (cReg 3 (
     oSeq (oMv g003 s004) <|
     oSeq (oLoad g001 s005) <|
     oP (vLss g004 g005) s006)) <|
    cCond g006
     (cSkip)
     (cExit 1)) <|
    cSeq (cBlock 3 (cSeq (cReg 4 (
      oSeq (oMv g000 s011) <|
      oSeq (oMv g003 s012) <|
      oSeq (oCall g011 (fun T => [g012 T]) s013) <|
      oGen (.un .not (.t 11)) 3 s014)) <|
     cCond g014
      (cExit 0)
      (cSkip))) <|
    cReg 3 (
     oSeq (oMv g003 s007) <|
     oSeq (oP (vAdd g007 (kc (.int .i64 1))) s010) <|
     oMv g010 s003)))) <|
  cSeq (cReg 2 (
   oSeq (oLoad g001 s015) <|
   oP (vGtr g015 (kc (.int .i64 0))) s016)) <|
  cCond g016
   (cReg 2 (
    oSeq (oMv g000 s017) <|
    oCall g017 (fun T => [(.int .i64 0)]) s020))
   (cSkip)⟩
def afn92 : AFn := ⟨3, 44, [(6, none)],
  .seq (.region [
   ⟨(some 6), .mv (.c .nilSl), none⟩]) <|
  .seq (.seq (.region [
   ⟨(some 11), .mv (.t 0), none⟩,
   ⟨(some 12), .mv (.t 2), none⟩,
   ⟨(some 13), .indexAddr 2 (.t 11) (.t 12), none⟩,
   ⟨(some 14), .fieldAddr 1 (.t 13), none⟩,
   ⟨(some 15), .load none (.t 14), none⟩,
   ⟨(some 16), .len (.t 15), none⟩,
   ⟨(some 17), .bin .eql .int (.t 16) (.c (.int .i64 0)), none⟩]) <|
  .cond (.t 17)
   (.seq (.region [
    ⟨(some 18), .mv (.t 0), none⟩,
    ⟨(some 6), .mv (.t 18), none⟩]) <|
   .ret)
   (.skip)) <|
  .seq (.region [
   ⟨(some 20), .mv (.t 0), none⟩,
   ⟨(some 21), .mv (.t 2), none⟩,
   ⟨(some 22), .indexAddr 2 (.t 20) (.t 21), none⟩,
   ⟨(some 23), .load (some 2) (.t 22), none⟩,
   ⟨(some 24), .call (.c (.fn (.func 111) [] [])) [(.t 23)], none⟩,
   ⟨(some 19), .mv (.t 24), none⟩,
   ⟨(some 25), .extract 0 (.t 19), none⟩,
   ⟨(some 26), .extract 1 (.t 19), none⟩,
   ⟨(some 7), .alloc 62 [(.bool false), .nilSl], none⟩,
   ⟨none, .store 2 (.t 7) (.t 25), none⟩,
   ⟨(some 8), .mv (.t 26), none⟩]) <|
  .seq (.draw [
   ⟨(some 28), .mv (.t 1), none, [(1, none)], 0, [(0, [])]⟩,
   ⟨(some 29), .mv (.t 2), none, [(2, none)], 0, [(0, [])]⟩,
   ⟨(some 30), .indexAddr 2 (.t 28) (.t 29), none, [(28, (some 0)), (29, (some 1))], 0, [(0, [])]⟩,
   ⟨(some 31), .load (some 2) (.t 30), none, [(30, (some 2))], 0, [(0, [])]⟩,
   ⟨(some 32), .mv (.t 0), none, [(0, none)], 0, [(0, [])]⟩,
   ⟨(some 33), .load (some 2) (.t 7), none, [(7, none)], 0, [(0, [])]⟩,
   ⟨(some 34), .mv (.t 1), none, [(1, none)], 0, [(0, [])]⟩,
   ⟨(some 35), .call (.c (.fn (.func 110) [] [])) [(.t 31), (.t 32), (.t 33), (.t 34)], none, [(31, (some 3)), (32, (some 4)), (33, (some 5)), (34, (some 6))], 2, [(0, [])]⟩,
   ⟨(some 27), .mv (.t 35), none, [(35, (some 7))], 0, [(1, [])]⟩,
   ⟨(some 36), .extract 0 (.t 27), none, [(27, (some 8))], 0, [(1, [])]⟩,
   ⟨(some 37), .extract 1 (.t 27), none, [(27, (some 8))], 0, [(1, [])]⟩,
   ⟨(some 9), .mv (.t 36), none, [(36, (some 9))], 0, [(1, [])]⟩,
   ⟨(some 10), .mv (.t 37), none, [(37, (some 10))], 0, [(1, [])]⟩] []) <|
  .seq (.region [
   ⟨(some 39), .mv (.t 9), none⟩,
   ⟨(some 40), .call (.c (.fn (.func 91) [] [])) [(.t 39)], none⟩,
   ⟨(some 38), .mv (.t 40), none⟩,
   ⟨(some 41), .extract 0 (.t 38), none⟩,
   ⟨(some 42), .extract 1 (.t 38), none⟩,
   ⟨(some 9), .mv (.t 41), none⟩]) <|
  .seq (.region [
   ⟨(some 43), .mv (.t 9), none⟩,
   ⟨(some 6), .mv (.t 43), none⟩]) <|
  .ret, none⟩
noncomputable def ffn92 : FFn := ⟨3, 44, [(6, none)],
  cSeq (cReg 1 (
   oMv (kc .nilSl) s006)) <|
  cSeq (cSeq (cReg 7 (
   oSeq (oMv g000 s013) <|
   oSeq (oMv g002 s014) <|
   oSeq (oP (vIdx 2 g013 g014) s015) <|
   oSeq (oP (vFA 1 g015) s016) <|
   oSeq (oLoad g016 s017) <|
   oSeq (oP (vLen g017) s020) <|
   oP (vEql g020 (kc (.int .i64 0))) s021)) <|
  cCond g021
   (cSeq (cReg 2 (
    oSeq (oMv g000 s022) <|
    oMv g022 s006)) <|
   cExit 0)
   (cSkip)) <|
  cSeq (cReg 11 (
   oSeq (oMv g000 s024) <|
   oSeq (oMv g002 s025) <|
   oSeq (oP (vIdx 2 g024 g025) s026) <|
   oSeq (oLoadN 2 g026 s027) <|
   oSeq (oCallF 111 (fun T => [g027 T]) s030) <|
   oSeq (oMv g030 s023) <|
   oSeq (oP (vExt 0 g023) s031) <|
   oSeq (oP (vExt 1 g023) s032) <|
   oSeq (oAlloc 62 [(.bool false), .nilSl] 8 s007) <|
   oSeq (oStoreN 2 g007 g031 noPut) <|
   oMv g032 s010)) <|
  cSeq (cDrw 13 (
   dSeq (dLook 0 [] (oMv g001 s034)) <|
   dSeq (dLook 0 [] (oMv g002 s035)) <|
   dSeq (dLook 0 [] (oP (vIdx 2 g034 g035) s036)) <|
   dSeq (dLook 0 [] (oLoadN 2 g036 s037)) <|
   dSeq (dLook 0 [] (oMv g000 s040)) <|
   dSeq (dLook 0 [] (oLoadN 2 g007 s041)) <|
   dSeq (dLook 0 [] (oMv g001 s042)) <|
   dSeq (dAct 0 [] (oCallF 110 (fun T => [g037 T, g040 T, g041 T, g042 T]) s043)) <|
   dSeq (dLook 0 [] (oMv g043 s033)) <|
   dSeq (dLook 0 [] (oP (vExt 0 g033) s044)) <|
   dSeq (dLook 0 [] (oP (vExt 1 g033) s045)) <|
   dSeq (dLook 0 [] (oMv g044 s011)) <|
   dSeq (dLook 0 [] (oMv g045 s012)) <|
   dNop)
   (ckNop) []) <|
  cSeq (cReg 6 (
   oSeq (oMv g011 s047) <|
   oSeq (oCallF 91 (fun T => [g047 T]) s050) <|
   oSeq (oMv g050 s046) <|
   oSeq (oP (vExt 0 g046) s051) <|
   oSeq (oP (vExt 1 g046) s052) <|
   oMv g051 s011)) <|
  cSeq (cReg 2 (
   oSeq (oMv g011 s053) <|
   oMv g053 s006)) <|
  cExit 0⟩
def afn113 : AFn := ⟨2, 21, [(4, none)],
  .seq (.region [
   ⟨(some 4), .mv (.c (.bool false)), none⟩]) <|
  .seq (.region [
   ⟨(some 5), .mv (.t 0), none⟩,
   ⟨(some 6), .mv (.t 1), none⟩,
   ⟨(some 7), .bin .neq .int (.t 5) (.t 6), none⟩,
   ⟨(some 8), .mv (.t 7), none⟩,
   ⟨(some 9), .mv (.t 0), (some (8, true))⟩,
   ⟨(some 10), .bin .neq .int (.t 9) (.c (.int .i64 0)), (some (8, true))⟩,
   ⟨(some 11), .pick (.t 8) (.t 10) (.c (.bool false)), none⟩,
   ⟨(some 12), .mv (.t 11), none⟩,
   ⟨(some 13), .mv (.t 1), (some (12, true))⟩,
   ⟨(some 14), .bin .eql .int (.t 13) (.c (.int .i64 0)), (some (12, true))⟩,
   ⟨(some 15), .mv (.t 14), (some (12, true))⟩,
   ⟨(some 16), .mv (.t 0), (some (15, false))⟩,
   ⟨(some 17), .mv (.t 1), (some (15, false))⟩,
   ⟨(some 18), .bin .lss .int (.t 16) (.t 17), (some (15, false))⟩,
   ⟨(some 19), .pick (.t 15) (.c (.bool true)) (.t 18), (some (12, true))⟩,
   ⟨(some 20), .pick (.t 12) (.t 19) (.c (.bool false)), none⟩,
   ⟨(some 4), .mv (.t 20), none⟩]) <|
  .ret, none⟩
noncomputable def ffn113 : FFn := ⟨2, 21, [(4, none)],
  cSeq (cReg 1 (
   oMv (kc (.bool false)) s004)) <|
  cSeq (cReg 17 (
   oSeq (oMv g000 s005) <|
   oSeq (oMv g001 s006) <|
   oSeq (oP (vNeq g005 g006) s007) <|
   oSeq (oMv g007 s010) <|
   oSeq (oGuard g010 true s011 (oMv g000 s011)) <|
   oSeq (oGuard g010 true s012 (oP (vNeq g011 (kc (.int .i64 0))) s012)) <|
   oSeq (oP (vPick g010 g012 (kc (.bool false))) s013) <|
   oSeq (oMv g013 s014) <|
   oSeq (oGuard g014 true s015 (oMv g001 s015)) <|
   oSeq (oGuard g014 true s016 (oP (vEql g015 (kc (.int .i64 0))) s016)) <|
   oSeq (oGuard g014 true s017 (oMv g016 s017)) <|
   oSeq (oGuard g017 false s020 (oMv g000 s020)) <|
   oSeq (oGuard g017 false s021 (oMv g001 s021)) <|
   oSeq (oGuard g017 false s022 (oP (vLss g020 g021) s022)) <|
   oSeq (oGuard g014 true s023 (oP (vPick g017 (kc (.bool true)) g022) s023)) <|
   oSeq (oP (vPick g014 g023 (kc (.bool false))) s024) <|
   oMv g024 s004)) <|
  cExit 0⟩
def afn48 : AFn := ⟨2, 36, [(4, none), (5, none)],
  .seq (.region [
   ⟨(some 4), .mv (.c .nilSl), none⟩,
   ⟨(some 5), .mv (.c (.int .i64 0)), none⟩]) <|
  .seq (.seq (.region [
   ⟨(some 8), .mv (.t 1), none⟩,
   ⟨(some 9), .call (.c (.fn (.func 62) [] [])) [(.t 8)], none⟩,
   ⟨(some 6), .mv (.t 9), none⟩]) <|
  .seq (.region [
   ⟨(some 10), .mv (.t 6), none⟩,
   ⟨(some 11), .bin .neq .int (.t 10) (.c (.int .i64 0)), none⟩]) <|
  .cond (.t 11)
   (.seq (.region [
    ⟨(some 12), .mv (.t 6), none⟩,
    ⟨(some 4), .mv (.c .nilSl), none⟩,
    ⟨(some 5), .mv (.t 12), none⟩]) <|
   .ret)
   (.skip)) <|
  .seq (.seq (.region [
   ⟨(some 13), .mv (.t 0), none⟩,
   ⟨(some 14), .buildSlice 27 1 [.nilSl] 1 [((0, 1), (.t 13))], none⟩,
   ⟨(some 15), .call (.c (.fn (.func 62) [] [])) [(.t 14)], none⟩,
   ⟨(some 7), .mv (.t 15), none⟩]) <|
  .seq (.region [
   ⟨(some 16), .mv (.t 7), none⟩,
   ⟨(some 17), .bin .neq .int (.t 16) (.c (.int .i64 0)), none⟩]) <|
  .cond (.t 17)
   (.seq (.region [
    ⟨(some 18), .mv (.t 7), none⟩,
    ⟨(some 4), .mv (.c .nilSl), none⟩,
    ⟨(some 5), .mv (.t 18), none⟩]) <|
   .ret)
   (.skip)) <|
  .seq (.seq (.region [
   ⟨(some 19), .mv (.t 1), none⟩,
   ⟨(some 20), .len (.t 19), none⟩,
   ⟨(some 21), .bin .gtr .int (.t 20) (.c (.int .i64 0)), none⟩,
   ⟨(some 22), .mv (.t 21), none⟩,
   ⟨(some 23), .mv (.t 1), (some (22, true))⟩,
   ⟨(some 24), .indexAddr 1 (.t 23) (.c (.int .i64 0)), (some (22, true))⟩,
   ⟨(some 25), .load none (.t 24), (some (22, true))⟩,
   ⟨(some 26), .len (.t 25), (some (22, true))⟩,
   ⟨(some 27), .mv (.t 0), (some (22, true))⟩,
   ⟨(some 28), .len (.t 27), (some (22, true))⟩,
   ⟨(some 29), .bin .neq .int (.t 26) (.t 28), (some (22, true))⟩,
   ⟨(some 30), .pick (.t 22) (.t 29) (.c (.bool false)), none⟩]) <|
  .cond (.t 30)
   (.seq (.region [
    ⟨(some 4), .mv (.c .nilSl), none⟩,
    ⟨(some 5), .mv (.c (.int .i64 70)), none⟩]) <|
   .ret)
   (.skip)) <|
  .seq (.region [
   ⟨(some 31), .mv (.t 1), none⟩,
   ⟨(some 32), .call (.c (.fn (.func 68) [] [])) [(.t 31)], none⟩,
   ⟨(some 33), .mv (.t 0), none⟩,
   ⟨(some 34), .call (.c (.fn (.func 70) [] [])) [(.t 32), (.t 33)], none⟩,
   ⟨(some 35), .call (.c (.fn (.func 69) [] [])) [(.t 34)], none⟩,
   ⟨(some 4), .mv (.t 35), none⟩,
   ⟨(some 5), .mv (.c (.int .i64 0)), none⟩]) <|
  .ret, none⟩
noncomputable def ffn48 : FFn := ⟨2, 36, [(4, none), (5, none)],
  cSeq (cReg 2 (
   oSeq (oMv (kc .nilSl) s004) <|
   oMv (kc (.int .i64 0)) s005)) <|
  cSeq (cSeq (cReg 3 (
   oSeq (oMv g001 s010) <|
   oSeq (oCallF 62 (fun T => [g010 T]) s011) <|
   oMv g011 s006)) <|
  cSeq (cReg 2 (
   oSeq (oMv g006 s012) <|
   oP (vNeq g012 (kc (.int .i64 0))) s013)) <|
  cCond g013
   (cSeq (cReg 3 (
    oSeq (oMv g006 s014) <|
    oSeq (oMv (kc .nilSl) s004) <|
    oMv g014 s005)) <|
   cExit 0)
   (cSkip)) <|
  cSeq (cSeq (cReg 4 (
   oSeq (oMv g000 s015) <|
   oSeq (oBuildSlice 27 1 [.nilSl] 1 [((0, 1), g015)] 1 s016) <|
   oSeq (oCallF 62 (fun T => [g016 T]) s017) <|
   oMv g017 s007)) <|
  cSeq (cReg 2 (
   oSeq (oMv g007 s020) <|
   oP (vNeq g020 (kc (.int .i64 0))) s021)) <|
  cCond g021
   (cSeq (cReg 3 (
    oSeq (oMv g007 s022) <|
    oSeq (oMv (kc .nilSl) s004) <|
    oMv g022 s005)) <|
   cExit 0)
   (cSkip)) <|
  cSeq (cSeq (cReg 12 (
   oSeq (oMv g001 s023) <|
   oSeq (oP (vLen g023) s024) <|
   oSeq (oP (vGtr g024 (kc (.int .i64 0))) s025) <|
   oSeq (oMv g025 s026) <|
   oSeq (oGuard g026 true s027 (oMv g001 s027)) <|
   oSeq (oGuard g026 true s030 (oP (vIdx 1 g027 (kc (.int .i64 0))) s030)) <|
   oSeq (oGuard g026 true s031 (oLoad g030 s031)) <|
   oSeq (oGuard g026 true s032 (oP (vLen g031) s032)) <|
   oSeq (oGuard g026 true s033 (oMv g000 s033)) <|
   oSeq (oGuard g026 true s034 (oP (vLen g033) s034)) <|
   oSeq (oGuard g026 true s035 (oP (vNeq g032 g034) s035)) <|
   oP (vPick g026 g035 (kc (.bool false))) s036)) <|
  cCond g036
   (cSeq (cReg 2 (
    oSeq (oMv (kc .nilSl) s004) <|
    oMv (kc (.int .i64 70)) s005)) <|
   cExit 0)
   (cSkip)) <|
  cSeq (cReg 7 (
   oSeq (oMv g001 s037) <|
   oSeq (oCallF 68 (fun T => [g037 T]) s040) <|
   oSeq (oMv g000 s041) <|
   oSeq (oCallF 70 (fun T => [g040 T, g041 T]) s042) <|
   oSeq (oCallF 69 (fun T => [g042 T]) s043) <|
   oSeq (oMv g043 s004) <|
   oMv (kc (.int .i64 0)) s005)) <|
  cExit 0⟩
def afn49 : AFn := ⟨2, 14, [],
  .seq (.region [
   ⟨(some 5), .mv (.t 0), none⟩,
   ⟨(some 6), .len (.t 5), none⟩,
   ⟨(some 4), .mv (.t 6), none⟩]) <|
  .region [
   ⟨(some 7), .mv (.t 0), none⟩,
   ⟨(some 8), .mv (.t 4), none⟩,
   ⟨(some 9), .mv (.t 4), none⟩,
   ⟨(some 10), .conv .u64 (.t 9), none⟩,
   ⟨(some 11), .call (.c (.fn (.func 72) [] [])) [(.t 10)], none⟩,
   ⟨(some 12), .mv (.t 1), none⟩,
   ⟨(some 13), .call (.c (.fn (.func 71) [] [])) [(.t 7), (.c (.int .i64 0)), (.t 8), (.t 11), (.t 12)], none⟩], none⟩
noncomputable def ffn49 : FFn := ⟨2, 14, [],
  cSeq (cReg 3 (
   oSeq (oMv g000 s005) <|
   oSeq (oP (vLen g005) s006) <|
   oMv g006 s004)) <|
  cReg 7 (
   oSeq (oMv g000 s007) <|
   oSeq (oMv g004 s010) <|
   oSeq (oMv g004 s011) <|
   oSeq (oGen (.conv .u64 (.t 9)) 3 s012) <|
   oSeq (oCallF 72 (fun T => [g012 T]) s013) <|
   oSeq (oMv g001 s014) <|
   oCallF 71 (fun T => [g007 T, (.int .i64 0), g010 T, g013 T, g014 T]) s015)⟩
def afn72 : AFn := ⟨1, 8, [(2, none)],
  .seq (.region [
   ⟨(some 2), .mv (.c (.int .i64 0)), none⟩]) <|
  .seq (.cond (.c (.bool false))
   (.seq (.region [
    ⟨(some 3), .mv (.t 0), none⟩,
    ⟨(some 4), .conv .u32 (.t 3), none⟩,
    ⟨(some 5), .call (.c (.fn (.func 102) [] [])) [(.t 4)], none⟩,
    ⟨(some 2), .mv (.t 5), none⟩]) <|
   .ret)
   (.skip)) <|
  .seq (.region [
   ⟨(some 6), .mv (.t 0), none⟩,
   ⟨(some 7), .call (.c (.fn (.func 103) [] [])) [(.t 6)], none⟩,
   ⟨(some 2), .mv (.t 7), none⟩]) <|
  .ret, none⟩
noncomputable def ffn72 : FFn := ⟨1, 8, [(2, none)],
  cSeq (cReg 1 (
   oMv (kc (.int .i64 0)) s002)) <|
  cSeq (cCond (kc (.bool false))
   (cSeq (cReg 4 (
    oSeq (oMv g000 s003) <|
    oSeq (oGen (.conv .u32 (.t 3)) 1 s004) <|
    oSeq (oCallF 102 (fun T => [g004 T]) s005) <|
    oMv g005 s002)) <|
   cExit 0)
   (cSkip)) <|
  cSeq (cReg 3 (
   oSeq (oMv g000 s006) <|
   oSeq (oCallF 103 (fun T => [g006 T]) s007) <|
   oMv g007 s002)) <|
  cExit 0⟩
def afn102 : AFn := ⟨1, 19, [(2, none)],
  .seq (.region [
   ⟨(some 2), .mv (.c (.int .i64 0)), none⟩]) <|
  .seq (.seq (.region [
   ⟨(some 3), .mv (.t 0), none⟩,
   ⟨(some 4), .bin .geq .int (.t 3) (.c (.int .u32 65536)), none⟩]) <|
  .cond (.t 4)
   (.seq (.region [
    ⟨(some 5), .mv (.t 0), none⟩,
    ⟨(some 6), .bin .shr .int (.t 5) (.c (.int .u64 16)), none⟩,
    ⟨(some 0), .mv (.t 6), none⟩]) <|
   .region [
    ⟨(some 2), .mv (.c (.int .i64 16)), none⟩])
   (.skip)) <|
  .seq (.seq (.region [
   ⟨(some 7), .mv (.t 0), none⟩,
   ⟨(some 8), .bin .geq .int (.t 7) (.c (.int .u32 256)), none⟩]) <|
  .cond (.t 8)
   (.seq (.region [
    ⟨(some 9), .mv (.t 0), none⟩,
    ⟨(some 10), .bin .shr .int (.t 9) (.c (.int .u64 8)), none⟩,
    ⟨(some 0), .mv (.t 10), none⟩]) <|
   .region [
    ⟨(some 11), .mv (.t 2), none⟩,
    ⟨(some 12), .bin .add .int (.t 11) (.c (.int .i64 8)), none⟩,
    ⟨(some 2), .mv (.t 12), none⟩])
   (.skip)) <|
  .seq (.region [
   ⟨(some 13), .mv (.t 2), none⟩,
   ⟨(some 14), .mv (.t 0), none⟩,
   ⟨(some 15), .conv .u8 (.t 14), none⟩,
   ⟨(some 16), .indexStr (.c (.str ⟨#[0, 1, 2, 2, 3, 3, 3, 3, 4, 4, 4, 4, 4, 4, 4, 4, 5, 5, 5, 5, 5, 5, 5, 5, 5, 5, 5, 5, 5, 5, 5, 5, 6, 6, 6, 6, 6, 6, 6, 6, 6, 6, 6, 6, 6, 6, 6, 6, 6, 6, 6, 6, 6, 6, 6, 6, 6, 6, 6, 6, 6, 6, 6, 6, 7, 7, 7, 7, 7, 7, 7, 7, 7, 7, 7, 7, 7, 7, 7, 7, 7, 7, 7, 7, 7, 7, 7, 7, 7, 7, 7, 7, 7, 7, 7, 7, 7, 7, 7, 7, 7, 7, 7, 7, 7, 7, 7, 7, 7, 7, 7, 7, 7, 7, 7, 7, 7, 7, 7, 7, 7, 7, 7, 7, 7, 7, 7, 7, 8, 8, 8, 8, 8, 8, 8, 8, 8, 8, 8, 8, 8, 8, 8, 8, 8, 8, 8, 8, 8, 8, 8, 8, 8, 8, 8, 8, 8, 8, 8, 8, 8, 8, 8, 8, 8, 8, 8, 8, 8, 8, 8, 8, 8, 8, 8, 8, 8, 8, 8, 8, 8, 8, 8, 8, 8, 8, 8, 8, 8, 8, 8, 8, 8, 8, 8, 8, 8, 8, 8, 8, 8, 8, 8, 8, 8, 8, 8, 8, 8, 8, 8, 8, 8, 8, 8, 8, 8, 8, 8, 8, 8, 8, 8, 8, 8, 8, 8, 8, 8, 8, 8, 8, 8, 8, 8, 8, 8, 8, 8, 8, 8, 8, 8, 8, 8, 8, 8, 8, 8, 8, 8, 8, 8, 8, 8, 8]⟩)) (.t 15), none⟩,
   ⟨(some 17), .conv .i64 (.t 16), none⟩,
   ⟨(some 18), .bin .add .int (.t 13) (.t 17), none⟩,
   ⟨(some 2), .mv (.t 18), none⟩]) <|
  .ret, none⟩
noncomputable def ffn102 : FFn := ⟨1, 19, [(2, none)],
  cSeq (cReg 1 (
   oMv (kc (.int .i64 0)) s002)) <|
  cSeq (cSeq (cReg 2 (
   oSeq (oMv g000 s003) <|
   oP (vGeq g003 (kc (.int .u32 65536))) s004)) <|
  cCond g004
   (cSeq (cReg 3 (
    oSeq (oMv g000 s005) <|
    oSeq (oGen (.bin .shr .int (.t 5) (.c (.int .u64 16))) 1 s006) <|
    oMv g006 s000)) <|
   cReg 1 (
    oMv (kc (.int .i64 16)) s002))
   (cSkip)) <|
  cSeq (cSeq (cReg 2 (
   oSeq (oMv g000 s007) <|
   oP (vGeq g007 (kc (.int .u32 256))) s010)) <|
  cCond g010
   (cSeq (cReg 3 (
    oSeq (oMv g000 s011) <|
    oSeq (oGen (.bin .shr .int (.t 9) (.c (.int .u64 8))) 1 s012) <|
    oMv g012 s000)) <|
   cReg 3 (
    oSeq (oMv g002 s013) <|
    oSeq (oP (vAdd g013 (kc (.int .i64 8))) s014) <|
    oMv g014 s002))
   (cSkip)) <|
  cSeq (cReg 7 (
   oSeq (oMv g002 s015) <|
   oSeq (oMv g000 s016) <|
   oSeq (oGen (.conv .u8 (.t 14)) 2 s017) <|
   oSeq (oGen (.indexStr (.c (.str ⟨#[0, 1, 2, 2, 3, 3, 3, 3, 4, 4, 4, 4, 4, 4, 4, 4, 5, 5, 5, 5, 5, 5, 5, 5, 5, 5, 5, 5, 5, 5, 5, 5, 6, 6, 6, 6, 6, 6, 6, 6, 6, 6, 6, 6, 6, 6, 6, 6, 6, 6, 6, 6, 6, 6, 6, 6, 6, 6, 6, 6, 6, 6, 6, 6, 7, 7, 7, 7, 7, 7, 7, 7, 7, 7, 7, 7, 7, 7, 7, 7, 7, 7, 7, 7, 7, 7, 7, 7, 7, 7, 7, 7, 7, 7, 7, 7, 7, 7, 7, 7, 7, 7, 7, 7, 7, 7, 7, 7, 7, 7, 7, 7, 7, 7, 7, 7, 7, 7, 7, 7, 7, 7, 7, 7, 7, 7, 7, 7, 8, 8, 8, 8, 8, 8, 8, 8, 8, 8, 8, 8, 8, 8, 8, 8, 8, 8, 8, 8, 8, 8, 8, 8, 8, 8, 8, 8, 8, 8, 8, 8, 8, 8, 8, 8, 8, 8, 8, 8, 8, 8, 8, 8, 8, 8, 8, 8, 8, 8, 8, 8, 8, 8, 8, 8, 8, 8, 8, 8, 8, 8, 8, 8, 8, 8, 8, 8, 8, 8, 8, 8, 8, 8, 8, 8, 8, 8, 8, 8, 8, 8, 8, 8, 8, 8, 8, 8, 8, 8, 8, 8, 8, 8, 8, 8, 8, 8, 8, 8, 8, 8, 8, 8, 8, 8, 8, 8, 8, 8, 8, 8, 8, 8, 8, 8, 8, 8, 8, 8, 8, 8, 8, 8, 8, 8, 8, 8]⟩)) (.t 15)) 3 s020) <|
   oSeq (oGen (.conv .i64 (.t 16)) 4 s021) <|
   oSeq (oP (vAdd g015 g021) s022) <|
   oMv g022 s002)) <|
  cExit 0⟩
def afn71 : AFn := ⟨5, 148, [],
  .seq (.region [
   ⟨(some 10), .mv (.c (.bool true)), none⟩]) <|
  .seq (.region [
   ⟨(some 11), .mv (.c (.bool true)), none⟩]) <|
  .block 0 (.loop (.block 1 (.seq (.region [
      ⟨(some 21), .mv (.t 2), none⟩,
      ⟨(some 22), .mv (.t 1), none⟩,
      ⟨(some 23), .bin .sub .int (.t 21) (.t 22), none⟩,
      ⟨(some 12), .mv (.t 23), none⟩]) <|
     .seq (.seq (.region [
      ⟨(some 24), .mv (.t 12), none⟩,
      ⟨(some 25), .bin .leq .int (.t 24) (.c (.int .i64 12)), none⟩]) <|
     .cond (.t 25)
      (.seq (.region [
       ⟨(some 26), .mv (.t 0), none⟩,
       ⟨(some 27), .mv (.t 1), none⟩,
       ⟨(some 28), .mv (.t 2), none⟩,
       ⟨(some 29), .mv (.t 4), none⟩,
       ⟨(some 30), .call (.c (.fn (.func 94) [] [])) [(.t 26), (.t 27), (.t 28), (.t 29)], none⟩]) <|
      .ret)
      (.skip)) <|
     .seq (.seq (.region [
      ⟨(some 31), .mv (.t 3), none⟩,
      ⟨(some 32), .bin .eql .int (.t 31) (.c (.int .i64 0)), none⟩]) <|
     .cond (.t 32)
      (.seq (.region [
       ⟨(some 33), .mv (.t 0), none⟩,
       ⟨(some 34), .mv (.t 1), none⟩,
       ⟨(some 35), .mv (.t 2), none⟩,
       ⟨(some 36), .mv (.t 4), none⟩,
       ⟨(some 37), .call (.c (.fn (.func 95) [] [])) [(.t 33), (.t 34), (.t 35), (.t 36)], none⟩]) <|
      .ret)
      (.skip)) <|
     .seq (.seq (.region [
      ⟨(some 38), .mv (.t 10), none⟩,
      ⟨(some 39), .un .not (.t 38), none⟩]) <|
     .cond (.t 39)
      (.seq (.region [
       ⟨(some 40), .mv (.t 0), none⟩,
       ⟨(some 41), .mv (.t 1), none⟩,
       ⟨(some 42), .mv (.t 2), none⟩,
       ⟨(some 43), .mv (.t 4), none⟩,
       ⟨(some 44), .call (.c (.fn (.func 96) [] [])) [(.t 40), (.t 41), (.t 42), (.t 43)], none⟩]) <|
      .region [
       ⟨(some 45), .mv (.t 3), none⟩,
       ⟨(some 46), .bin .sub .int (.t 45) (.c (.int .i64 1)), none⟩,
       ⟨(some 3), .mv (.t 46), none⟩])
      (.skip)) <|
     .seq (.region [
      ⟨(some 48), .mv (.t 0), none⟩,
      ⟨(some 49), .mv (.t 1), none⟩,
      ⟨(some 50), .mv (.t 2), none⟩,
      ⟨(some 51), .mv (.t 4), none⟩,
      ⟨(some 52), .call (.c (.fn (.func 97) [] [])) [(.t 48), (.t 49), (.t 50), (.t 51)], none⟩,
      ⟨(some 47), .mv (.t 52), none⟩,
      ⟨(some 53), .extract 0 (.t 47), none⟩,
      ⟨(some 54), .extract 1 (.t 47), none⟩,
      ⟨(some 13), .mv (.t 53), none⟩,
      ⟨(some 14), .mv (.t 54), none⟩]) <|
     .seq (.seq (.region [
      ⟨(some 55), .mv (.t 14), none⟩,
      ⟨(some 56), .bin .eql .int (.t 55) (.c (.int .i64 2)), none⟩]) <|
     .cond (.t 56)
      (.seq (.region [
       ⟨(some 57), .mv (.t 0), none⟩,
       ⟨(some 58), .mv (.t 1), none⟩,
       ⟨(some 59), .mv (.t 2), none⟩,
       ⟨(some 60), .mv (.t 4), none⟩,
       ⟨(some 61), .call (.c (.fn (.func 98) [] [])) [(.t 57), (.t 58), (.t 59), (.t 60)], none⟩]) <|
      .seq (.region [
       ⟨(some 62), .mv (.t 2), none⟩,
       ⟨(some 63), .bin .sub .int (.t 62) (.c (.int .i64 1)), none⟩,
       ⟨(some 64), .mv (.t 13), none⟩,
       ⟨(some 65), .mv (.t 1), none⟩,
       ⟨(some 66), .bin .sub .int (.t 64) (.t 65), none⟩,
       ⟨(some 67), .bin .sub .int (.t 63) (.t 66), none⟩,
       ⟨(some 13), .mv (.t 67), none⟩]) <|
      .region [
       ⟨(some 14), .mv (.c (.int .i64 1)), none⟩])
      (.skip)) <|
     .seq (.seq (.region [
      ⟨(some 68), .mv (.t 10), none⟩,
      ⟨(some 69), .mv (.t 68), none⟩,
      ⟨(some 70), .mv (.t 11), (some (69, true))⟩,
      ⟨(some 71), .pick (.t 69) (.t 70) (.c (.bool false)), none⟩,
      ⟨(some 72), .mv (.t 71), none⟩,
      ⟨(some 73), .mv (.t 14), (some (72, true))⟩,
      ⟨(some 74), .bin .eql .int (.t 73) (.c (.int .i64 1)), (some (72, true))⟩,
      ⟨(some 75), .pick (.t 72) (.t 74) (.c (.bool false)), none⟩]) <|
     .cond (.t 75)
      (.seq (.region [
       ⟨(some 76), .mv (.t 0), none⟩,
       ⟨(some 77), .mv (.t 1), none⟩,
       ⟨(some 78), .mv (.t 2), none⟩,
       ⟨(some 79), .mv (.t 4), none⟩,
       ⟨(some 80), .call (.c (.fn (.func 99) [] [])) [(.t 76), (.t 77), (.t 78), (.t 79)], none⟩]) <|
      .cond (.t 80)
       (.ret)
       (.skip))
      (.skip)) <|
     .seq (.seq (.draw [
      ⟨(some 81), .mv (.t 1), none, [(1, none)], 0, [(0, [])]⟩,
      ⟨(some 82), .bin .gtr .int (.t 81) (.c (.int .i64 0)), none, [(81, (some 0))], 0, [(0, [])]⟩,
      ⟨(some 83), .mv (.t 82), none, [(82, (some 1))], 0, [(0, [])]⟩,
      ⟨(some 84), .mv (.t 4), (some (83, true)), [(4, none), (83, (some 2))], 0, [(0, [])]⟩,
      ⟨(some 85), .mv (.t 0), (some (83, true)), [(0, none), (83, (some 2))], 0, [(0, [])]⟩,
      ⟨(some 86), .mv (.t 1), (some (83, true)), [(1, none), (83, (some 2))], 0, [(0, [])]⟩,
      ⟨(some 87), .bin .sub .int (.t 86) (.c (.int .i64 1)), (some (83, true)), [(86, (some 5)), (83, (some 2))], 0, [(0, [])]⟩,
      ⟨(some 88), .indexAddr 1 (.t 85) (.t 87), (some (83, true)), [(85, (some 4)), (87, (some 6)), (83, (some 2))], 0, [(0, [])]⟩,
      ⟨(some 89), .load none (.t 88), (some (83, true)), [(88, (some 7)), (83, (some 2))], 0, [(0, [])]⟩,
      ⟨(some 90), .mv (.t 0), (some (83, true)), [(0, none), (83, (some 2))], 0, [(0, [])]⟩,
      ⟨(some 91), .mv (.t 13), (some (83, true)), [(13, none), (83, (some 2))], 0, [(0, [])]⟩,
      ⟨(some 92), .indexAddr 1 (.t 90) (.t 91), (some (83, true)), [(90, (some 9)), (91, (some 10)), (83, (some 2))], 0, [(0, [])]⟩,
      ⟨(some 93), .load none (.t 92), (some (83, true)), [(92, (some 11)), (83, (some 2))], 0, [(0, [])]⟩,
      ⟨(some 94), .call (.t 84) [(.t 89), (.t 93)], (some (83, true)), [(84, (some 3)), (89, (some 8)), (93, (some 12)), (83, (some 2))], 2, [(0, [])]⟩,
      ⟨(some 95), .bin .lss .int (.t 94) (.c (.int .i64 0)), (some (83, true)), [(94, (some 13)), (83, (some 2))], 0, [(1, [])]⟩,
      ⟨(some 96), .un .not (.t 95), (some (83, true)), [(95, (some 14)), (83, (some 2))], 0, [(1, [])]⟩,
      ⟨(some 97), .pick (.t 83) (.t 96) (.c (.bool false)), none, [(83, (some 2)), (96, (some 15))], 0, [(1, [])]⟩] []) <|
     .cond (.t 97)
      (.seq (.region [
       ⟨(some 98), .mv (.t 0), none⟩,
       ⟨(some 99), .mv (.t 1), none⟩,
       ⟨(some 100), .mv (.t 2), none⟩,
       ⟨(some 101), .mv (.t 13), none⟩,
       ⟨(some 102), .mv (.t 4), none⟩,
       ⟨(some 103), .call (.c (.fn (.func 100) [] [])) [(.t 98), (.t 99), (.t 100), (.t 101), (.t 102)], none⟩,
       ⟨(some 15), .mv (.t 103), none⟩]) <|
      .seq (.region [
       ⟨(some 104), .mv (.t 15), none⟩,
       ⟨(some 1), .mv (.t 104), none⟩]) <|
      .exit 1)
      (.skip)) <|
     .seq (.region [
      ⟨(some 106), .mv (.t 0), none⟩,
      ⟨(some 107), .mv (.t 1), none⟩,
      ⟨(some 108), .mv (.t 2), none⟩,
      ⟨(some 109), .mv (.t 13), none⟩,
      ⟨(some 110), .mv (.t 4), none⟩,
      ⟨(some 111), .call (.c (.fn (.func 101) [] [])) [(.t 106), (.t 107), (.t 108), (.t 109), (.t 110)], none⟩,
      ⟨(some 105), .mv (.t 111), none⟩,
      ⟨(some 112), .extract 0 (.t 105), none⟩,
      ⟨(some 113), .extract 1 (.t 105), none⟩,
      ⟨(some 16), .mv (.t 112), none⟩,
      ⟨(some 17), .mv (.t 113), none⟩]) <|
     .seq (.region [
      ⟨(some 114), .mv (.t 17), none⟩,
      ⟨(some 11), .mv (.t 114), none⟩]) <|
     .seq (.region [
      ⟨(some 115), .mv (.t 16), none⟩,
      ⟨(some 116), .mv (.t 1), none⟩,
      ⟨(some 117), .bin .sub .int (.t 115) (.t 116), none⟩,
      ⟨(some 118), .mv (.t 2), none⟩,
      ⟨(some 119), .mv (.t 16), none⟩,
      ⟨(some 120), .bin .sub .int (.t 118) (.t 119), none⟩,
      ⟨(some 18), .mv (.t 117), none⟩,
      ⟨(some 19), .mv (.t 120), none⟩]) <|
     .seq (.region [
      ⟨(some 121), .mv (.t 12), none⟩,
      ⟨(some 122), .bin .quo .int (.t 121) (.c (.int .i64 8)), none⟩,
      ⟨(some 20), .mv (.t 122), none⟩]) <|
     .seq (.region [
      ⟨(some 123), .mv (.t 18), none⟩,
      ⟨(some 124), .mv (.t 19), none⟩,
      ⟨(some 125), .bin .lss .int (.t 123) (.t 124), none⟩]) <|
     .cond (.t 125)
      (.seq (.region [
       ⟨(some 126), .mv (.t 18), none⟩,
       ⟨(some 127), .mv (.t 20), none⟩,
       ⟨(some 128), .bin .geq .int (.t 126) (.t 127), none⟩,
       ⟨(some 10), .mv (.t 128), none⟩]) <|
      .seq (.region [
       ⟨(some 129), .mv (.t 0), none⟩,
       ⟨(some 130), .mv (.t 1), none⟩,
       ⟨(some 131), .mv (.t 16), none⟩,
       ⟨(some 132), .mv (.t 3), none⟩,
       ⟨(some 133), .mv (.t 4), none⟩,
       ⟨(some 134), .call (.c (.fn (.func 71) [] [])) [(.t 129), (.t 130), (.t 131), (.t 132), (.t 133)], none⟩]) <|
      .region [
       ⟨(some 135), .mv (.t 16), none⟩,
       ⟨(some 136), .bin .add .int (.t 135) (.c (.int .i64 1)), none⟩,
       ⟨(some 1), .mv (.t 136), none⟩])
      (.seq (.region [
       ⟨(some 137), .mv (.t 19), none⟩,
       ⟨(some 138), .mv (.t 20), none⟩,
       ⟨(some 139), .bin .geq .int (.t 137) (.t 138), none⟩,
       ⟨(some 10), .mv (.t 139), none⟩]) <|
      .seq (.region [
       ⟨(some 140), .mv (.t 0), none⟩,
       ⟨(some 141), .mv (.t 16), none⟩,
       ⟨(some 142), .bin .add .int (.t 141) (.c (.int .i64 1)), none⟩,
       ⟨(some 143), .mv (.t 2), none⟩,
       ⟨(some 144), .mv (.t 3), none⟩,
       ⟨(some 145), .mv (.t 4), none⟩,
       ⟨(some 146), .call (.c (.fn (.func 71) [] [])) [(.t 140), (.t 142), (.t 143), (.t 144), (.t 145)], none⟩]) <|
      .region [
       ⟨(some 147), .mv (.t 16), none⟩,
       ⟨(some 2), .mv (.t 147), none⟩])))), none⟩
noncomputable def ffn71 : FFn := ⟨5, 148, [],
  cSeq (cReg 1 (
   oMv (kc (.bool true)) s012)) <|
  cSeq (cReg 1 (
   oMv (kc (.bool true)) s013)) <|
  cBlock 1 (cLoop 1000000 (cBlock 3 (cSeq (cReg 4 (
      oSeq (oMv g002 s025) <|
      oSeq (oMv g001 s026) <|
      oSeq (oP (vSub g025 g026) s027) <|
      oMv g027 s014)) <|
     cSeq (cSeq (cReg 2 (
      oSeq (oMv g014 s030) <|
      oP (vLeq g030 (kc (.int .i64 12))) s031)) <|
     cCond g031
      (cSeq (cReg 5 (
       oSeq (oMv g000 s032) <|
       oSeq (oMv g001 s033) <|
       oSeq (oMv g002 s034) <|
       oSeq (oMv g004 s035) <|
       oCallF 94 (fun T => [g032 T, g033 T, g034 T, g035 T]) s036)) <|
      cExit 0)
      (cSkip)) <|
     cSeq (cSeq (cReg 2 (
      oSeq (oMv g003 s037) <|
      oP (vEql g037 (kc (.int .i64 0))) s040)) <|
     cCond g040
      (cSeq (cReg 5 (
       oSeq (oMv g000 s041) <|
       oSeq (oMv g001 s042) <|
       oSeq (oMv g002 s043) <|
       oSeq (oMv g004 s044) <|
       oCallF 95 (fun T => [g041 T, g042 T, g043 T, g044 T]) s045)) <|
      cExit 0)
      (cSkip)) <|
     cSeq (cSeq (cReg 2 (
      oSeq (oMv g012 s046) <|
      oGen (.un .not (.t 38)) 1 s047)) <|
     cCond g047
      (cSeq (cReg 5 (
       oSeq (oMv g000 s050) <|
       oSeq (oMv g001 s051) <|
       oSeq (oMv g002 s052) <|
       oSeq (oMv g004 s053) <|
       oCallF 96 (fun T => [g050 T, g051 T, g052 T, g053 T]) s054)) <|
      cReg 3 (
       oSeq (oMv g003 s055) <|
       oSeq (oP (vSub g055 (kc (.int .i64 1))) s056) <|
       oMv g056 s003))
      (cSkip)) <|
     cSeq (cReg 10 (
      oSeq (oMv g000 s060) <|
      oSeq (oMv g001 s061) <|
      oSeq (oMv g002 s062) <|
      oSeq (oMv g004 s063) <|
      oSeq (oCallF 97 (fun T => [g060 T, g061 T, g062 T, g063 T]) s064) <|
      oSeq (oMv g064 s057) <|
      oSeq (oP (vExt 0 g057) s065) <|
      oSeq (oP (vExt 1 g057) s066) <|
      oSeq (oMv g065 s015) <|
      oMv g066 s016)) <|
     cSeq (cSeq (cReg 2 (
      oSeq (oMv g016 s067) <|
      oP (vEql g067 (kc (.int .i64 2))) s070)) <|
     cCond g070
      (cSeq (cReg 5 (
       oSeq (oMv g000 s071) <|
       oSeq (oMv g001 s072) <|
       oSeq (oMv g002 s073) <|
       oSeq (oMv g004 s074) <|
       oCallF 98 (fun T => [g071 T, g072 T, g073 T, g074 T]) s075)) <|
      cSeq (cReg 7 (
       oSeq (oMv g002 s076) <|
       oSeq (oP (vSub g076 (kc (.int .i64 1))) s077) <|
       oSeq (oMv g015 s100) <|
       oSeq (oMv g001 s101) <|
       oSeq (oP (vSub g100 g101) s102) <|
       oSeq (oP (vSub g077 g102) s103) <|
       oMv g103 s015)) <|
      cReg 1 (
       oMv (kc (.int .i64 1)) s016))
      (cSkip)) <|
     cSeq (cSeq (cReg 8 (
      oSeq (oMv g012 s104) <|
      oSeq (oMv g104 s105) <|
      oSeq (oGuard g105 true s106 (oMv g013 s106)) <|
      oSeq (oP (vPick g105 g106 (kc (.bool false))) s107) <|
      oSeq (oMv g107 s110) <|
      oSeq (oGuard g110 true s111 (oMv g016 s111)) <|
      oSeq (oGuard g110 true s112 (oP (vEql g111 (kc (.int .i64 1))) s112)) <|
      oP (vPick g110 g112 (kc (.bool false))) s113)) <|
     cCond g113
      (cSeq (cReg 5 (
       oSeq (oMv g000 s114) <|
       oSeq (oMv g001 s115) <|
       oSeq (oMv g002 s116) <|
       oSeq (oMv g004 s117) <|
       oCallF 99 (fun T => [g114 T, g115 T, g116 T, g117 T]) s120)) <|
      cCond g120
       (cExit 0)
       (cSkip))
      (cSkip)) <|
     cSeq (cSeq (cDrw 17 (
      dSeq (dLook 0 [] (oMv g001 s121)) <|
      dSeq (dLook 0 [] (oP (vGtr g121 (kc (.int .i64 0))) s122)) <|
      dSeq (dLook 0 [] (oMv g122 s123)) <|
      dSeq (dLook 0 [] (oGuard g123 true s124 (oMv g004 s124))) <|
      dSeq (dLook 0 [] (oGuard g123 true s125 (oMv g000 s125))) <|
      dSeq (dLook 0 [] (oGuard g123 true s126 (oMv g001 s126))) <|
      dSeq (dLook 0 [] (oGuard g123 true s127 (oP (vSub g126 (kc (.int .i64 1))) s127))) <|
      dSeq (dLook 0 [] (oGuard g123 true s130 (oP (vIdx 1 g125 g127) s130))) <|
      dSeq (dLook 0 [] (oGuard g123 true s131 (oLoad g130 s131))) <|
      dSeq (dLook 0 [] (oGuard g123 true s132 (oMv g000 s132))) <|
      dSeq (dLook 0 [] (oGuard g123 true s133 (oMv g015 s133))) <|
      dSeq (dLook 0 [] (oGuard g123 true s134 (oP (vIdx 1 g132 g133) s134))) <|
      dSeq (dLook 0 [] (oGuard g123 true s135 (oLoad g134 s135))) <|
      dSeq (dAct 0 [] (oGuard g123 true s136 (oCall g124 (fun T => [g131 T, g135 T]) s136))) <|
      dSeq (dLook 0 [] (oGuard g123 true s137 (oP (vLss g136 (kc (.int .i64 0))) s137))) <|
      dSeq (dLook 0 [] (oGuard g123 true s140 (oGen (.un .not (.t 95)) 15 s140))) <|
      dSeq (dLook 0 [] (oP (vPick g123 g140 (kc (.bool false))) s141)) <|
      dNop)
      (ckNop) []) <|
     cCond g141
      (cSeq (cReg 7 (
       oSeq (oMv g000 s142) <|
       oSeq (oMv g001 s143) <|
       oSeq (oMv g002 s144) <|
       oSeq (oMv g015 s145) <|
       oSeq (oMv g004 s146) <|
       oSeq (oCallF 100 (fun T => [g142 T, g143 T, g144 T, g145 T, g146 T]) s147) <|
       oMv g147 s017)) <|
      cSeq (cReg 2 (
       oSeq (oMv g017 s150) <|
       oMv g150 s001)) <|
      cExit 3)
      (cSkip)) <|
     cSeq (cReg 11 (
      oSeq (oMv g000 s152) <|
      oSeq (oMv g001 s153) <|
      oSeq (oMv g002 s154) <|
      oSeq (oMv g015 s155) <|
      oSeq (oMv g004 s156) <|
      oSeq (oCallF 101 (fun T => [g152 T, g153 T, g154 T, g155 T, g156 T]) s157) <|
      oSeq (oMv g157 s151) <|
      oSeq (oP (vExt 0 g151) s160) <|
      oSeq (oP (vExt 1 g151) s161) <|
      oSeq (oMv g160 s020) <|
      oMv g161 s021)) <|
     cSeq (cReg 2 (
      oSeq (oMv g021 s162) <|
      oMv g162 s013)) <|
     cSeq (cReg 8 (
      oSeq (oMv g020 s163) <|
      oSeq (oMv g001 s164) <|
      oSeq (oP (vSub g163 g164) s165) <|
      oSeq (oMv g002 s166) <|
      oSeq (oMv g020 s167) <|
      oSeq (oP (vSub g166 g167) s170) <|
      oSeq (oMv g165 s022) <|
      oMv g170 s023)) <|
     cSeq (cReg 3 (
      oSeq (oMv g014 s171) <|
      oSeq (oGen (.bin .quo .int (.t 121) (.c (.int .i64 8))) 1 s172) <|
      oMv g172 s024)) <|
     cSeq (cReg 3 (
      oSeq (oMv g022 s173) <|
      oSeq (oMv g023 s174) <|
      oP (vLss g173 g174) s175)) <|
     cCond g175
      (cSeq (cReg 4 (
       oSeq (oMv g022 s176) <|
       oSeq (oMv g024 s177) <|
       oSeq (oP (vGeq g176 g177) s200) <|
       oMv g200 s012)) <|
      cSeq (cReg 6 (
       oSeq (oMv g000 s201) <|
       oSeq (oMv g001 s202) <|
       oSeq (oMv g020 s203) <|
       oSeq (oMv g003 s204) <|
       oSeq (oMv g004 s205) <|
       oCallF 71 (fun T => [g201 T, g202 T, g203 T, g204 T, g205 T]) s206)) <|
      cReg 3 (
       oSeq (oMv g020 s207) <|
       oSeq (oP (vAdd g207 (kc (.int .i64 1))) s210) <|
       oMv g210 s001))
      (cSeq (cReg 4 (
       oSeq (oMv g023 s211) <|
       oSeq (oMv g024 s212) <|
       oSeq (oP (vGeq g211 g212) s213) <|
       oMv g213 s012)) <|
      cSeq (cReg 7 (
       oSeq (oMv g000 s214) <|
       oSeq (oMv g020 s215) <|
       oSeq (oP (vAdd g215 (kc (.int .i64 1))) s216) <|
       oSeq (oMv g002 s217) <|
       oSeq (oMv g003 s220) <|
       oSeq (oMv g004 s221) <|
       oCallF 71 (fun T => [g214 T, g216 T, g217 T, g220 T, g221 T]) s222)) <|
      cReg 2 (
       oSeq (oMv g020 s223) <|
       oMv g223 s002)))))⟩
def afn94 : AFn := ⟨4, 53, [],
  .seq (.region [
   ⟨(some 10), .mv (.t 1), none⟩,
   ⟨(some 11), .bin .add .int (.t 10) (.c (.int .i64 1)), none⟩,
   ⟨(some 8), .mv (.t 11), none⟩]) <|
  .block 0 (.loop (.seq (.seq (.region [
     ⟨(some 12), .mv (.t 8), none⟩,
     ⟨(some 13), .mv (.t 2), none⟩,
     ⟨(some 14), .bin .lss .int (.t 12) (.t 13), none⟩]) <|
    .cond (.t 14)
     (.skip)
     (.exit 0)) <|
    .seq (.block 1 (.seq (.region [
      ⟨(some 17), .mv (.t 8), none⟩,
      ⟨(some 9), .mv (.t 17), none⟩]) <|
     .block 2 (.loop (.seq (.seq (.draw [
        ⟨(some 18), .mv (.t 9), none, [(9, none)], 0, [(0, [])]⟩,
        ⟨(some 19), .mv (.t 1), none, [(1, none)], 0, [(0, [])]⟩,
        ⟨(some 20), .bin .gtr .int (.t 18) (.t 19), none, [(18, (some 0)), (19, (some 1))], 0, [(0, [])]⟩,
        ⟨(some 21), .mv (.t 20), none, [(20, (some 2))], 0, [(0, [])]⟩,
        ⟨(some 22), .mv (.t 3), (some (21, true)), [(3, none), (21, (some 3))], 0, [(0, [])]⟩,
        ⟨(some 23), .mv (.t 0), (some (21, true)), [(0, none), (21, (some 3))], 0, [(0, [])]⟩,
        ⟨(some 24), .mv (.t 9), (some (21, true)), [(9, none), (21, (some 3))], 0, [(0, [])]⟩,
        ⟨(some 25), .indexAddr 1 (.t 23) (.t 24), (some (21, true)), [(23, (some 5)), (24, (some 6)), (21, (some 3))], 0, [(0, [])]⟩,
        ⟨(some 26), .load none (.t 25), (some (21, true)), [(25, (some 7)), (21, (some 3))], 0, [(0, [])]⟩,
        ⟨(some 27), .mv (.t 0), (some (21, true)), [(0, none), (21, (some 3))], 0, [(0, [])]⟩,
        ⟨(some 28), .mv (.t 9), (some (21, true)), [(9, none), (21, (some 3))], 0, [(0, [])]⟩,
        ⟨(some 29), .bin .sub .int (.t 28) (.c (.int .i64 1)), (some (21, true)), [(28, (some 10)), (21, (some 3))], 0, [(0, [])]⟩,
        ⟨(some 30), .indexAddr 1 (.t 27) (.t 29), (some (21, true)), [(27, (some 9)), (29, (some 11)), (21, (some 3))], 0, [(0, [])]⟩,
        ⟨(some 31), .load none (.t 30), (some (21, true)), [(30, (some 12)), (21, (some 3))], 0, [(0, [])]⟩,
        ⟨(some 32), .call (.t 22) [(.t 26), (.t 31)], (some (21, true)), [(22, (some 4)), (26, (some 8)), (31, (some 13)), (21, (some 3))], 2, [(0, [])]⟩,
        ⟨(some 33), .bin .lss .int (.t 32) (.c (.int .i64 0)), (some (21, true)), [(32, (some 14)), (21, (some 3))], 0, [(1, [])]⟩,
        ⟨(some 34), .pick (.t 21) (.t 33) (.c (.bool false)), none, [(21, (some 3)), (33, (some 15))], 0, [(1, [])]⟩] []) <|
       .cond (.t 34)
        (.skip)
        (.exit 2)) <|
       .seq (.block 3 (.draw [
         ⟨(some 37), .mv (.t 0), none, [(0, none)], 0, [(0, [])]⟩,
         ⟨(some 38), .mv (.t 9), none, [(9, none)], 0, [(0, [])]⟩,
         ⟨(some 39), .mv (.t 0), none, [(0, none)], 0, [(0, []), (1, [])]⟩,
         ⟨(some 40), .mv (.t 9), none, [(9, none)], 0, [(0, []), (1, [])]⟩,
         ⟨(some 41), .bin .sub .int (.t 40) (.c (.int .i64 1)), none, [(40, (some 3))], 0, [(0, []), (1, [])]⟩,
         ⟨(some 42), .mv (.t 0), none, [(0, none)], 0, [(0, [])]⟩,
         ⟨(some 43), .mv (.t 9), none, [(9, none)], 0, [(0, [])]⟩,
         ⟨(some 44), .bin .sub .int (.t 43) (.c (.int .i64 1)), none, [(43, (some 6))], 0, [(0, [])]⟩,
         ⟨(some 45), .indexAddr 1 (.t 42) (.t 44), none, [(42, (some 5)), (44, (some 7))], 0, [(0, [])]⟩,
         ⟨(some 46), .load none (.t 45), none, [(45, (some 8))], 0, [(0, [])]⟩,
         ⟨(some 47), .mv (.t 0), none, [(0, none)], 0, [(0, [])]⟩,
         ⟨(some 48), .mv (.t 9), none, [(9, none)], 0, [(0, [])]⟩,
         ⟨(some 49), .indexAddr 1 (.t 47) (.t 48), none, [(47, (some 10)), (48, (some 11))], 0, [(0, [])]⟩,
         ⟨(some 50), .load none (.t 49), none, [(49, (some 12))], 0, [(0, [])]⟩,
         ⟨(some 51), .indexAddr 1 (.t 37) (.t 38), none, [(37, (some 0)), (38, (some 1))], 0, [(0, [])]⟩,
         ⟨none, .store 1 (.t 51) (.t 46), none, [(51, (some 14)), (46, (some 9))], 2, [(0, [])]⟩,
         ⟨(some 52), .indexAddr 1 (.t 39) (.t 41), none, [(39, (some 2)), (41, (some 4))], 0, [(1, [])]⟩,
         ⟨none, .store 1 (.t 52) (.t 50), none, [(52, (some 16)), (50, (some 13))], 2, [(1, [])]⟩] [])) <|
       .region [
        ⟨(some 35), .mv (.t 9), none⟩,
        ⟨(some 36), .bin .sub .int (.t 35) (.c (.int .i64 1)), none⟩,
        ⟨(some 9), .mv (.t 36), none⟩])))) <|
    .region [
     ⟨(some 15), .mv (.t 8), none⟩,
     ⟨(some 16), .bin .add .int (.t 15) (.c (.int .i64 1)), none⟩,
     ⟨(some 8), .mv (.t 16), none⟩])), none⟩
noncomputable def ffn94 : FFn := ⟨4, 53, [],
  cSeq (cReg 3 (
   oSeq (oMv g001 s012) <|
   oSeq (oP (vAdd g012 (kc (.int .i64 1))) s013) <|
   oMv g013 s010)) <|
  cBlock 1 (cLoop 1000000 (cSeq (cSeq (cReg 3 (
     oSeq (oMv g010 s014) <|
     oSeq (oMv g002 s015) <|
     oP (vLss g014 g015) s016)) <|
    cCond g016
     (cSkip)
     (cExit 1)) <|
    cSeq (cBlock 3 (cSeq (cReg 2 (
      oSeq (oMv g010 s021) <|
      oMv g021 s011)) <|
     cBlock 5 (cLoop 1000000 (cSeq (cSeq (cDrw 17 (
        dSeq (dLook 0 [] (oMv g011 s022)) <|
        dSeq (dLook 0 [] (oMv g001 s023)) <|
        dSeq (dLook 0 [] (oP (vGtr g022 g023) s024)) <|
        dSeq (dLook 0 [] (oMv g024 s025)) <|
        dSeq (dLook 0 [] (oGuard g025 true s026 (oMv g003 s026))) <|
        dSeq (dLook 0 [] (oGuard g025 true s027 (oMv g000 s027))) <|
        dSeq (dLook 0 [] (oGuard g025 true s030 (oMv g011 s030))) <|
        dSeq (dLook 0 [] (oGuard g025 true s031 (oP (vIdx 1 g027 g030) s031))) <|
        dSeq (dLook 0 [] (oGuard g025 true s032 (oLoad g031 s032))) <|
        dSeq (dLook 0 [] (oGuard g025 true s033 (oMv g000 s033))) <|
        dSeq (dLook 0 [] (oGuard g025 true s034 (oMv g011 s034))) <|
        dSeq (dLook 0 [] (oGuard g025 true s035 (oP (vSub g034 (kc (.int .i64 1))) s035))) <|
        dSeq (dLook 0 [] (oGuard g025 true s036 (oP (vIdx 1 g033 g035) s036))) <|
        dSeq (dLook 0 [] (oGuard g025 true s037 (oLoad g036 s037))) <|
        dSeq (dAct 0 [] (oGuard g025 true s040 (oCall g026 (fun T => [g032 T, g037 T]) s040))) <|
        dSeq (dLook 0 [] (oGuard g025 true s041 (oP (vLss g040 (kc (.int .i64 0))) s041))) <|
        dSeq (dLook 0 [] (oP (vPick g025 g041 (kc (.bool false))) s042)) <|
        dNop)
        (ckNop) []) <|
       cCond g042
        (cSkip)
        (cExit 5)) <|
       cSeq (cBlock 7 (cDrw 18 (
         dSeq (dLook 0 [] (oMv g000 s045)) <|
         dSeq (dLook 0 [] (oMv g011 s046)) <|
         dSeq (dLook 0 [] (oMv g000 s047)) <|
         dSeq (dLook 0 [] (oMv g011 s050)) <|
         dSeq (dLook 0 [] (oP (vSub g050 (kc (.int .i64 1))) s051)) <|
         dSeq (dLook 0 [] (oMv g000 s052)) <|
         dSeq (dLook 0 [] (oMv g011 s053)) <|
         dSeq (dLook 0 [] (oP (vSub g053 (kc (.int .i64 1))) s054)) <|
         dSeq (dLook 0 [] (oP (vIdx 1 g052 g054) s055)) <|
         dSeq (dLook 0 [] (oLoad g055 s056)) <|
         dSeq (dLook 0 [] (oMv g000 s057)) <|
         dSeq (dLook 0 [] (oMv g011 s060)) <|
         dSeq (dLook 0 [] (oP (vIdx 1 g057 g060) s061)) <|
         dSeq (dLook 0 [] (oLoad g061 s062)) <|
         dSeq (dLook 0 [] (oP (vIdx 1 g045 g046) s063)) <|
         dSeq (dAct 0 [] (oStore g063 g056 noPut)) <|
         dSeq (dLook 0 [] (oP (vIdx 1 g047 g051) s064)) <|
         dSeq (dAct 0 [] (oStore g064 g062 noPut)) <|
         dNop)
         (ckNop) [])) <|
       cReg 3 (
        oSeq (oMv g011 s043) <|
        oSeq (oP (vSub g043 (kc (.int .i64 1))) s044) <|
        oMv g044 s011))))) <|
    cReg 3 (
     oSeq (oMv g010 s017) <|
     oSeq (oP (vAdd g017 (kc (.int .i64 1))) s020) <|
     oMv g020 s010)))⟩
def afn95 : AFn := ⟨4, 60, [],
  .seq (.region [
   ⟨(some 13), .mv (.t 1), none⟩,
   ⟨(some 8), .mv (.t 13), none⟩]) <|
  .seq (.region [
   ⟨(some 9), .mv (.c (.int .i64 0)), none⟩]) <|
  .seq (.region [
   ⟨(some 14), .mv (.t 2), none⟩,
   ⟨(some 15), .mv (.t 1), none⟩,
   ⟨(some 16), .bin .sub .int (.t 14) (.t 15), none⟩,
   ⟨(some 10), .mv (.t 16), none⟩]) <|
  .seq (.seq (.region [
   ⟨(some 17), .mv (.t 10), none⟩,
   ⟨(some 18), .bin .sub .int (.t 17) (.c (.int .i64 1)), none⟩,
   ⟨(some 19), .bin .quo .int (.t 18) (.c (.int .i64 2)), none⟩,
   ⟨(some 11), .mv (.t 19), none⟩]) <|
  .block 0 (.loop (.seq (.seq (.region [
     ⟨(some 20), .mv (.t 11), none⟩,
     ⟨(some 21), .bin .geq .int (.t 20) (.c (.int .i64 0)), none⟩]) <|
    .cond (.t 21)
     (.skip)
     (.exit 0)) <|
    .seq (.block 1 (.region [
      ⟨(some 24), .mv (.t 0), none⟩,
      ⟨(some 25), .mv (.t 11), none⟩,
      ⟨(some 26), .mv (.t 10), none⟩,
      ⟨(some 27), .mv (.t 8), none⟩,
      ⟨(some 28), .mv (.t 3), none⟩,
      ⟨(some 29), .call (.c (.fn (.func 119) [] [])) [(.t 24), (.t 25), (.t 26), (.t 27), (.t 28)], none⟩])) <|
    .region [
     ⟨(some 22), .mv (.t 11), none⟩,
     ⟨(some 23), .bin .sub .int (.t 22) (.c (.int .i64 1)), none⟩,
     ⟨(some 11), .mv (.t 23), none⟩]))) <|
  .seq (.region [
   ⟨(some 30), .mv (.t 10), none⟩,
   ⟨(some 31), .bin .sub .int (.t 30) (.c (.int .i64 1)), none⟩,
   ⟨(some 12), .mv (.t 31), none⟩]) <|
  .block 2 (.loop (.seq (.seq (.region [
     ⟨(some 32), .mv (.t 12), none⟩,
     ⟨(some 33), .bin .geq .int (.t 32) (.c (.int .i64 0)), none⟩]) <|
    .cond (.t 33)
     (.skip)
     (.exit 2)) <|
    .seq (.block 3 (.seq (.draw [
      ⟨(some 36), .mv (.t 0), none, [(0, none)], 0, [(0, [])]⟩,
      ⟨(some 37), .mv (.t 8), none, [(8, none)], 0, [(0, [])]⟩,
      ⟨(some 38), .mv (.t 0), none, [(0, none)], 0, [(0, []), (1, [])]⟩,
      ⟨(some 39), .mv (.t 8), none, [(8, none)], 0, [(0, []), (1, [])]⟩,
      ⟨(some 40), .mv (.t 12), none, [(12, none)], 0, [(0, []), (1, [])]⟩,
      ⟨(some 41), .bin .add .int (.t 39) (.t 40), none, [(39, (some 3)), (40, (some 4))], 0, [(0, []), (1, [])]⟩,
      ⟨(some 42), .mv (.t 0), none, [(0, none)], 0, [(0, [])]⟩,
      ⟨(some 43), .mv (.t 8), none, [(8, none)], 0, [(0, [])]⟩,
      ⟨(some 44), .mv (.t 12), none, [(12, none)], 0, [(0, [])]⟩,
      ⟨(some 45), .bin .add .int (.t 43) (.t 44), none, [(43, (some 7)), (44, (some 8))], 0, [(0, [])]⟩,
      ⟨(some 46), .indexAddr 1 (.t 42) (.t 45), none, [(42, (some 6)), (45, (some 9))], 0, [(0, [])]⟩,
      ⟨(some 47), .load none (.t 46), none, [(46, (some 10))], 0, [(0, [])]⟩,
      ⟨(some 48), .mv (.t 0), none, [(0, none)], 0, [(0, [])]⟩,
      ⟨(some 49), .mv (.t 8), none, [(8, none)], 0, [(0, [])]⟩,
      ⟨(some 50), .indexAddr 1 (.t 48) (.t 49), none, [(48, (some 12)), (49, (some 13))], 0, [(0, [])]⟩,
      ⟨(some 51), .load none (.t 50), none, [(50, (some 14))], 0, [(0, [])]⟩,
      ⟨(some 52), .indexAddr 1 (.t 36) (.t 37), none, [(36, (some 0)), (37, (some 1))], 0, [(0, [])]⟩,
      ⟨none, .store 1 (.t 52) (.t 47), none, [(52, (some 16)), (47, (some 11))], 2, [(0, [])]⟩,
      ⟨(some 53), .indexAddr 1 (.t 38) (.t 41), none, [(38, (some 2)), (41, (some 5))], 0, [(1, [])]⟩,
      ⟨none, .store 1 (.t 53) (.t 51), none, [(53, (some 18)), (51, (some 15))], 2, [(1, [])]⟩] []) <|
     .region [
      ⟨(some 54), .mv (.t 0), none⟩,
      ⟨(some 55), .mv (.t 9), none⟩,
      ⟨(some 56), .mv (.t 12), none⟩,
      ⟨(some 57), .mv (.t 8), none⟩,
      ⟨(some 58), .mv (.t 3), none⟩,
      ⟨(some 59), .call (.c (.fn (.func 119) [] [])) [(.t 54), (.t 55), (.t 56), (.t 57), (.t 58)], none⟩])) <|
    .region [
     ⟨(some 34), .mv (.t 12), none⟩,
     ⟨(some 35), .bin .sub .int (.t 34) (.c (.int .i64 1)), none⟩,
     ⟨(some 12), .mv (.t 35), none⟩])), none⟩
noncomputable def ffn95 : FFn := ⟨4, 60, [],
  cSeq (cReg 2 (
   oSeq (oMv g001 s015) <|
   oMv g015 s010)) <|
  cSeq (cReg 1 (
   oMv (kc (.int .i64 0)) s011)) <|
  cSeq (cReg 4 (
   oSeq (oMv g002 s016) <|
   oSeq (oMv g001 s017) <|
   oSeq (oP (vSub g016 g017) s020) <|
   oMv g020 s012)) <|
  cSeq (cSeq (cReg 4 (
   oSeq (oMv g012 s021) <|
   oSeq (oP (vSub g021 (kc (.int .i64 1))) s022) <|
   oSeq (oGen (.bin .quo .int (.t 18) (.c (.int .i64 2))) 2 s023) <|
   oMv g023 s013)) <|
  cBlock 1 (cLoop 1000000 (cSeq (cSeq (cReg 2 (
     oSeq (oMv g013 s024) <|
     oP (vGeq g024 (kc (.int .i64 0))) s025)) <|
    cCond g025
     (cSkip)
     (cExit 1)) <|
    cSeq (cBlock 3 (cReg 6 (
      oSeq (oMv g000 s030) <|
      oSeq (oMv g013 s031) <|
      oSeq (oMv g012 s032) <|
      oSeq (oMv g010 s033) <|
      oSeq (oMv g003 s034) <|
      oCallF 119 (fun T => [g030 T, g031 T, g032 T, g033 T, g034 T]) s035))) <|
    cReg 3 (
     oSeq (oMv g013 s026) <|
     oSeq (oP (vSub g026 (kc (.int .i64 1))) s027) <|
     oMv g027 s013)))) <|
  cSeq (cReg 3 (
   oSeq (oMv g012 s036) <|
   oSeq (oP (vSub g036 (kc (.int .i64 1))) s037) <|
   oMv g037 s014)) <|
  cBlock 5 (cLoop 1000000 (cSeq (cSeq (cReg 2 (
     oSeq (oMv g014 s040) <|
     oP (vGeq g040 (kc (.int .i64 0))) s041)) <|
    cCond g041
     (cSkip)
     (cExit 5)) <|
    cSeq (cBlock 7 (cSeq (cDrw 20 (
      dSeq (dLook 0 [] (oMv g000 s044)) <|
      dSeq (dLook 0 [] (oMv g010 s045)) <|
      dSeq (dLook 0 [] (oMv g000 s046)) <|
      dSeq (dLook 0 [] (oMv g010 s047)) <|
      dSeq (dLook 0 [] (oMv g014 s050)) <|
      dSeq (dLook 0 [] (oP (vAdd g047 g050) s051)) <|
      dSeq (dLook 0 [] (oMv g000 s052)) <|
      dSeq (dLook 0 [] (oMv g010 s053)) <|
      dSeq (dLook 0 [] (oMv g014 s054)) <|
      dSeq (dLook 0 [] (oP (vAdd g053 g054) s055)) <|
      dSeq (dLook 0 [] (oP (vIdx 1 g052 g055) s056)) <|
      dSeq (dLook 0 [] (oLoad g056 s057)) <|
      dSeq (dLook 0 [] (oMv g000 s060)) <|
      dSeq (dLook 0 [] (oMv g010 s061)) <|
      dSeq (dLook 0 [] (oP (vIdx 1 g060 g061) s062)) <|
      dSeq (dLook 0 [] (oLoad g062 s063)) <|
      dSeq (dLook 0 [] (oP (vIdx 1 g044 g045) s064)) <|
      dSeq (dAct 0 [] (oStore g064 g057 noPut)) <|
      dSeq (dLook 0 [] (oP (vIdx 1 g046 g051) s065)) <|
      dSeq (dAct 0 [] (oStore g065 g063 noPut)) <|
      dNop)
      (ckNop) []) <|
     cReg 6 (
      oSeq (oMv g000 s066) <|
      oSeq (oMv g011 s067) <|
      oSeq (oMv g014 s070) <|
      oSeq (oMv g010 s071) <|
      oSeq (oMv g003 s072) <|
      oCallF 119 (fun T => [g066 T, g067 T, g070 T, g071 T, g072 T]) s073))) <|
    cReg 3 (
     oSeq (oMv g014 s042) <|
     oSeq (oP (vSub g042 (kc (.int .i64 1))) s043) <|
     oMv g043 s014)))⟩
def afn119 : AFn := ⟨5, 82, [],
  .seq (.region [
   ⟨(some 12), .mv (.t 1), none⟩,
   ⟨(some 10), .mv (.t 12), none⟩]) <|
  .block 0 (.loop (.block 1 (.seq (.region [
      ⟨(some 13), .mv (.t 10), none⟩,
      ⟨(some 14), .bin .mul .int (.c (.int .i64 2)) (.t 13), none⟩,
      ⟨(some 15), .bin .add .int (.t 14) (.c (.int .i64 1)), none⟩,
      ⟨(some 11), .mv (.t 15), none⟩]) <|
     .seq (.seq (.region [
      ⟨(some 16), .mv (.t 11), none⟩,
      ⟨(some 17), .mv (.t 2), none⟩,
      ⟨(some 18), .bin .geq .int (.t 16) (.t 17), none⟩]) <|
     .cond (.t 18)
      (.exit 0)
      (.skip)) <|
     .seq (.seq (.draw [
      ⟨(some 19), .mv (.t 11), none, [(11, none)], 0, [(0, [])]⟩,
      ⟨(some 20), .bin .add .int (.t 19) (.c (.int .i64 1)), none, [(19, (some 0))], 0, [(0, [])]⟩,
      ⟨(some 21), .mv (.t 2), none, [(2, none)], 0, [(0, [])]⟩,
      ⟨(some 22), .bin .lss .int (.t 20) (.t 21), none, [(20, (some 1)), (21, (some 2))], 0, [(0, [])]⟩,
      ⟨(some 23), .mv (.t 22), none, [(22, (some 3))], 0, [(0, [])]⟩,
      ⟨(some 24), .mv (.t 4), (some (23, true)), [(4, none), (23, (some 4))], 0, [(0, [])]⟩,
      ⟨(some 25), .mv (.t 0), (some (23, true)), [(0, none), (23, (some 4))], 0, [(0, [])]⟩,
      ⟨(some 26), .mv (.t 3), (some (23, true)), [(3, none), (23, (some 4))], 0, [(0, [])]⟩,
      ⟨(some 27), .mv (.t 11), (some (23, true)), [(11, none), (23, (some 4))], 0, [(0, [])]⟩,
      ⟨(some 28), .bin .add .int (.t 26) (.t 27), (some (23, true)), [(26, (some 7)), (27, (some 8)), (23, (some 4))], 0, [(0, [])]⟩,
      ⟨(some 29), .indexAddr 1 (.t 25) (.t 28), (some (23, true)), [(25, (some 6)), (28, (some 9)), (23, (some 4))], 0, [(0, [])]⟩,
      ⟨(some 30), .load none (.t 29), (some (23, true)), [(29, (some 10)), (23, (some 4))], 0, [(0, [])]⟩,
      ⟨(some 31), .mv (.t 0), (some (23, true)), [(0, none), (23, (some 4))], 0, [(0, [])]⟩,
      ⟨(some 32), .mv (.t 3), (some (23, true)), [(3, none), (23, (some 4))], 0, [(0, [])]⟩,
      ⟨(some 33), .mv (.t 11), (some (23, true)), [(11, none), (23, (some 4))], 0, [(0, [])]⟩,
      ⟨(some 34), .bin .add .int (.t 32) (.t 33), (some (23, true)), [(32, (some 13)), (33, (some 14)), (23, (some 4))], 0, [(0, [])]⟩,
      ⟨(some 35), .bin .add .int (.t 34) (.c (.int .i64 1)), (some (23, true)), [(34, (some 15)), (23, (some 4))], 0, [(0, [])]⟩,
      ⟨(some 36), .indexAddr 1 (.t 31) (.t 35), (some (23, true)), [(31, (some 12)), (35, (some 16)), (23, (some 4))], 0, [(0, [])]⟩,
      ⟨(some 37), .load none (.t 36), (some (23, true)), [(36, (some 17)), (23, (some 4))], 0, [(0, [])]⟩,
      ⟨(some 38), .call (.t 24) [(.t 30), (.t 37)], (some (23, true)), [(24, (some 5)), (30, (some 11)), (37, (some 18)), (23, (some 4))], 2, [(0, [])]⟩,
      ⟨(some 39), .bin .lss .int (.t 38) (.c (.int .i64 0)), (some (23, true)), [(38, (some 19)), (23, (some 4))], 0, [(1, [])]⟩,
      ⟨(some 40), .pick (.t 23) (.t 39) (.c (.bool false)), none, [(23, (some 4)), (39, (some 20))], 0, [(1, [])]⟩] []) <|
     .cond (.t 40)
      (.region [
       ⟨(some 41), .mv (.t 11), none⟩,
       ⟨(some 42), .bin .add .int (.t 41) (.c (.int .i64 1)), none⟩,
       ⟨(some 11), .mv (.t 42), none⟩])
      (.skip)) <|
     .seq (.seq (.draw [
      ⟨(some 43), .mv (.t 4), none, [(4, none)], 0, [(0, [])]⟩,
      ⟨(some 44), .mv (.t 0), none, [(0, none)], 0, [(0, [])]⟩,
      ⟨(some 45), .mv (.t 3), none, [(3, none)], 0, [(0, [])]⟩,
      ⟨(some 46), .mv (.t 10), none, [(10, none)], 0, [(0, [])]⟩,
      ⟨(some 47), .bin .add .int (.t 45) (.t 46), none, [(45, (some 2)), (46, (some 3))], 0, [(0, [])]⟩,
      ⟨(some 48), .indexAddr 1 (.t 44) (.t 47), none, [(44, (some 1)), (47, (some 4))], 0, [(0, [])]⟩,
      ⟨(some 49), .load none (.t 48), none, [(48, (some 5))], 0, [(0, [])]⟩,
      ⟨(some 50), .mv (.t 0), none, [(0, none)], 0, [(0, [])]⟩,
      ⟨(some 51), .mv (.t 3), none, [(3, none)], 0, [(0, [])]⟩,
      ⟨(some 52), .mv (.t 11), none, [(11, none)], 0, [(0, [])]⟩,
      ⟨(some 53), .bin .add .int (.t 51) (.t 52), none, [(51, (some 8)), (52, (some 9))], 0, [(0, [])]⟩,
      ⟨(some 54), .indexAddr 1 (.t 50) (.t 53), none, [(50, (some 7)), (53, (some 10))], 0, [(0, [])]⟩,
      ⟨(some 55), .load none (.t 54), none, [(54, (some 11))], 0, [(0, [])]⟩,
      ⟨(some 56), .call (.t 43) [(.t 49), (.t 55)], none, [(43, (some 0)), (49, (some 6)), (55, (some 12))], 2, [(0, [])]⟩,
      ⟨(some 57), .bin .lss .int (.t 56) (.c (.int .i64 0)), none, [(56, (some 13))], 0, [(1, [])]⟩,
      ⟨(some 58), .un .not (.t 57), none, [(57, (some 14))], 0, [(1, [])]⟩] []) <|
     .cond (.t 58)
      (.ret)
      (.skip)) <|
     .seq (.draw [
      ⟨(some 59), .mv (.t 0), none, [(0, none)], 0, [(0, [])]⟩,
      ⟨(some 60), .mv (.t 3), none, [(3, none)], 0, [(0, [])]⟩,
      ⟨(some 61), .mv (.t 10), none, [(10, none)], 0, [(0, [])]⟩,
      ⟨(some 62), .bin .add .int (.t 60) (.t 61), none, [(60, (some 1)), (61, (some 2))], 0, [(0, [])]⟩,
      ⟨(some 63), .mv (.t 0), none, [(0, none)], 0, [(0, []), (1, [])]⟩,
      ⟨(some 64), .mv (.t 3), none, [(3, none)], 0, [(0, []), (1, [])]⟩,
      ⟨(some 65), .mv (.t 11), none, [(11, none)], 0, [(0, []), (1, [])]⟩,
      ⟨(some 66), .bin .add .int (.t 64) (.t 65), none, [(64, (some 5)), (65, (some 6))], 0, [(0, []), (1, [])]⟩,
      ⟨(some 67), .mv (.t 0), none, [(0, none)], 0, [(0, [])]⟩,
      ⟨(some 68), .mv (.t 3), none, [(3, none)], 0, [(0, [])]⟩,
      ⟨(some 69), .mv (.t 11), none, [(11, none)], 0, [(0, [])]⟩,
      ⟨(some 70), .bin .add .int (.t 68) (.t 69), none, [(68, (some 9)), (69, (some 10))], 0, [(0, [])]⟩,
      ⟨(some 71), .indexAddr 1 (.t 67) (.t 70), none, [(67, (some 8)), (70, (some 11))], 0, [(0, [])]⟩,
      ⟨(some 72), .load none (.t 71), none, [(71, (some 12))], 0, [(0, [])]⟩,
      ⟨(some 73), .mv (.t 0), none, [(0, none)], 0, [(0, [])]⟩,
      ⟨(some 74), .mv (.t 3), none, [(3, none)], 0, [(0, [])]⟩,
      ⟨(some 75), .mv (.t 10), none, [(10, none)], 0, [(0, [])]⟩,
      ⟨(some 76), .bin .add .int (.t 74) (.t 75), none, [(74, (some 15)), (75, (some 16))], 0, [(0, [])]⟩,
      ⟨(some 77), .indexAddr 1 (.t 73) (.t 76), none, [(73, (some 14)), (76, (some 17))], 0, [(0, [])]⟩,
      ⟨(some 78), .load none (.t 77), none, [(77, (some 18))], 0, [(0, [])]⟩,
      ⟨(some 79), .indexAddr 1 (.t 59) (.t 62), none, [(59, (some 0)), (62, (some 3))], 0, [(0, [])]⟩,
      ⟨none, .store 1 (.t 79) (.t 72), none, [(79, (some 20)), (72, (some 13))], 2, [(0, [])]⟩,
      ⟨(some 80), .indexAddr 1 (.t 63) (.t 66), none, [(63, (some 4)), (66, (some 7))], 0, [(1, [])]⟩,
      ⟨none, .store 1 (.t 80) (.t 78), none, [(80, (some 22)), (78, (some 19))], 2, [(1, [])]⟩] []) <|
     .region [
      ⟨(some 81), .mv (.t 11), none⟩,
      ⟨(some 10), .mv (.t 81), none⟩]))), none⟩
noncomputable def ffn119 : FFn := ⟨5, 82, [],
  cSeq (cReg 2 (
   oSeq (oMv g001 s014) <|
   oMv g014 s012)) <|
  cBlock 1 (cLoop 1000000 (cBlock 3 (cSeq (cReg 4 (
      oSeq (oMv g012 s015) <|
      oSeq (oP (vMul (kc (.int .i64 2)) g015) s016) <|
      oSeq (oP (vAdd g016 (kc (.int .i64 1))) s017) <|
      oMv g017 s013)) <|
     cSeq (cSeq (cReg 3 (
      oSeq (oMv g013 s020) <|
      oSeq (oMv g002 s021) <|
      oP (vGeq g020 g021) s022)) <|
     cCond g022
      (cExit 1)
      (cSkip)) <|
     cSeq (cSeq (cDrw 22 (
      dSeq (dLook 0 [] (oMv g013 s023)) <|
      dSeq (dLook 0 [] (oP (vAdd g023 (kc (.int .i64 1))) s024)) <|
      dSeq (dLook 0 [] (oMv g002 s025)) <|
      dSeq (dLook 0 [] (oP (vLss g024 g025) s026)) <|
      dSeq (dLook 0 [] (oMv g026 s027)) <|
      dSeq (dLook 0 [] (oGuard g027 true s030 (oMv g004 s030))) <|
      dSeq (dLook 0 [] (oGuard g027 true s031 (oMv g000 s031))) <|
      dSeq (dLook 0 [] (oGuard g027 true s032 (oMv g003 s032))) <|
      dSeq (dLook 0 [] (oGuard g027 true s033 (oMv g013 s033))) <|
      dSeq (dLook 0 [] (oGuard g027 true s034 (oP (vAdd g032 g033) s034))) <|
      dSeq (dLook 0 [] (oGuard g027 true s035 (oP (vIdx 1 g031 g034) s035))) <|
      dSeq (dLook 0 [] (oGuard g027 true s036 (oLoad g035 s036))) <|
      dSeq (dLook 0 [] (oGuard g027 true s037 (oMv g000 s037))) <|
      dSeq (dLook 0 [] (oGuard g027 true s040 (oMv g003 s040))) <|
      dSeq (dLook 0 [] (oGuard g027 true s041 (oMv g013 s041))) <|
      dSeq (dLook 0 [] (oGuard g027 true s042 (oP (vAdd g040 g041) s042))) <|
      dSeq (dLook 0 [] (oGuard g027 true s043 (oP (vAdd g042 (kc (.int .i64 1))) s043))) <|
      dSeq (dLook 0 [] (oGuard g027 true s044 (oP (vIdx 1 g037 g043) s044))) <|
      dSeq (dLook 0 [] (oGuard g027 true s045 (oLoad g044 s045))) <|
      dSeq (dAct 0 [] (oGuard g027 true s046 (oCall g030 (fun T => [g036 T, g045 T]) s046))) <|
      dSeq (dLook 0 [] (oGuard g027 true s047 (oP (vLss g046 (kc (.int .i64 0))) s047))) <|
      dSeq (dLook 0 [] (oP (vPick g027 g047 (kc (.bool false))) s050)) <|
      dNop)
      (ckNop) []) <|
     cCond g050
      (cReg 3 (
       oSeq (oMv g013 s051) <|
       oSeq (oP (vAdd g051 (kc (.int .i64 1))) s052) <|
       oMv g052 s013))
      (cSkip)) <|
     cSeq (cSeq (cDrw 16 (
      dSeq (dLook 0 [] (oMv g004 s053)) <|
      dSeq (dLook 0 [] (oMv g000 s054)) <|
      dSeq (dLook 0 [] (oMv g003 s055)) <|
      dSeq (dLook 0 [] (oMv g012 s056)) <|
      dSeq (dLook 0 [] (oP (vAdd g055 g056) s057)) <|
      dSeq (dLook 0 [] (oP (vIdx 1 g054 g057) s060)) <|
      dSeq (dLook 0 [] (oLoad g060 s061)) <|
      dSeq (dLook 0 [] (oMv g000 s062)) <|
      dSeq (dLook 0 [] (oMv g003 s063)) <|
      dSeq (dLook 0 [] (oMv g013 s064)) <|
      dSeq (dLook 0 [] (oP (vAdd g063 g064) s065)) <|
      dSeq (dLook 0 [] (oP (vIdx 1 g062 g065) s066)) <|
      dSeq (dLook 0 [] (oLoad g066 s067)) <|
      dSeq (dAct 0 [] (oCall g053 (fun T => [g061 T, g067 T]) s070)) <|
      dSeq (dLook 0 [] (oP (vLss g070 (kc (.int .i64 0))) s071)) <|
      dSeq (dLook 0 [] (oGen (.un .not (.t 57)) 15 s072)) <|
      dNop)
      (ckNop) []) <|
     cCond g072
      (cExit 0)
      (cSkip)) <|
     cSeq (cDrw 24 (
      dSeq (dLook 0 [] (oMv g000 s073)) <|
      dSeq (dLook 0 [] (oMv g003 s074)) <|
      dSeq (dLook 0 [] (oMv g012 s075)) <|
      dSeq (dLook 0 [] (oP (vAdd g074 g075) s076)) <|
      dSeq (dLook 0 [] (oMv g000 s077)) <|
      dSeq (dLook 0 [] (oMv g003 s100)) <|
      dSeq (dLook 0 [] (oMv g013 s101)) <|
      dSeq (dLook 0 [] (oP (vAdd g100 g101) s102)) <|
      dSeq (dLook 0 [] (oMv g000 s103)) <|
      dSeq (dLook 0 [] (oMv g003 s104)) <|
      dSeq (dLook 0 [] (oMv g013 s105)) <|
      dSeq (dLook 0 [] (oP (vAdd g104 g105) s106)) <|
      dSeq (dLook 0 [] (oP (vIdx 1 g103 g106) s107)) <|
      dSeq (dLook 0 [] (oLoad g107 s110)) <|
      dSeq (dLook 0 [] (oMv g000 s111)) <|
      dSeq (dLook 0 [] (oMv g003 s112)) <|
      dSeq (dLook 0 [] (oMv g012 s113)) <|
      dSeq (dLook 0 [] (oP (vAdd g112 g113) s114)) <|
      dSeq (dLook 0 [] (oP (vIdx 1 g111 g114) s115)) <|
      dSeq (dLook 0 [] (oLoad g115 s116)) <|
      dSeq (dLook 0 [] (oP (vIdx 1 g073 g076) s117)) <|
      dSeq (dAct 0 [] (oStore g117 g110 noPut)) <|
      dSeq (dLook 0 [] (oP (vIdx 1 g077 g102) s120)) <|
      dSeq (dAct 0 [] (oStore g120 g116 noPut)) <|
      dNop)
      (ckNop) []) <|
     cReg 2 (
      oSeq (oMv g013 s121) <|
      oMv g121 s012))))⟩
def afn96 : AFn := ⟨4, 67, [],
  .seq (.region [
   ⟨(some 13), .mv (.t 2), none⟩,
   ⟨(some 14), .mv (.t 1), none⟩,
   ⟨(some 15), .bin .sub .int (.t 13) (.t 14), none⟩,
   ⟨(some 8), .mv (.t 15), none⟩]) <|
  .seq (.region [
   ⟨(some 16), .mv (.t 8), none⟩,
   ⟨(some 17), .bin .geq .int (.t 16) (.c (.int .i64 8)), none⟩]) <|
  .cond (.t 17)
   (.seq (.region [
    ⟨(some 18), .mv (.t 8), none⟩,
    ⟨(some 19), .conv .u64 (.t 18), none⟩,
    ⟨(some 9), .alloc 160 [(.int .u64 0)], none⟩,
    ⟨none, .store 1 (.t 9) (.t 19), none⟩]) <|
   .seq (.region [
    ⟨(some 20), .mv (.t 8), none⟩,
    ⟨(some 21), .call (.c (.fn (.func 120) [] [])) [(.t 20)], none⟩,
    ⟨(some 10), .mv (.t 21), none⟩]) <|
   .seq (.region [
    ⟨(some 22), .mv (.t 1), none⟩,
    ⟨(some 23), .mv (.t 8), none⟩,
    ⟨(some 24), .bin .quo .int (.t 23) (.c (.int .i64 4)), none⟩,
    ⟨(some 25), .bin .mul .int (.t 24) (.c (.int .i64 2)), none⟩,
    ⟨(some 26), .bin .add .int (.t 22) (.t 25), none⟩,
    ⟨(some 27), .bin .sub .int (.t 26) (.c (.int .i64 1)), none⟩,
    ⟨(some 11), .mv (.t 27), none⟩]) <|
   .block 0 (.loop (.seq (.seq (.region [
      ⟨(some 28), .mv (.t 11), none⟩,
      ⟨(some 29), .mv (.t 1), none⟩,
      ⟨(some 30), .mv (.t 8), none⟩,
      ⟨(some 31), .bin .quo .int (.t 30) (.c (.int .i64 4)), none⟩,
      ⟨(some 32), .bin .mul .int (.t 31) (.c (.int .i64 2)), none⟩,
      ⟨(some 33), .bin .add .int (.t 29) (.t 32), none⟩,
      ⟨(some 34), .bin .add .int (.t 33) (.c (.int .i64 1)), none⟩,
      ⟨(some 35), .bin .leq .int (.t 28) (.t 34), none⟩]) <|
     .cond (.t 35)
      (.skip)
      (.exit 0)) <|
     .seq (.block 1 (.seq (.region [
       ⟨(some 38), .call (.c (.fn (.func 121) [] [])) [(.t 9)], none⟩,
       ⟨(some 39), .mv (.t 10), none⟩,
       ⟨(some 40), .bin .sub .int (.t 39) (.c (.int .u64 1)), none⟩,
       ⟨(some 41), .bin .and .int (.t 38) (.t 40), none⟩,
       ⟨(some 42), .conv .i64 (.t 41), none⟩,
       ⟨(some 12), .mv (.t 42), none⟩]) <|
      .seq (.seq (.region [
       ⟨(some 43), .mv (.t 12), none⟩,
       ⟨(some 44), .mv (.t 8), none⟩,
       ⟨(some 45), .bin .geq .int (.t 43) (.t 44), none⟩]) <|
      .cond (.t 45)
       (.region [
        ⟨(some 46), .mv (.t 12), none⟩,
        ⟨(some 47), .mv (.t 8), none⟩,
        ⟨(some 48), .bin .sub .int (.t 46) (.t 47), none⟩,
        ⟨(some 12), .mv (.t 48), none⟩])
       (.skip)) <|
      .draw [
       ⟨(some 49), .mv (.t 0), none, [(0, none)], 0, [(0, [])]⟩,
       ⟨(some 50), .mv (.t 11), none, [(11, none)], 0, [(0, [])]⟩,
       ⟨(some 51), .mv (.t 0), none, [(0, none)], 0, [(0, []), (1, [])]⟩,
       ⟨(some 52), .mv (.t 1), none, [(1, none)], 0, [(0, []), (1, [])]⟩,
       ⟨(some 53), .mv (.t 12), none, [(12, none)], 0, [(0, []), (1, [])]⟩,
       ⟨(some 54), .bin .add .int (.t 52) (.t 53), none, [(52, (some 3)), (53, (some 4))], 0, [(0, []), (1, [])]⟩,
       ⟨(some 55), .mv (.t 0), none, [(0, none)], 0, [(0, [])]⟩,
       ⟨(some 56), .mv (.t 1), none, [(1, none)], 0, [(0, [])]⟩,
       ⟨(some 57), .mv (.t 12), none, [(12, none)], 0, [(0, [])]⟩,
       ⟨(some 58), .bin .add .int (.t 56) (.t 57), none, [(56, (some 7)), (57, (some 8))], 0, [(0, [])]⟩,
       ⟨(some 59), .indexAddr 1 (.t 55) (.t 58), none, [(55, (some 6)), (58, (some 9))], 0, [(0, [])]⟩,
       ⟨(some 60), .load none (.t 59), none, [(59, (some 10))], 0, [(0, [])]⟩,
       ⟨(some 61), .mv (.t 0), none, [(0, none)], 0, [(0, [])]⟩,
       ⟨(some 62), .mv (.t 11), none, [(11, none)], 0, [(0, [])]⟩,
       ⟨(some 63), .indexAddr 1 (.t 61) (.t 62), none, [(61, (some 12)), (62, (some 13))], 0, [(0, [])]⟩,
       ⟨(some 64), .load none (.t 63), none, [(63, (some 14))], 0, [(0, [])]⟩,
       ⟨(some 65), .indexAddr 1 (.t 49) (.t 50), none, [(49, (some 0)), (50, (some 1))], 0, [(0, [])]⟩,
       ⟨none, .store 1 (.t 65) (.t 60), none, [(65, (some 16)), (60, (some 11))], 2, [(0, [])]⟩,
       ⟨(some 66), .indexAddr 1 (.t 51) (.t 54), none, [(51, (some 2)), (54, (some 5))], 0, [(1, [])]⟩,
       ⟨none, .store 1 (.t 66) (.t 64), none, [(66, (some 18)), (64, (some 15))], 2, [(1, [])]⟩] [])) <|
     .region [
      ⟨(some 36), .mv (.t 11), none⟩,
      ⟨(some 37), .bin .add .int (.t 36) (.c (.int .i64 1)), none⟩,
      ⟨(some 11), .mv (.t 37), none⟩])))
   (.skip), none⟩
noncomputable def ffn96 : FFn := ⟨4, 67, [],
  cSeq (cReg 4 (
   oSeq (oMv g002 s015) <|
   oSeq (oMv g001 s016) <|
   oSeq (oP (vSub g015 g016) s017) <|
   oMv g017 s010)) <|
  cSeq (cReg 2 (
   oSeq (oMv g010 s020) <|
   oP (vGeq g020 (kc (.int .i64 8))) s021)) <|
  cCond g021
   (cSeq (cReg 4 (
    oSeq (oMv g010 s022) <|
    oSeq (oGen (.conv .u64 (.t 18)) 1 s023) <|
    oSeq (oAlloc 160 [(.int .u64 0)] 2 s011) <|
    oStore g011 g023 noPut)) <|
   cSeq (cReg 3 (
    oSeq (oMv g010 s024) <|
    oSeq (oCallF 120 (fun T => [g024 T]) s025) <|
    oMv g025 s012)) <|
   cSeq (cReg 7 (
    oSeq (oMv g001 s026) <|
    oSeq (oMv g010 s027) <|
    oSeq (oGen (.bin .quo .int (.t 23) (.c (.int .i64 4))) 2 s030) <|
    oSeq (oP (vMul g030 (kc (.int .i64 2))) s031) <|
    oSeq (oP (vAdd g026 g031) s032) <|
    oSeq (oP (vSub g032 (kc (.int .i64 1))) s033) <|
    oMv g033 s013)) <|
   cBlock 1 (cLoop 1000000 (cSeq (cSeq (cReg 8 (
      oSeq (oMv g013 s034) <|
      oSeq (oMv g001 s035) <|
      oSeq (oMv g010 s036) <|
      oSeq (oGen (.bin .quo .int (.t 30) (.c (.int .i64 4))) 3 s037) <|
      oSeq (oP (vMul g037 (kc (.int .i64 2))) s040) <|
      oSeq (oP (vAdd g035 g040) s041) <|
      oSeq (oP (vAdd g041 (kc (.int .i64 1))) s042) <|
      oP (vLeq g034 g042) s043)) <|
     cCond g043
      (cSkip)
      (cExit 1)) <|
     cSeq (cBlock 3 (cSeq (cReg 6 (
       oSeq (oCallF 121 (fun T => [g011 T]) s046) <|
       oSeq (oMv g012 s047) <|
       oSeq (oP (vSub g047 (kc (.int .u64 1))) s050) <|
       oSeq (oGen (.bin .and .int (.t 38) (.t 40)) 3 s051) <|
       oSeq (oGen (.conv .i64 (.t 41)) 4 s052) <|
       oMv g052 s014)) <|
      cSeq (cSeq (cReg 3 (
       oSeq (oMv g014 s053) <|
       oSeq (oMv g010 s054) <|
       oP (vGeq g053 g054) s055)) <|
      cCond g055
       (cReg 4 (
        oSeq (oMv g014 s056) <|
        oSeq (oMv g010 s057) <|
        oSeq (oP (vSub g056 g057) s060) <|
        oMv g060 s014))
       (cSkip)) <|
      cDrw 20 (
       dSeq (dLook 0 [] (oMv g000 s061)) <|
       dSeq (dLook 0 [] (oMv g013 s062)) <|
       dSeq (dLook 0 [] (oMv g000 s063)) <|
       dSeq (dLook 0 [] (oMv g001 s064)) <|
       dSeq (dLook 0 [] (oMv g014 s065)) <|
       dSeq (dLook 0 [] (oP (vAdd g064 g065) s066)) <|
       dSeq (dLook 0 [] (oMv g000 s067)) <|
       dSeq (dLook 0 [] (oMv g001 s070)) <|
       dSeq (dLook 0 [] (oMv g014 s071)) <|
       dSeq (dLook 0 [] (oP (vAdd g070 g071) s072)) <|
       dSeq (dLook 0 [] (oP (vIdx 1 g067 g072) s073)) <|
       dSeq (dLook 0 [] (oLoad g073 s074)) <|
       dSeq (dLook 0 [] (oMv g000 s075)) <|
       dSeq (dLook 0 [] (oMv g013 s076)) <|
       dSeq (dLook 0 [] (oP (vIdx 1 g075 g076) s077)) <|
       dSeq (dLook 0 [] (oLoad g077 s100)) <|
       dSeq (dLook 0 [] (oP (vIdx 1 g061 g062) s101)) <|
       dSeq (dAct 0 [] (oStore g101 g074 noPut)) <|
       dSeq (dLook 0 [] (oP (vIdx 1 g063 g066) s102)) <|
       dSeq (dAct 0 [] (oStore g102 g100 noPut)) <|
       dNop)
       (ckNop) [])) <|
     cReg 3 (
      oSeq (oMv g013 s044) <|
      oSeq (oP (vAdd g044 (kc (.int .i64 1))) s045) <|
      oMv g045 s013))))
   (cSkip)⟩
def afn120 : AFn := ⟨1, 7, [(2, none)],
  .seq (.region [
   ⟨(some 2), .mv (.c (.int .u64 0)), none⟩]) <|
  .seq (.region [
   ⟨(some 3), .mv (.t 0), none⟩,
   ⟨(some 4), .conv .u64 (.t 3), none⟩,
   ⟨(some 5), .call (.c (.fn (.func 72) [] [])) [(.t 4)], none⟩,
   ⟨(some 6), .bin .shl .int (.c (.int .u64 1)) (.t 5), none⟩,
   ⟨(some 2), .mv (.t 6), none⟩]) <|
  .ret, none⟩
noncomputable def ffn120 : FFn := ⟨1, 7, [(2, none)],
  cSeq (cReg 1 (
   oMv (kc (.int .u64 0)) s002)) <|
  cSeq (cReg 5 (
   oSeq (oMv g000 s003) <|
   oSeq (oGen (.conv .u64 (.t 3)) 1 s004) <|
   oSeq (oCallF 72 (fun T => [g004 T]) s005) <|
   oSeq (oGen (.bin .shl .int (.c (.int .u64 1)) (.t 5)) 3 s006) <|
   oMv g006 s002)) <|
  cExit 0⟩
def afn121 : AFn := ⟨1, 33, [(2, none)],
  .seq (.region [
   ⟨(some 2), .mv (.c (.int .u64 0)), none⟩]) <|
  .seq (.draw [
   ⟨(some 3), .mv (.t 0), none, [(0, none)], 0, [(0, [])]⟩,
   ⟨(some 4), .nilCheck (.t 3), none, [(3, (some 0))], 0, [(0, [])]⟩,
   ⟨(some 5), .load none (.t 4), none, [(4, (some 1))], 0, [(0, [])]⟩,
   ⟨(some 6), .mv (.t 0), none, [(0, none)], 0, [(0, [])]⟩,
   ⟨(some 7), .nilCheck (.t 6), none, [(6, (some 3))], 0, [(0, [])]⟩,
   ⟨(some 8), .load none (.t 7), none, [(7, (some 4))], 0, [(0, [])]⟩,
   ⟨(some 9), .bin .shl .int (.t 8) (.c (.int .u64 13)), none, [(8, (some 5))], 0, [(0, [])]⟩,
   ⟨(some 10), .bin .xor .int (.t 5) (.t 9), none, [(5, (some 2)), (9, (some 6))], 0, [(0, [])]⟩,
   ⟨(some 11), .nilCheck (.t 3), none, [(3, (some 0))], 0, [(0, [])]⟩,
   ⟨none, .store 1 (.t 11) (.t 10), none, [(11, (some 8)), (10, (some 7))], 2, [(0, [])]⟩] []) <|
  .seq (.draw [
   ⟨(some 12), .mv (.t 0), none, [(0, none)], 0, [(0, [])]⟩,
   ⟨(some 13), .nilCheck (.t 12), none, [(12, (some 0))], 0, [(0, [])]⟩,
   ⟨(some 14), .load none (.t 13), none, [(13, (some 1))], 0, [(0, [])]⟩,
   ⟨(some 15), .mv (.t 0), none, [(0, none)], 0, [(0, [])]⟩,
   ⟨(some 16), .nilCheck (.t 15), none, [(15, (some 3))], 0, [(0, [])]⟩,
   ⟨(some 17), .load none (.t 16), none, [(16, (some 4))], 0, [(0, [])]⟩,
   ⟨(some 18), .bin .shr .int (.t 17) (.c (.int .u64 7)), none, [(17, (some 5))], 0, [(0, [])]⟩,
   ⟨(some 19), .bin .xor .int (.t 14) (.t 18), none, [(14, (some 2)), (18, (some 6))], 0, [(0, [])]⟩,
   ⟨(some 20), .nilCheck (.t 12), none, [(12, (some 0))], 0, [(0, [])]⟩,
   ⟨none, .store 1 (.t 20) (.t 19), none, [(20, (some 8)), (19, (some 7))], 2, [(0, [])]⟩] []) <|
  .seq (.draw [
   ⟨(some 21), .mv (.t 0), none, [(0, none)], 0, [(0, [])]⟩,
   ⟨(some 22), .nilCheck (.t 21), none, [(21, (some 0))], 0, [(0, [])]⟩,
   ⟨(some 23), .load none (.t 22), none, [(22, (some 1))], 0, [(0, [])]⟩,
   ⟨(some 24), .mv (.t 0), none, [(0, none)], 0, [(0, [])]⟩,
   ⟨(some 25), .nilCheck (.t 24), none, [(24, (some 3))], 0, [(0, [])]⟩,
   ⟨(some 26), .load none (.t 25), none, [(25, (some 4))], 0, [(0, [])]⟩,
   ⟨(some 27), .bin .shl .int (.t 26) (.c (.int .u64 17)), none, [(26, (some 5))], 0, [(0, [])]⟩,
   ⟨(some 28), .bin .xor .int (.t 23) (.t 27), none, [(23, (some 2)), (27, (some 6))], 0, [(0, [])]⟩,
   ⟨(some 29), .nilCheck (.t 21), none, [(21, (some 0))], 0, [(0, [])]⟩,
   ⟨none, .store 1 (.t 29) (.t 28), none, [(29, (some 8)), (28, (some 7))], 2, [(0, [])]⟩] []) <|
  .seq (.region [
   ⟨(some 30), .mv (.t 0), none⟩,
   ⟨(some 31), .nilCheck (.t 30), none⟩,
   ⟨(some 32), .load none (.t 31), none⟩,
   ⟨(some 2), .mv (.t 32), none⟩]) <|
  .ret, none⟩
noncomputable def ffn121 : FFn := ⟨1, 33, [(2, none)],
  cSeq (cReg 1 (
   oMv (kc (.int .u64 0)) s002)) <|
  cSeq (cDrw 10 (
   dSeq (dLook 0 [] (oMv g000 s003)) <|
   dSeq (dLook 0 [] (oGen (.nilCheck (.t 3)) 1 s004)) <|
   dSeq (dLook 0 [] (oLoad g004 s005)) <|
   dSeq (dLook 0 [] (oMv g000 s006)) <|
   dSeq (dLook 0 [] (oGen (.nilCheck (.t 6)) 4 s007)) <|
   dSeq (dLook 0 [] (oLoad g007 s010)) <|
   dSeq (dLook 0 [] (oGen (.bin .shl .int (.t 8) (.c (.int .u64 13))) 6 s011)) <|
   dSeq (dLook 0 [] (oGen (.bin .xor .int (.t 5) (.t 9)) 7 s012)) <|
   dSeq (dLook 0 [] (oGen (.nilCheck (.t 3)) 8 s013)) <|
   dSeq (dAct 0 [] (oStore g013 g012 noPut)) <|
   dNop)
   (ckNop) []) <|
  cSeq (cDrw 10 (
   dSeq (dLook 0 [] (oMv g000 s014)) <|
   dSeq (dLook 0 [] (oGen (.nilCheck (.t 12)) 1 s015)) <|
   dSeq (dLook 0 [] (oLoad g015 s016)) <|
   dSeq (dLook 0 [] (oMv g000 s017)) <|
   dSeq (dLook 0 [] (oGen (.nilCheck (.t 15)) 4 s020)) <|
   dSeq (dLook 0 [] (oLoad g020 s021)) <|
   dSeq (dLook 0 [] (oGen (.bin .shr .int (.t 17) (.c (.int .u64 7))) 6 s022)) <|
   dSeq (dLook 0 [] (oGen (.bin .xor .int (.t 14) (.t 18)) 7 s023)) <|
   dSeq (dLook 0 [] (oGen (.nilCheck (.t 12)) 8 s024)) <|
   dSeq (dAct 0 [] (oStore g024 g023 noPut)) <|
   dNop)
   (ckNop) []) <|
  cSeq (cDrw 10 (
   dSeq (dLook 0 [] (oMv g000 s025)) <|
   dSeq (dLook 0 [] (oGen (.nilCheck (.t 21)) 1 s026)) <|
   dSeq (dLook 0 [] (oLoad g026 s027)) <|
   dSeq (dLook 0 [] (oMv g000 s030)) <|
   dSeq (dLook 0 [] (oGen (.nilCheck (.t 24)) 4 s031)) <|
   dSeq (dLook 0 [] (oLoad g031 s032)) <|
   dSeq (dLook 0 [] (oGen (.bin .shl .int (.t 26) (.c (.int .u64 17))) 6 s033)) <|
   dSeq (dLook 0 [] (oGen (.bin .xor .int (.t 23) (.t 27)) 7 s034)) <|
   dSeq (dLook 0 [] (oGen (.nilCheck (.t 21)) 8 s035)) <|
   dSeq (dAct 0 [] (oStore g035 g034 noPut)) <|
   dNop)
   (ckNop) []) <|
  cSeq (cReg 4 (
   oSeq (oMv g000 s036) <|
   oSeq (oGen (.nilCheck (.t 30)) 1 s037) <|
   oSeq (oLoad g037 s040) <|
   oMv g040 s002)) <|
  cExit 0⟩
def afn97 : AFn := ⟨4, 63, [(8, none), (9, none)],
  .seq (.region [
   ⟨(some 8), .mv (.c (.int .i64 0)), none⟩,
   ⟨(some 9), .mv (.c (.int .i64 0)), none⟩]) <|
  .seq (.region [
   ⟨(some 15), .mv (.t 2), none⟩,
   ⟨(some 16), .mv (.t 1), none⟩,
   ⟨(some 17), .bin .sub .int (.t 15) (.t 16), none⟩,
   ⟨(some 10), .mv (.t 17), none⟩]) <|
  .seq (.region [
   ⟨(some 11), .alloc 3 [(.int .i64 0)], none⟩]) <|
  .seq (.region [
   ⟨(some 18), .mv (.t 1), none⟩,
   ⟨(some 19), .mv (.t 10), none⟩,
   ⟨(some 20), .bin .quo .int (.t 19) (.c (.int .i64 4)), none⟩,
   ⟨(some 21), .bin .mul .int (.t 20) (.c (.int .i64 1)), none⟩,
   ⟨(some 22), .bin .add .int (.t 18) (.t 21), none⟩,
   ⟨(some 12), .mv (.t 22), none⟩]) <|
  .seq (.region [
   ⟨(some 23), .mv (.t 1), none⟩,
   ⟨(some 24), .mv (.t 10), none⟩,
   ⟨(some 25), .bin .quo .int (.t 24) (.c (.int .i64 4)), none⟩,
   ⟨(some 26), .bin .mul .int (.t 25) (.c (.int .i64 2)), none⟩,
   ⟨(some 27), .bin .add .int (.t 23) (.t 26), none⟩,
   ⟨(some 13), .mv (.t 27), none⟩]) <|
  .seq (.region [
   ⟨(some 28), .mv (.t 1), none⟩,
   ⟨(some 29), .mv (.t 10), none⟩,
   ⟨(some 30), .bin .quo .int (.t 29) (.c (.int .i64 4)), none⟩,
   ⟨(some 31), .bin .mul .int (.t 30) (.c (.int .i64 3)), none⟩,
   ⟨(some 32), .bin .add .int (.t 28) (.t 31), none⟩,
   ⟨(some 14), .mv (.t 32), none⟩]) <|
  .seq (.seq (.region [
   ⟨(some 33), .mv (.t 10), none⟩,
   ⟨(some 34), .bin .geq .int (.t 33) (.c (.int .i64 8)), none⟩]) <|
  .cond (.t 34)
   (.seq (.seq (.region [
    ⟨(some 35), .mv (.t 10), none⟩,
    ⟨(some 36), .bin .geq .int (.t 35) (.c (.int .i64 50)), none⟩]) <|
   .cond (.t 36)
    (.seq (.region [
     ⟨(some 37), .mv (.t 0), none⟩,
     ⟨(some 38), .mv (.t 12), none⟩,
     ⟨(some 39), .mv (.t 3), none⟩,
     ⟨(some 40), .call (.c (.fn (.func 122) [] [])) [(.t 37), (.t 38), (.t 11), (.t 39)], none⟩,
     ⟨(some 12), .mv (.t 40), none⟩]) <|
    .seq (.region [
     ⟨(some 41), .mv (.t 0), none⟩,
     ⟨(some 42), .mv (.t 13), none⟩,
     ⟨(some 43), .mv (.t 3), none⟩,
     ⟨(some 44), .call (.c (.fn (.func 122) [] [])) [(.t 41), (.t 42), (.t 11), (.t 43)], none⟩,
     ⟨(some 13), .mv (.t 44), none⟩]) <|
    .region [
     ⟨(some 45), .mv (.t 0), none⟩,
     ⟨(some 46), .mv (.t 14), none⟩,
     ⟨(some 47), .mv (.t 3), none⟩,
     ⟨(some 48), .call (.c (.fn (.func 122) [] [])) [(.t 45), (.t 46), (.t 11), (.t 47)], none⟩,
     ⟨(some 14), .mv (.t 48), none⟩])
    (.skip)) <|
   .region [
    ⟨(some 49), .mv (.t 0), none⟩,
    ⟨(some 50), .mv (.t 12), none⟩,
    ⟨(some 51), .mv (.t 13), none⟩,
    ⟨(some 52), .mv (.t 14), none⟩,
    ⟨(some 53), .mv (.t 3), none⟩,
    ⟨(some 54), .call (.c (.fn (.func 123) [] [])) [(.t 49), (.t 50), (.t 51), (.t 52), (.t 11), (.t 53)], none⟩,
    ⟨(some 13), .mv (.t 54), none⟩])
   (.skip)) <|
  .seq (.region [
   ⟨(some 55), .load none (.t 11), none⟩]) <|
  .block 0 (.seq (.region [
    ⟨(some 58), .bin .eql .int (.t 55) (.c (.int .i64 0)), none⟩,
    ⟨(some 57), .mv (.t 58), none⟩]) <|
   .cond (.t 57)
    (.seq (.region [
     ⟨(some 59), .mv (.t 13), none⟩,
     ⟨(some 8), .mv (.t 59), none⟩,
     ⟨(some 9), .mv (.c (.int .i64 1)), none⟩]) <|
    .ret)
    (.seq (.region [
     ⟨(some 61), .bin .eql .int (.t 55) (.c (.int .i64 12)), none⟩,
     ⟨(some 60), .mv (.t 61), none⟩]) <|
    .cond (.t 60)
     (.seq (.region [
      ⟨(some 62), .mv (.t 13), none⟩,
      ⟨(some 8), .mv (.t 62), none⟩,
      ⟨(some 9), .mv (.c (.int .i64 2)), none⟩]) <|
     .ret)
     (.seq (.region [
      ⟨(some 56), .mv (.t 13), none⟩,
      ⟨(some 8), .mv (.t 56), none⟩,
      ⟨(some 9), .mv (.c (.int .i64 0)), none⟩]) <|
     .ret))), none⟩
noncomputable def ffn97 : FFn := ⟨4, 63, [(8, none), (9, none)],
  cSeq (cReg 2 (
   oSeq (oMv (kc (.int .i64 0)) s010) <|
   oMv (kc (.int .i64 0)) s011)) <|
  cSeq (cReg 4 (
   oSeq (oMv g002 s017) <|
   oSeq (oMv g001 s020) <|
   oSeq (oP (vSub g017 g020) s021) <|
   oMv g021 s012)) <|
  cSeq (cReg 1 (
   oAlloc 3 [(.int .i64 0)] 0 s013)) <|
  cSeq (cReg 6 (
   oSeq (oMv g001 s022) <|
   oSeq (oMv g012 s023) <|
   oSeq (oGen (.bin .quo .int (.t 19) (.c (.int .i64 4))) 2 s024) <|
   oSeq (oP (vMul g024 (kc (.int .i64 1))) s025) <|
   oSeq (oP (vAdd g022 g025) s026) <|
   oMv g026 s014)) <|
  cSeq (cReg 6 (
   oSeq (oMv g001 s027) <|
   oSeq (oMv g012 s030) <|
   oSeq (oGen (.bin .quo .int (.t 24) (.c (.int .i64 4))) 2 s031) <|
   oSeq (oP (vMul g031 (kc (.int .i64 2))) s032) <|
   oSeq (oP (vAdd g027 g032) s033) <|
   oMv g033 s015)) <|
  cSeq (cReg 6 (
   oSeq (oMv g001 s034) <|
   oSeq (oMv g012 s035) <|
   oSeq (oGen (.bin .quo .int (.t 29) (.c (.int .i64 4))) 2 s036) <|
   oSeq (oP (vMul g036 (kc (.int .i64 3))) s037) <|
   oSeq (oP (vAdd g034 g037) s040) <|
   oMv g040 s016)) <|
  cSeq (cSeq (cReg 2 (
   oSeq (oMv g012 s041) <|
   oP (vGeq g041 (kc (.int .i64 8))) s042)) <|
  cCond g042
   (cSeq (cSeq (cReg 2 (
    oSeq (oMv g012 s043) <|
    oP (vGeq g043 (kc (.int .i64 50))) s044)) <|
   cCond g044
    (cSeq (cReg 5 (
     oSeq (oMv g000 s045) <|
     oSeq (oMv g014 s046) <|
     oSeq (oMv g003 s047) <|
     oSeq (oCallF 122 (fun T => [g045 T, g046 T, g013 T, g047 T]) s050) <|
     oMv g050 s014)) <|
    cSeq (cReg 5 (
     oSeq (oMv g000 s051) <|
     oSeq (oMv g015 s052) <|
     oSeq (oMv g003 s053) <|
     oSeq (oCallF 122 (fun T => [g051 T, g052 T, g013 T, g053 T]) s054) <|
     oMv g054 s015)) <|
    cReg 5 (
     oSeq (oMv g000 s055) <|
     oSeq (oMv g016 s056) <|
     oSeq (oMv g003 s057) <|
     oSeq (oCallF 122 (fun T => [g055 T, g056 T, g013 T, g057 T]) s060) <|
     oMv g060 s016))
    (cSkip)) <|
   cReg 7 (
    oSeq (oMv g000 s061) <|
    oSeq (oMv g014 s062) <|
    oSeq (oMv g015 s063) <|
    oSeq (oMv g016 s064) <|
    oSeq (oMv g003 s065) <|
    oSeq (oCallF 123 (fun T => [g061 T, g062 T, g063 T, g064 T, g013 T, g065 T]) s066) <|
    oMv g066 s015))
   (cSkip)) <|
  cSeq (cReg 1 (
   oLoad g013 s067)) <|
  cBlock 1 (cSeq (cReg 2 (
    oSeq (oP (vEql g067 (kc (.int .i64 0))) s072) <|
    oMv g072 s071)) <|
   cCond g071
    (cSeq (cReg 3 (
     oSeq (oMv g015 s073) <|
     oSeq (oMv g073 s010) <|
     oMv (kc (.int .i64 1)) s011)) <|
    cExit 0)
    (cSeq (cReg 2 (
     oSeq (oP (vEql g067 (kc (.int .i64 12))) s075) <|
     oMv g075 s074)) <|
    cCond g074
     (cSeq (cReg 3 (
      oSeq (oMv g015 s076) <|
      oSeq (oMv g076 s010) <|
      oMv (kc (.int .i64 2)) s011)) <|
     cExit 0)
     (cSeq (cReg 3 (
      oSeq (oMv g015 s070) <|
      oSeq (oMv g070 s010) <|
      oMv (kc (.int .i64 0)) s011)) <|
     cExit 0)))⟩
def afn122 : AFn := ⟨4, 18, [(8, none)],
  .seq (.region [
   ⟨(some 8), .mv (.c (.int .i64 0)), none⟩]) <|
  .seq (.region [
   ⟨(some 9), .mv (.t 0), none⟩,
   ⟨(some 10), .mv (.t 1), none⟩,
   ⟨(some 11), .bin .sub .int (.t 10) (.c (.int .i64 1)), none⟩,
   ⟨(some 12), .mv (.t 1), none⟩,
   ⟨(some 13), .mv (.t 1), none⟩,
   ⟨(some 14), .bin .add .int (.t 13) (.c (.int .i64 1)), none⟩,
   ⟨(some 15), .mv (.t 2), none⟩,
   ⟨(some 16), .mv (.t 3), none⟩,
   ⟨(some 17), .call (.c (.fn (.func 123) [] [])) [(.t 9), (.t 11), (.t 12), (.t 14), (.t 15), (.t 16)], none⟩,
   ⟨(some 8), .mv (.t 17), none⟩]) <|
  .ret, none⟩
noncomputable def ffn122 : FFn := ⟨4, 18, [(8, none)],
  cSeq (cReg 1 (
   oMv (kc (.int .i64 0)) s010)) <|
  cSeq (cReg 10 (
   oSeq (oMv g000 s011) <|
   oSeq (oMv g001 s012) <|
   oSeq (oP (vSub g012 (kc (.int .i64 1))) s013) <|
   oSeq (oMv g001 s014) <|
   oSeq (oMv g001 s015) <|
   oSeq (oP (vAdd g015 (kc (.int .i64 1))) s016) <|
   oSeq (oMv g002 s017) <|
   oSeq (oMv g003 s020) <|
   oSeq (oCallF 123 (fun T => [g011 T, g013 T, g014 T, g016 T, g017 T, g020 T]) s021) <|
   oMv g021 s010)) <|
  cExit 0⟩
def afn123 : AFn := ⟨6, 41, [(12, none)],
  .seq (.region [
   ⟨(some 12), .mv (.c (.int .i64 0)), none⟩]) <|
  .seq (.region [
   ⟨(some 14), .mv (.t 0), none⟩,
   ⟨(some 15), .mv (.t 1), none⟩,
   ⟨(some 16), .mv (.t 2), none⟩,
   ⟨(some 17), .mv (.t 4), none⟩,
   ⟨(some 18), .mv (.t 5), none⟩,
   ⟨(some 19), .call (.c (.fn (.func 134) [] [])) [(.t 14), (.t 15), (.t 16), (.t 17), (.t 18)], none⟩,
   ⟨(some 13), .mv (.t 19), none⟩,
   ⟨(some 20), .extract 0 (.t 13), none⟩,
   ⟨(some 21), .extract 1 (.t 13), none⟩,
   ⟨(some 1), .mv (.t 20), none⟩,
   ⟨(some 2), .mv (.t 21), none⟩]) <|
  .seq (.region [
   ⟨(some 23), .mv (.t 0), none⟩,
   ⟨(some 24), .mv (.t 2), none⟩,
   ⟨(some 25), .mv (.t 3), none⟩,
   ⟨(some 26), .mv (.t 4), none⟩,
   ⟨(some 27), .mv (.t 5), none⟩,
   ⟨(some 28), .call (.c (.fn (.func 134) [] [])) [(.t 23), (.t 24), (.t 25), (.t 26), (.t 27)], none⟩,
   ⟨(some 22), .mv (.t 28), none⟩,
   ⟨(some 29), .extract 0 (.t 22), none⟩,
   ⟨(some 30), .extract 1 (.t 22), none⟩,
   ⟨(some 2), .mv (.t 29), none⟩,
   ⟨(some 3), .mv (.t 30), none⟩]) <|
  .seq (.region [
   ⟨(some 32), .mv (.t 0), none⟩,
   ⟨(some 33), .mv (.t 1), none⟩,
   ⟨(some 34), .mv (.t 2), none⟩,
   ⟨(some 35), .mv (.t 4), none⟩,
   ⟨(some 36), .mv (.t 5), none⟩,
   ⟨(some 37), .call (.c (.fn (.func 134) [] [])) [(.t 32), (.t 33), (.t 34), (.t 35), (.t 36)], none⟩,
   ⟨(some 31), .mv (.t 37), none⟩,
   ⟨(some 38), .extract 0 (.t 31), none⟩,
   ⟨(some 39), .extract 1 (.t 31), none⟩,
   ⟨(some 1), .mv (.t 38), none⟩,
   ⟨(some 2), .mv (.t 39), none⟩]) <|
  .seq (.region [
   ⟨(some 40), .mv (.t 2), none⟩,
   ⟨(some 12), .mv (.t 40), none⟩]) <|
  .ret, none⟩
noncomputable def ffn123 : FFn := ⟨6, 41, [(12, none)],
  cSeq (cReg 1 (
   oMv (kc (.int .i64 0)) s014)) <|
  cSeq (cReg 11 (
   oSeq (oMv g000 s016) <|
   oSeq (oMv g001 s017) <|
   oSeq (oMv g002 s020) <|
   oSeq (oMv g004 s021) <|
   oSeq (oMv g005 s022) <|
   oSeq (oCallF 134 (fun T => [g016 T, g017 T, g020 T, g021 T, g022 T]) s023) <|
   oSeq (oMv g023 s015) <|
   oSeq (oP (vExt 0 g015) s024) <|
   oSeq (oP (vExt 1 g015) s025) <|
   oSeq (oMv g024 s001) <|
   oMv g025 s002)) <|
  cSeq (cReg 11 (
   oSeq (oMv g000 s027) <|
   oSeq (oMv g002 s030) <|
   oSeq (oMv g003 s031) <|
   oSeq (oMv g004 s032) <|
   oSeq (oMv g005 s033) <|
   oSeq (oCallF 134 (fun T => [g027 T, g030 T, g031 T, g032 T, g033 T]) s034) <|
   oSeq (oMv g034 s026) <|
   oSeq (oP (vExt 0 g026) s035) <|
   oSeq (oP (vExt 1 g026) s036) <|
   oSeq (oMv g035 s002) <|
   oMv g036 s003)) <|
  cSeq (cReg 11 (
   oSeq (oMv g000 s040) <|
   oSeq (oMv g001 s041) <|
   oSeq (oMv g002 s042) <|
   oSeq (oMv g004 s043) <|
   oSeq (oMv g005 s044) <|
   oSeq (oCallF 134 (fun T => [g040 T, g041 T, g042 T, g043 T, g044 T]) s045) <|
   oSeq (oMv g045 s037) <|
   oSeq (oP (vExt 0 g037) s046) <|
   oSeq (oP (vExt 1 g037) s047) <|
   oSeq (oMv g046 s001) <|
   oMv g047 s002)) <|
  cSeq (cReg 2 (
   oSeq (oMv g002 s050) <|
   oMv g050 s014)) <|
  cExit 0⟩
end Go.Proofs.YtjenkjblcpinnabGreat.Ev
