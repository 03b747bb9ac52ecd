/-
  The code of the law's functions, printed by program off the translation.
-/
import Derived.Test.YtjenkjblcpinnabGreatEvSlots
namespace Go.Proofs.YtjenkjblcpinnabGreat.Ev
open Go
set_option maxRecDepth 1000000
def afn134 : AFn := ⟨5, 32, [(10, none), (11, none)],
  .seq (.region [
   ⟨(some 10), .mv (.c (.int .i64 0)), none⟩,
   ⟨(some 11), .mv (.c (.int .i64 0)), none⟩]) <|
  .seq (.seq (.draw [
   ⟨(some 12), .mv (.t 4), none, [(4, none)], 0, [(0, [])]⟩,
   ⟨(some 13), .mv (.t 0), none, [(0, none)], 0, [(0, [])]⟩,
   ⟨(some 14), .mv (.t 2), none, [(2, none)], 0, [(0, [])]⟩,
   ⟨(some 15), .indexAddr 1 (.t 13) (.t 14), none, [(13, (some 1)), (14, (some 2))], 0, [(0, [])]⟩,
   ⟨(some 16), .load none (.t 15), none, [(15, (some 3))], 0, [(0, [])]⟩,
   ⟨(some 17), .mv (.t 0), none, [(0, none)], 0, [(0, [])]⟩,
   ⟨(some 18), .mv (.t 1), none, [(1, none)], 0, [(0, [])]⟩,
   ⟨(some 19), .indexAddr 1 (.t 17) (.t 18), none, [(17, (some 5)), (18, (some 6))], 0, [(0, [])]⟩,
   ⟨(some 20), .load none (.t 19), none, [(19, (some 7))], 0, [(0, [])]⟩,
   ⟨(some 21), .call (.t 12) [(.t 16), (.t 20)], none, [(12, (some 0)), (16, (some 4)), (20, (some 8))], 2, [(0, [])]⟩,
   ⟨(some 22), .bin .lss .int (.t 21) (.c (.int .i64 0)), none, [(21, (some 9))], 0, [(1, [])]⟩] []) <|
  .cond (.t 22)
   (.seq (.region [
    ⟨(some 23), .mv (.t 3), none⟩,
    ⟨(some 24), .nilCheck (.t 23), none⟩,
    ⟨(some 25), .load none (.t 24), none⟩,
    ⟨(some 26), .bin .add .int (.t 25) (.c (.int .i64 1)), none⟩,
    ⟨(some 27), .nilCheck (.t 23), none⟩,
    ⟨none, .store 1 (.t 27) (.t 26), none⟩]) <|
   .seq (.region [
    ⟨(some 28), .mv (.t 2), none⟩,
    ⟨(some 29), .mv (.t 1), none⟩,
    ⟨(some 10), .mv (.t 28), none⟩,
    ⟨(some 11), .mv (.t 29), none⟩]) <|
   .ret)
   (.skip)) <|
  .seq (.region [
   ⟨(some 30), .mv (.t 1), none⟩,
   ⟨(some 31), .mv (.t 2), none⟩,
   ⟨(some 10), .mv (.t 30), none⟩,
   ⟨(some 11), .mv (.t 31), none⟩]) <|
  .ret, none⟩
noncomputable def ffn134 : FFn := ⟨5, 32, [(10, none), (11, none)],
  cSeq (cReg 2 (
   oSeq (oMv (kc (.int .i64 0)) s012) <|
   oMv (kc (.int .i64 0)) s013)) <|
  cSeq (cSeq (cDrw 11 (
   dSeq (dLook 0 [] (oMv g004 s014)) <|
   dSeq (dLook 0 [] (oMv g000 s015)) <|
   dSeq (dLook 0 [] (oMv g002 s016)) <|
   dSeq (dLook 0 [] (oP (vIdx 1 g015 g016) s017)) <|
   dSeq (dLook 0 [] (oLoad g017 s020)) <|
   dSeq (dLook 0 [] (oMv g000 s021)) <|
   dSeq (dLook 0 [] (oMv g001 s022)) <|
   dSeq (dLook 0 [] (oP (vIdx 1 g021 g022) s023)) <|
   dSeq (dLook 0 [] (oLoad g023 s024)) <|
   dSeq (dAct 0 [] (oCall g014 (fun T => [g020 T, g024 T]) s025)) <|
   dSeq (dLook 0 [] (oP (vLss g025 (kc (.int .i64 0))) s026)) <|
   dNop)
   (ckNop) []) <|
  cCond g026
   (cSeq (cReg 6 (
    oSeq (oMv g003 s027) <|
    oSeq (oGen (.nilCheck (.t 23)) 1 s030) <|
    oSeq (oLoad g030 s031) <|
    oSeq (oP (vAdd g031 (kc (.int .i64 1))) s032) <|
    oSeq (oGen (.nilCheck (.t 23)) 4 s033) <|
    oStore g033 g032 noPut)) <|
   cSeq (cReg 4 (
    oSeq (oMv g002 s034) <|
    oSeq (oMv g001 s035) <|
    oSeq (oMv g034 s012) <|
    oMv g035 s013)) <|
   cExit 0)
   (cSkip)) <|
  cSeq (cReg 4 (
   oSeq (oMv g001 s036) <|
   oSeq (oMv g002 s037) <|
   oSeq (oMv g036 s012) <|
   oMv g037 s013)) <|
  cExit 0⟩
def afn98 : AFn := ⟨4, 34, [],
  .seq (.region [
   ⟨(some 10), .mv (.t 1), none⟩,
   ⟨(some 8), .mv (.t 10), none⟩]) <|
  .seq (.region [
   ⟨(some 11), .mv (.t 2), none⟩,
   ⟨(some 12), .bin .sub .int (.t 11) (.c (.int .i64 1)), none⟩,
   ⟨(some 9), .mv (.t 12), none⟩]) <|
  .block 0 (.loop (.seq (.seq (.region [
     ⟨(some 13), .mv (.t 8), none⟩,
     ⟨(some 14), .mv (.t 9), none⟩,
     ⟨(some 15), .bin .lss .int (.t 13) (.t 14), none⟩]) <|
    .cond (.t 15)
     (.skip)
     (.exit 0)) <|
    .block 1 (.seq (.draw [
      ⟨(some 16), .mv (.t 0), none, [(0, none)], 0, [(0, [])]⟩,
      ⟨(some 17), .mv (.t 8), none, [(8, none)], 0, [(0, [])]⟩,
      ⟨(some 18), .mv (.t 0), none, [(0, none)], 0, [(0, []), (1, [])]⟩,
      ⟨(some 19), .mv (.t 9), none, [(9, none)], 0, [(0, []), (1, [])]⟩,
      ⟨(some 20), .mv (.t 0), none, [(0, none)], 0, [(0, [])]⟩,
      ⟨(some 21), .mv (.t 9), none, [(9, none)], 0, [(0, [])]⟩,
      ⟨(some 22), .indexAddr 1 (.t 20) (.t 21), none, [(20, (some 4)), (21, (some 5))], 0, [(0, [])]⟩,
      ⟨(some 23), .load none (.t 22), none, [(22, (some 6))], 0, [(0, [])]⟩,
      ⟨(some 24), .mv (.t 0), none, [(0, none)], 0, [(0, [])]⟩,
      ⟨(some 25), .mv (.t 8), none, [(8, none)], 0, [(0, [])]⟩,
      ⟨(some 26), .indexAddr 1 (.t 24) (.t 25), none, [(24, (some 8)), (25, (some 9))], 0, [(0, [])]⟩,
      ⟨(some 27), .load none (.t 26), none, [(26, (some 10))], 0, [(0, [])]⟩,
      ⟨(some 28), .indexAddr 1 (.t 16) (.t 17), none, [(16, (some 0)), (17, (some 1))], 0, [(0, [])]⟩,
      ⟨none, .store 1 (.t 28) (.t 23), none, [(28, (some 12)), (23, (some 7))], 2, [(0, [])]⟩,
      ⟨(some 29), .indexAddr 1 (.t 18) (.t 19), none, [(18, (some 2)), (19, (some 3))], 0, [(1, [])]⟩,
      ⟨none, .store 1 (.t 29) (.t 27), none, [(29, (some 14)), (27, (some 11))], 2, [(1, [])]⟩] []) <|
     .seq (.region [
      ⟨(some 30), .mv (.t 8), none⟩,
      ⟨(some 31), .bin .add .int (.t 30) (.c (.int .i64 1)), none⟩,
      ⟨(some 8), .mv (.t 31), none⟩]) <|
     .region [
      ⟨(some 32), .mv (.t 9), none⟩,
      ⟨(some 33), .bin .sub .int (.t 32) (.c (.int .i64 1)), none⟩,
      ⟨(some 9), .mv (.t 33), none⟩]))), none⟩
noncomputable def ffn98 : FFn := ⟨4, 34, [],
  cSeq (cReg 2 (
   oSeq (oMv g001 s012) <|
   oMv g012 s010)) <|
  cSeq (cReg 3 (
   oSeq (oMv g002 s013) <|
   oSeq (oP (vSub g013 (kc (.int .i64 1))) s014) <|
   oMv g014 s011)) <|
  cBlock 1 (cLoop 1000000 (cSeq (cSeq (cReg 3 (
     oSeq (oMv g010 s015) <|
     oSeq (oMv g011 s016) <|
     oP (vLss g015 g016) s017)) <|
    cCond g017
     (cSkip)
     (cExit 1)) <|
    cBlock 3 (cSeq (cDrw 16 (
      dSeq (dLook 0 [] (oMv g000 s020)) <|
      dSeq (dLook 0 [] (oMv g010 s021)) <|
      dSeq (dLook 0 [] (oMv g000 s022)) <|
      dSeq (dLook 0 [] (oMv g011 s023)) <|
      dSeq (dLook 0 [] (oMv g000 s024)) <|
      dSeq (dLook 0 [] (oMv g011 s025)) <|
      dSeq (dLook 0 [] (oP (vIdx 1 g024 g025) s026)) <|
      dSeq (dLook 0 [] (oLoad g026 s027)) <|
      dSeq (dLook 0 [] (oMv g000 s030)) <|
      dSeq (dLook 0 [] (oMv g010 s031)) <|
      dSeq (dLook 0 [] (oP (vIdx 1 g030 g031) s032)) <|
      dSeq (dLook 0 [] (oLoad g032 s033)) <|
      dSeq (dLook 0 [] (oP (vIdx 1 g020 g021) s034)) <|
      dSeq (dAct 0 [] (oStore g034 g027 noPut)) <|
      dSeq (dLook 0 [] (oP (vIdx 1 g022 g023) s035)) <|
      dSeq (dAct 0 [] (oStore g035 g033 noPut)) <|
      dNop)
      (ckNop) []) <|
     cSeq (cReg 3 (
      oSeq (oMv g010 s036) <|
      oSeq (oP (vAdd g036 (kc (.int .i64 1))) s037) <|
      oMv g037 s010)) <|
     cReg 3 (
      oSeq (oMv g011 s040) <|
      oSeq (oP (vSub g040 (kc (.int .i64 1))) s041) <|
      oMv g041 s011))))⟩
def afn99 : AFn := ⟨4, 141, [(8, none)],
  .seq (.region [
   ⟨(some 8), .mv (.c (.bool false)), none⟩]) <|
  .seq (.region [
   ⟨(some 13), .mv (.t 1), none⟩,
   ⟨(some 14), .bin .add .int (.t 13) (.c (.int .i64 1)), none⟩,
   ⟨(some 9), .mv (.t 14), none⟩]) <|
  .seq (.seq (.region [
   ⟨(some 10), .mv (.c (.int .i64 0)), none⟩]) <|
  .block 0 (.loop (.seq (.seq (.region [
     ⟨(some 15), .mv (.t 10), none⟩,
     ⟨(some 16), .bin .lss .int (.t 15) (.c (.int .i64 5)), none⟩]) <|
    .cond (.t 16)
     (.skip)
     (.exit 0)) <|
    .seq (.block 1 (.seq (.block 2 (.loop (.seq (.seq (.draw [
        ⟨(some 19), .mv (.t 9), none, [(9, none)], 0, [(0, [])]⟩,
        ⟨(some 20), .mv (.t 2), none, [(2, none)], 0, [(0, [])]⟩,
        ⟨(some 21), .bin .lss .int (.t 19) (.t 20), none, [(19, (some 0)), (20, (some 1))], 0, [(0, [])]⟩,
        ⟨(some 22), .mv (.t 21), none, [(21, (some 2))], 0, [(0, [])]⟩,
        ⟨(some 23), .mv (.t 3), (some (22, true)), [(3, none), (22, (some 3))], 0, [(0, [])]⟩,
        ⟨(some 24), .mv (.t 0), (some (22, true)), [(0, none), (22, (some 3))], 0, [(0, [])]⟩,
        ⟨(some 25), .mv (.t 9), (some (22, true)), [(9, none), (22, (some 3))], 0, [(0, [])]⟩,
        ⟨(some 26), .indexAddr 1 (.t 24) (.t 25), (some (22, true)), [(24, (some 5)), (25, (some 6)), (22, (some 3))], 0, [(0, [])]⟩,
        ⟨(some 27), .load none (.t 26), (some (22, true)), [(26, (some 7)), (22, (some 3))], 0, [(0, [])]⟩,
        ⟨(some 28), .mv (.t 0), (some (22, true)), [(0, none), (22, (some 3))], 0, [(0, [])]⟩,
        ⟨(some 29), .mv (.t 9), (some (22, true)), [(9, none), (22, (some 3))], 0, [(0, [])]⟩,
        ⟨(some 30), .bin .sub .int (.t 29) (.c (.int .i64 1)), (some (22, true)), [(29, (some 10)), (22, (some 3))], 0, [(0, [])]⟩,
        ⟨(some 31), .indexAddr 1 (.t 28) (.t 30), (some (22, true)), [(28, (some 9)), (30, (some 11)), (22, (some 3))], 0, [(0, [])]⟩,
        ⟨(some 32), .load none (.t 31), (some (22, true)), [(31, (some 12)), (22, (some 3))], 0, [(0, [])]⟩,
        ⟨(some 33), .call (.t 23) [(.t 27), (.t 32)], (some (22, true)), [(23, (some 4)), (27, (some 8)), (32, (some 13)), (22, (some 3))], 2, [(0, [])]⟩,
        ⟨(some 34), .bin .lss .int (.t 33) (.c (.int .i64 0)), (some (22, true)), [(33, (some 14)), (22, (some 3))], 0, [(1, [])]⟩,
        ⟨(some 35), .un .not (.t 34), (some (22, true)), [(34, (some 15)), (22, (some 3))], 0, [(1, [])]⟩,
        ⟨(some 36), .pick (.t 22) (.t 35) (.c (.bool false)), none, [(22, (some 3)), (35, (some 16))], 0, [(1, [])]⟩] []) <|
       .cond (.t 36)
        (.skip)
        (.exit 2)) <|
       .block 3 (.region [
         ⟨(some 37), .mv (.t 9), none⟩,
         ⟨(some 38), .bin .add .int (.t 37) (.c (.int .i64 1)), none⟩,
         ⟨(some 9), .mv (.t 38), none⟩])))) <|
     .seq (.seq (.region [
      ⟨(some 39), .mv (.t 9), none⟩,
      ⟨(some 40), .mv (.t 2), none⟩,
      ⟨(some 41), .bin .eql .int (.t 39) (.t 40), none⟩]) <|
     .cond (.t 41)
      (.seq (.region [
       ⟨(some 8), .mv (.c (.bool true)), none⟩]) <|
      .ret)
      (.skip)) <|
     .seq (.seq (.region [
      ⟨(some 42), .mv (.t 2), none⟩,
      ⟨(some 43), .mv (.t 1), none⟩,
      ⟨(some 44), .bin .sub .int (.t 42) (.t 43), none⟩,
      ⟨(some 45), .bin .lss .int (.t 44) (.c (.int .i64 50)), none⟩]) <|
     .cond (.t 45)
      (.seq (.region [
       ⟨(some 8), .mv (.c (.bool false)), none⟩]) <|
      .ret)
      (.skip)) <|
     .seq (.draw [
      ⟨(some 46), .mv (.t 0), none, [(0, none)], 0, [(0, [])]⟩,
      ⟨(some 47), .mv (.t 9), none, [(9, none)], 0, [(0, [])]⟩,
      ⟨(some 48), .mv (.t 0), none, [(0, none)], 0, [(0, []), (1, [])]⟩,
      ⟨(some 49), .mv (.t 9), none, [(9, none)], 0, [(0, []), (1, [])]⟩,
      ⟨(some 50), .bin .sub .int (.t 49) (.c (.int .i64 1)), none, [(49, (some 3))], 0, [(0, []), (1, [])]⟩,
      ⟨(some 51), .mv (.t 0), none, [(0, none)], 0, [(0, [])]⟩,
      ⟨(some 52), .mv (.t 9), none, [(9, none)], 0, [(0, [])]⟩,
      ⟨(some 53), .bin .sub .int (.t 52) (.c (.int .i64 1)), none, [(52, (some 6))], 0, [(0, [])]⟩,
      ⟨(some 54), .indexAddr 1 (.t 51) (.t 53), none, [(51, (some 5)), (53, (some 7))], 0, [(0, [])]⟩,
      ⟨(some 55), .load none (.t 54), none, [(54, (some 8))], 0, [(0, [])]⟩,
      ⟨(some 56), .mv (.t 0), none, [(0, none)], 0, [(0, [])]⟩,
      ⟨(some 57), .mv (.t 9), none, [(9, none)], 0, [(0, [])]⟩,
      ⟨(some 58), .indexAddr 1 (.t 56) (.t 57), none, [(56, (some 10)), (57, (some 11))], 0, [(0, [])]⟩,
      ⟨(some 59), .load none (.t 58), none, [(58, (some 12))], 0, [(0, [])]⟩,
      ⟨(some 60), .indexAddr 1 (.t 46) (.t 47), none, [(46, (some 0)), (47, (some 1))], 0, [(0, [])]⟩,
      ⟨none, .store 1 (.t 60) (.t 55), none, [(60, (some 14)), (55, (some 9))], 2, [(0, [])]⟩,
      ⟨(some 61), .indexAddr 1 (.t 48) (.t 50), none, [(48, (some 2)), (50, (some 4))], 0, [(1, [])]⟩,
      ⟨none, .store 1 (.t 61) (.t 59), none, [(61, (some 16)), (59, (some 13))], 2, [(1, [])]⟩] []) <|
     .seq (.seq (.region [
      ⟨(some 62), .mv (.t 9), none⟩,
      ⟨(some 63), .mv (.t 1), none⟩,
      ⟨(some 64), .bin .sub .int (.t 62) (.t 63), none⟩,
      ⟨(some 65), .bin .geq .int (.t 64) (.c (.int .i64 2)), none⟩]) <|
     .cond (.t 65)
      (.seq (.region [
       ⟨(some 66), .mv (.t 9), none⟩,
       ⟨(some 67), .bin .sub .int (.t 66) (.c (.int .i64 1)), none⟩,
       ⟨(some 11), .mv (.t 67), none⟩]) <|
      .block 4 (.loop (.seq (.seq (.region [
         ⟨(some 68), .mv (.t 11), none⟩,
         ⟨(some 69), .bin .geq .int (.t 68) (.c (.int .i64 1)), none⟩]) <|
        .cond (.t 69)
         (.skip)
         (.exit 4)) <|
        .seq (.block 5 (.seq (.seq (.draw [
          ⟨(some 72), .mv (.t 3), none, [(3, none)], 0, [(0, [])]⟩,
          ⟨(some 73), .mv (.t 0), none, [(0, none)], 0, [(0, [])]⟩,
          ⟨(some 74), .mv (.t 11), none, [(11, none)], 0, [(0, [])]⟩,
          ⟨(some 75), .indexAddr 1 (.t 73) (.t 74), none, [(73, (some 1)), (74, (some 2))], 0, [(0, [])]⟩,
          ⟨(some 76), .load none (.t 75), none, [(75, (some 3))], 0, [(0, [])]⟩,
          ⟨(some 77), .mv (.t 0), none, [(0, none)], 0, [(0, [])]⟩,
          ⟨(some 78), .mv (.t 11), none, [(11, none)], 0, [(0, [])]⟩,
          ⟨(some 79), .bin .sub .int (.t 78) (.c (.int .i64 1)), none, [(78, (some 6))], 0, [(0, [])]⟩,
          ⟨(some 80), .indexAddr 1 (.t 77) (.t 79), none, [(77, (some 5)), (79, (some 7))], 0, [(0, [])]⟩,
          ⟨(some 81), .load none (.t 80), none, [(80, (some 8))], 0, [(0, [])]⟩,
          ⟨(some 82), .call (.t 72) [(.t 76), (.t 81)], none, [(72, (some 0)), (76, (some 4)), (81, (some 9))], 2, [(0, [])]⟩,
          ⟨(some 83), .bin .lss .int (.t 82) (.c (.int .i64 0)), none, [(82, (some 10))], 0, [(1, [])]⟩,
          ⟨(some 84), .un .not (.t 83), none, [(83, (some 11))], 0, [(1, [])]⟩] []) <|
         .cond (.t 84)
          (.exit 4)
          (.skip)) <|
         .draw [
          ⟨(some 85), .mv (.t 0), none, [(0, none)], 0, [(0, [])]⟩,
          ⟨(some 86), .mv (.t 11), none, [(11, none)], 0, [(0, [])]⟩,
          ⟨(some 87), .mv (.t 0), none, [(0, none)], 0, [(0, []), (1, [])]⟩,
          ⟨(some 88), .mv (.t 11), none, [(11, none)], 0, [(0, []), (1, [])]⟩,
          ⟨(some 89), .bin .sub .int (.t 88) (.c (.int .i64 1)), none, [(88, (some 3))], 0, [(0, []), (1, [])]⟩,
          ⟨(some 90), .mv (.t 0), none, [(0, none)], 0, [(0, [])]⟩,
          ⟨(some 91), .mv (.t 11), none, [(11, none)], 0, [(0, [])]⟩,
          ⟨(some 92), .bin .sub .int (.t 91) (.c (.int .i64 1)), none, [(91, (some 6))], 0, [(0, [])]⟩,
          ⟨(some 93), .indexAddr 1 (.t 90) (.t 92), none, [(90, (some 5)), (92, (some 7))], 0, [(0, [])]⟩,
          ⟨(some 94), .load none (.t 93), none, [(93, (some 8))], 0, [(0, [])]⟩,
          ⟨(some 95), .mv (.t 0), none, [(0, none)], 0, [(0, [])]⟩,
          ⟨(some 96), .mv (.t 11), none, [(11, none)], 0, [(0, [])]⟩,
          ⟨(some 97), .indexAddr 1 (.t 95) (.t 96), none, [(95, (some 10)), (96, (some 11))], 0, [(0, [])]⟩,
          ⟨(some 98), .load none (.t 97), none, [(97, (some 12))], 0, [(0, [])]⟩,
          ⟨(some 99), .indexAddr 1 (.t 85) (.t 86), none, [(85, (some 0)), (86, (some 1))], 0, [(0, [])]⟩,
          ⟨none, .store 1 (.t 99) (.t 94), none, [(99, (some 14)), (94, (some 9))], 2, [(0, [])]⟩,
          ⟨(some 100), .indexAddr 1 (.t 87) (.t 89), none, [(87, (some 2)), (89, (some 4))], 0, [(1, [])]⟩,
          ⟨none, .store 1 (.t 100) (.t 98), none, [(100, (some 16)), (98, (some 13))], 2, [(1, [])]⟩] [])) <|
        .region [
         ⟨(some 70), .mv (.t 11), none⟩,
         ⟨(some 71), .bin .sub .int (.t 70) (.c (.int .i64 1)), none⟩,
         ⟨(some 11), .mv (.t 71), none⟩])))
      (.skip)) <|
     .seq (.region [
      ⟨(some 101), .mv (.t 2), none⟩,
      ⟨(some 102), .mv (.t 9), none⟩,
      ⟨(some 103), .bin .sub .int (.t 101) (.t 102), none⟩,
      ⟨(some 104), .bin .geq .int (.t 103) (.c (.int .i64 2)), none⟩]) <|
     .cond (.t 104)
      (.seq (.region [
       ⟨(some 105), .mv (.t 9), none⟩,
       ⟨(some 106), .bin .add .int (.t 105) (.c (.int .i64 1)), none⟩,
       ⟨(some 12), .mv (.t 106), none⟩]) <|
      .block 6 (.loop (.seq (.seq (.region [
         ⟨(some 107), .mv (.t 12), none⟩,
         ⟨(some 108), .mv (.t 2), none⟩,
         ⟨(some 109), .bin .lss .int (.t 107) (.t 108), none⟩]) <|
        .cond (.t 109)
         (.skip)
         (.exit 6)) <|
        .seq (.block 7 (.seq (.seq (.draw [
          ⟨(some 112), .mv (.t 3), none, [(3, none)], 0, [(0, [])]⟩,
          ⟨(some 113), .mv (.t 0), none, [(0, none)], 0, [(0, [])]⟩,
          ⟨(some 114), .mv (.t 12), none, [(12, none)], 0, [(0, [])]⟩,
          ⟨(some 115), .indexAddr 1 (.t 113) (.t 114), none, [(113, (some 1)), (114, (some 2))], 0, [(0, [])]⟩,
          ⟨(some 116), .load none (.t 115), none, [(115, (some 3))], 0, [(0, [])]⟩,
          ⟨(some 117), .mv (.t 0), none, [(0, none)], 0, [(0, [])]⟩,
          ⟨(some 118), .mv (.t 12), none, [(12, none)], 0, [(0, [])]⟩,
          ⟨(some 119), .bin .sub .int (.t 118) (.c (.int .i64 1)), none, [(118, (some 6))], 0, [(0, [])]⟩,
          ⟨(some 120), .indexAddr 1 (.t 117) (.t 119), none, [(117, (some 5)), (119, (some 7))], 0, [(0, [])]⟩,
          ⟨(some 121), .load none (.t 120), none, [(120, (some 8))], 0, [(0, [])]⟩,
          ⟨(some 122), .call (.t 112) [(.t 116), (.t 121)], none, [(112, (some 0)), (116, (some 4)), (121, (some 9))], 2, [(0, [])]⟩,
          ⟨(some 123), .bin .lss .int (.t 122) (.c (.int .i64 0)), none, [(122, (some 10))], 0, [(1, [])]⟩,
          ⟨(some 124), .un .not (.t 123), none, [(123, (some 11))], 0, [(1, [])]⟩] []) <|
         .cond (.t 124)
          (.exit 6)
          (.skip)) <|
         .draw [
          ⟨(some 125), .mv (.t 0), none, [(0, none)], 0, [(0, [])]⟩,
          ⟨(some 126), .mv (.t 12), none, [(12, none)], 0, [(0, [])]⟩,
          ⟨(some 127), .mv (.t 0), none, [(0, none)], 0, [(0, []), (1, [])]⟩,
          ⟨(some 128), .mv (.t 12), none, [(12, none)], 0, [(0, []), (1, [])]⟩,
          ⟨(some 129), .bin .sub .int (.t 128) (.c (.int .i64 1)), none, [(128, (some 3))], 0, [(0, []), (1, [])]⟩,
          ⟨(some 130), .mv (.t 0), none, [(0, none)], 0, [(0, [])]⟩,
          ⟨(some 131), .mv (.t 12), none, [(12, none)], 0, [(0, [])]⟩,
          ⟨(some 132), .bin .sub .int (.t 131) (.c (.int .i64 1)), none, [(131, (some 6))], 0, [(0, [])]⟩,
          ⟨(some 133), .indexAddr 1 (.t 130) (.t 132), none, [(130, (some 5)), (132, (some 7))], 0, [(0, [])]⟩,
          ⟨(some 134), .load none (.t 133), none, [(133, (some 8))], 0, [(0, [])]⟩,
          ⟨(some 135), .mv (.t 0), none, [(0, none)], 0, [(0, [])]⟩,
          ⟨(some 136), .mv (.t 12), none, [(12, none)], 0, [(0, [])]⟩,
          ⟨(some 137), .indexAddr 1 (.t 135) (.t 136), none, [(135, (some 10)), (136, (some 11))], 0, [(0, [])]⟩,
          ⟨(some 138), .load none (.t 137), none, [(137, (some 12))], 0, [(0, [])]⟩,
          ⟨(some 139), .indexAddr 1 (.t 125) (.t 126), none, [(125, (some 0)), (126, (some 1))], 0, [(0, [])]⟩,
          ⟨none, .store 1 (.t 139) (.t 134), none, [(139, (some 14)), (134, (some 9))], 2, [(0, [])]⟩,
          ⟨(some 140), .indexAddr 1 (.t 127) (.t 129), none, [(127, (some 2)), (129, (some 4))], 0, [(1, [])]⟩,
          ⟨none, .store 1 (.t 140) (.t 138), none, [(140, (some 16)), (138, (some 13))], 2, [(1, [])]⟩] [])) <|
        .region [
         ⟨(some 110), .mv (.t 12), none⟩,
         ⟨(some 111), .bin .add .int (.t 110) (.c (.int .i64 1)), none⟩,
         ⟨(some 12), .mv (.t 111), none⟩])))
      (.skip))) <|
    .region [
     ⟨(some 17), .mv (.t 10), none⟩,
     ⟨(some 18), .bin .add .int (.t 17) (.c (.int .i64 1)), none⟩,
     ⟨(some 10), .mv (.t 18), none⟩]))) <|
  .seq (.region [
   ⟨(some 8), .mv (.c (.bool false)), none⟩]) <|
  .ret, none⟩
noncomputable def ffn99 : FFn := ⟨4, 141, [(8, none)],
  cSeq (cReg 1 (
   oMv (kc (.bool false)) s010)) <|
  cSeq (cReg 3 (
   oSeq (oMv g001 s015) <|
   oSeq (oP (vAdd g015 (kc (.int .i64 1))) s016) <|
   oMv g016 s011)) <|
  cSeq (cSeq (cReg 1 (
   oMv (kc (.int .i64 0)) s012)) <|
  cBlock 1 (cLoop 1000000 (cSeq (cSeq (cReg 2 (
     oSeq (oMv g012 s017) <|
     oP (vLss g017 (kc (.int .i64 5))) s020)) <|
    cCond g020
     (cSkip)
     (cExit 1)) <|
    cSeq (cBlock 3 (cSeq (cBlock 5 (cLoop 1000000 (cSeq (cSeq (cDrw 18 (
        dSeq (dLook 0 [] (oMv g011 s023)) <|
        dSeq (dLook 0 [] (oMv g002 s024)) <|
        dSeq (dLook 0 [] (oP (vLss g023 g024) s025)) <|
        dSeq (dLook 0 [] (oMv g025 s026)) <|
        dSeq (dLook 0 [] (oGuard g026 true s027 (oMv g003 s027))) <|
        dSeq (dLook 0 [] (oGuard g026 true s030 (oMv g000 s030))) <|
        dSeq (dLook 0 [] (oGuard g026 true s031 (oMv g011 s031))) <|
        dSeq (dLook 0 [] (oGuard g026 true s032 (oP (vIdx 1 g030 g031) s032))) <|
        dSeq (dLook 0 [] (oGuard g026 true s033 (oLoad g032 s033))) <|
        dSeq (dLook 0 [] (oGuard g026 true s034 (oMv g000 s034))) <|
        dSeq (dLook 0 [] (oGuard g026 true s035 (oMv g011 s035))) <|
        dSeq (dLook 0 [] (oGuard g026 true s036 (oP (vSub g035 (kc (.int .i64 1))) s036))) <|
        dSeq (dLook 0 [] (oGuard g026 true s037 (oP (vIdx 1 g034 g036) s037))) <|
        dSeq (dLook 0 [] (oGuard g026 true s040 (oLoad g037 s040))) <|
        dSeq (dAct 0 [] (oGuard g026 true s041 (oCall g027 (fun T => [g033 T, g040 T]) s041))) <|
        dSeq (dLook 0 [] (oGuard g026 true s042 (oP (vLss g041 (kc (.int .i64 0))) s042))) <|
        dSeq (dLook 0 [] (oGuard g026 true s043 (oGen (.un .not (.t 34)) 16 s043))) <|
        dSeq (dLook 0 [] (oP (vPick g026 g043 (kc (.bool false))) s044)) <|
        dNop)
        (ckNop) []) <|
       cCond g044
        (cSkip)
        (cExit 5)) <|
       cBlock 7 (cReg 3 (
         oSeq (oMv g011 s045) <|
         oSeq (oP (vAdd g045 (kc (.int .i64 1))) s046) <|
         oMv g046 s011))))) <|
     cSeq (cSeq (cReg 3 (
      oSeq (oMv g011 s047) <|
      oSeq (oMv g002 s050) <|
      oP (vEql g047 g050) s051)) <|
     cCond g051
      (cSeq (cReg 1 (
       oMv (kc (.bool true)) s010)) <|
      cExit 0)
      (cSkip)) <|
     cSeq (cSeq (cReg 4 (
      oSeq (oMv g002 s052) <|
      oSeq (oMv g001 s053) <|
      oSeq (oP (vSub g052 g053) s054) <|
      oP (vLss g054 (kc (.int .i64 50))) s055)) <|
     cCond g055
      (cSeq (cReg 1 (
       oMv (kc (.bool false)) s010)) <|
      cExit 0)
      (cSkip)) <|
     cSeq (cDrw 18 (
      dSeq (dLook 0 [] (oMv g000 s056)) <|
      dSeq (dLook 0 [] (oMv g011 s057)) <|
      dSeq (dLook 0 [] (oMv g000 s060)) <|
      dSeq (dLook 0 [] (oMv g011 s061)) <|
      dSeq (dLook 0 [] (oP (vSub g061 (kc (.int .i64 1))) s062)) <|
      dSeq (dLook 0 [] (oMv g000 s063)) <|
      dSeq (dLook 0 [] (oMv g011 s064)) <|
      dSeq (dLook 0 [] (oP (vSub g064 (kc (.int .i64 1))) s065)) <|
      dSeq (dLook 0 [] (oP (vIdx 1 g063 g065) s066)) <|
      dSeq (dLook 0 [] (oLoad g066 s067)) <|
      dSeq (dLook 0 [] (oMv g000 s070)) <|
      dSeq (dLook 0 [] (oMv g011 s071)) <|
      dSeq (dLook 0 [] (oP (vIdx 1 g070 g071) s072)) <|
      dSeq (dLook 0 [] (oLoad g072 s073)) <|
      dSeq (dLook 0 [] (oP (vIdx 1 g056 g057) s074)) <|
      dSeq (dAct 0 [] (oStore g074 g067 noPut)) <|
      dSeq (dLook 0 [] (oP (vIdx 1 g060 g062) s075)) <|
      dSeq (dAct 0 [] (oStore g075 g073 noPut)) <|
      dNop)
      (ckNop) []) <|
     cSeq (cSeq (cReg 4 (
      oSeq (oMv g011 s076) <|
      oSeq (oMv g001 s077) <|
      oSeq (oP (vSub g076 g077) s100) <|
      oP (vGeq g100 (kc (.int .i64 2))) s101)) <|
     cCond g101
      (cSeq (cReg 3 (
       oSeq (oMv g011 s102) <|
       oSeq (oP (vSub g102 (kc (.int .i64 1))) s103) <|
       oMv g103 s013)) <|
      cBlock 9 (cLoop 1000000 (cSeq (cSeq (cReg 2 (
         oSeq (oMv g013 s104) <|
         oP (vGeq g104 (kc (.int .i64 1))) s105)) <|
        cCond g105
         (cSkip)
         (cExit 9)) <|
        cSeq (cBlock 11 (cSeq (cSeq (cDrw 13 (
          dSeq (dLook 0 [] (oMv g003 s110)) <|
          dSeq (dLook 0 [] (oMv g000 s111)) <|
          dSeq (dLook 0 [] (oMv g013 s112)) <|
          dSeq (dLook 0 [] (oP (vIdx 1 g111 g112) s113)) <|
          dSeq (dLook 0 [] (oLoad g113 s114)) <|
          dSeq (dLook 0 [] (oMv g000 s115)) <|
          dSeq (dLook 0 [] (oMv g013 s116)) <|
          dSeq (dLook 0 [] (oP (vSub g116 (kc (.int .i64 1))) s117)) <|
          dSeq (dLook 0 [] (oP (vIdx 1 g115 g117) s120)) <|
          dSeq (dLook 0 [] (oLoad g120 s121)) <|
          dSeq (dAct 0 [] (oCall g110 (fun T => [g114 T, g121 T]) s122)) <|
          dSeq (dLook 0 [] (oP (vLss g122 (kc (.int .i64 0))) s123)) <|
          dSeq (dLook 0 [] (oGen (.un .not (.t 83)) 12 s124)) <|
          dNop)
          (ckNop) []) <|
         cCond g124
          (cExit 9)
          (cSkip)) <|
         cDrw 18 (
          dSeq (dLook 0 [] (oMv g000 s125)) <|
          dSeq (dLook 0 [] (oMv g013 s126)) <|
          dSeq (dLook 0 [] (oMv g000 s127)) <|
          dSeq (dLook 0 [] (oMv g013 s130)) <|
          dSeq (dLook 0 [] (oP (vSub g130 (kc (.int .i64 1))) s131)) <|
          dSeq (dLook 0 [] (oMv g000 s132)) <|
          dSeq (dLook 0 [] (oMv g013 s133)) <|
          dSeq (dLook 0 [] (oP (vSub g133 (kc (.int .i64 1))) s134)) <|
          dSeq (dLook 0 [] (oP (vIdx 1 g132 g134) s135)) <|
          dSeq (dLook 0 [] (oLoad g135 s136)) <|
          dSeq (dLook 0 [] (oMv g000 s137)) <|
          dSeq (dLook 0 [] (oMv g013 s140)) <|
          dSeq (dLook 0 [] (oP (vIdx 1 g137 g140) s141)) <|
          dSeq (dLook 0 [] (oLoad g141 s142)) <|
          dSeq (dLook 0 [] (oP (vIdx 1 g125 g126) s143)) <|
          dSeq (dAct 0 [] (oStore g143 g136 noPut)) <|
          dSeq (dLook 0 [] (oP (vIdx 1 g127 g131) s144)) <|
          dSeq (dAct 0 [] (oStore g144 g142 noPut)) <|
          dNop)
          (ckNop) [])) <|
        cReg 3 (
         oSeq (oMv g013 s106) <|
         oSeq (oP (vSub g106 (kc (.int .i64 1))) s107) <|
         oMv g107 s013))))
      (cSkip)) <|
     cSeq (cReg 4 (
      oSeq (oMv g002 s145) <|
      oSeq (oMv g011 s146) <|
      oSeq (oP (vSub g145 g146) s147) <|
      oP (vGeq g147 (kc (.int .i64 2))) s150)) <|
     cCond g150
      (cSeq (cReg 3 (
       oSeq (oMv g011 s151) <|
       oSeq (oP (vAdd g151 (kc (.int .i64 1))) s152) <|
       oMv g152 s014)) <|
      cBlock 13 (cLoop 1000000 (cSeq (cSeq (cReg 3 (
         oSeq (oMv g014 s153) <|
         oSeq (oMv g002 s154) <|
         oP (vLss g153 g154) s155)) <|
        cCond g155
         (cSkip)
         (cExit 13)) <|
        cSeq (cBlock 15 (cSeq (cSeq (cDrw 13 (
          dSeq (dLook 0 [] (oMv g003 s160)) <|
          dSeq (dLook 0 [] (oMv g000 s161)) <|
          dSeq (dLook 0 [] (oMv g014 s162)) <|
          dSeq (dLook 0 [] (oP (vIdx 1 g161 g162) s163)) <|
          dSeq (dLook 0 [] (oLoad g163 s164)) <|
          dSeq (dLook 0 [] (oMv g000 s165)) <|
          dSeq (dLook 0 [] (oMv g014 s166)) <|
          dSeq (dLook 0 [] (oP (vSub g166 (kc (.int .i64 1))) s167)) <|
          dSeq (dLook 0 [] (oP (vIdx 1 g165 g167) s170)) <|
          dSeq (dLook 0 [] (oLoad g170 s171)) <|
          dSeq (dAct 0 [] (oCall g160 (fun T => [g164 T, g171 T]) s172)) <|
          dSeq (dLook 0 [] (oP (vLss g172 (kc (.int .i64 0))) s173)) <|
          dSeq (dLook 0 [] (oGen (.un .not (.t 123)) 12 s174)) <|
          dNop)
          (ckNop) []) <|
         cCond g174
          (cExit 13)
          (cSkip)) <|
         cDrw 18 (
          dSeq (dLook 0 [] (oMv g000 s175)) <|
          dSeq (dLook 0 [] (oMv g014 s176)) <|
          dSeq (dLook 0 [] (oMv g000 s177)) <|
          dSeq (dLook 0 [] (oMv g014 s200)) <|
          dSeq (dLook 0 [] (oP (vSub g200 (kc (.int .i64 1))) s201)) <|
          dSeq (dLook 0 [] (oMv g000 s202)) <|
          dSeq (dLook 0 [] (oMv g014 s203)) <|
          dSeq (dLook 0 [] (oP (vSub g203 (kc (.int .i64 1))) s204)) <|
          dSeq (dLook 0 [] (oP (vIdx 1 g202 g204) s205)) <|
          dSeq (dLook 0 [] (oLoad g205 s206)) <|
          dSeq (dLook 0 [] (oMv g000 s207)) <|
          dSeq (dLook 0 [] (oMv g014 s210)) <|
          dSeq (dLook 0 [] (oP (vIdx 1 g207 g210) s211)) <|
          dSeq (dLook 0 [] (oLoad g211 s212)) <|
          dSeq (dLook 0 [] (oP (vIdx 1 g175 g176) s213)) <|
          dSeq (dAct 0 [] (oStore g213 g206 noPut)) <|
          dSeq (dLook 0 [] (oP (vIdx 1 g177 g201) s214)) <|
          dSeq (dAct 0 [] (oStore g214 g212 noPut)) <|
          dNop)
          (ckNop) [])) <|
        cReg 3 (
         oSeq (oMv g014 s156) <|
         oSeq (oP (vAdd g156 (kc (.int .i64 1))) s157) <|
         oMv g157 s014))))
      (cSkip))) <|
    cReg 3 (
     oSeq (oMv g012 s021) <|
     oSeq (oP (vAdd g021 (kc (.int .i64 1))) s022) <|
     oMv g022 s012)))) <|
  cSeq (cReg 1 (
   oMv (kc (.bool false)) s010)) <|
  cExit 0⟩
def afn100 : AFn := ⟨5, 90, [(10, none)],
  .seq (.region [
   ⟨(some 10), .mv (.c (.int .i64 0)), none⟩]) <|
  .seq (.draw [
   ⟨(some 13), .mv (.t 0), none, [(0, none)], 0, [(0, [])]⟩,
   ⟨(some 14), .mv (.t 1), none, [(1, none)], 0, [(0, [])]⟩,
   ⟨(some 15), .mv (.t 0), none, [(0, none)], 0, [(0, []), (1, [])]⟩,
   ⟨(some 16), .mv (.t 3), none, [(3, none)], 0, [(0, []), (1, [])]⟩,
   ⟨(some 17), .mv (.t 0), none, [(0, none)], 0, [(0, [])]⟩,
   ⟨(some 18), .mv (.t 3), none, [(3, none)], 0, [(0, [])]⟩,
   ⟨(some 19), .indexAddr 1 (.t 17) (.t 18), none, [(17, (some 4)), (18, (some 5))], 0, [(0, [])]⟩,
   ⟨(some 20), .load none (.t 19), none, [(19, (some 6))], 0, [(0, [])]⟩,
   ⟨(some 21), .mv (.t 0), none, [(0, none)], 0, [(0, [])]⟩,
   ⟨(some 22), .mv (.t 1), none, [(1, none)], 0, [(0, [])]⟩,
   ⟨(some 23), .indexAddr 1 (.t 21) (.t 22), none, [(21, (some 8)), (22, (some 9))], 0, [(0, [])]⟩,
   ⟨(some 24), .load none (.t 23), none, [(23, (some 10))], 0, [(0, [])]⟩,
   ⟨(some 25), .indexAddr 1 (.t 13) (.t 14), none, [(13, (some 0)), (14, (some 1))], 0, [(0, [])]⟩,
   ⟨none, .store 1 (.t 25) (.t 20), none, [(25, (some 12)), (20, (some 7))], 2, [(0, [])]⟩,
   ⟨(some 26), .indexAddr 1 (.t 15) (.t 16), none, [(15, (some 2)), (16, (some 3))], 0, [(1, [])]⟩,
   ⟨none, .store 1 (.t 26) (.t 24), none, [(26, (some 14)), (24, (some 11))], 2, [(1, [])]⟩] []) <|
  .seq (.region [
   ⟨(some 27), .mv (.t 1), none⟩,
   ⟨(some 28), .bin .add .int (.t 27) (.c (.int .i64 1)), none⟩,
   ⟨(some 29), .mv (.t 2), none⟩,
   ⟨(some 30), .bin .sub .int (.t 29) (.c (.int .i64 1)), none⟩,
   ⟨(some 11), .mv (.t 28), none⟩,
   ⟨(some 12), .mv (.t 30), none⟩]) <|
  .seq (.block 0 (.loop (.block 1 (.seq (.block 2 (.loop (.seq (.seq (.draw [
        ⟨(some 31), .mv (.t 11), none, [(11, none)], 0, [(0, [])]⟩,
        ⟨(some 32), .mv (.t 12), none, [(12, none)], 0, [(0, [])]⟩,
        ⟨(some 33), .bin .leq .int (.t 31) (.t 32), none, [(31, (some 0)), (32, (some 1))], 0, [(0, [])]⟩,
        ⟨(some 34), .mv (.t 33), none, [(33, (some 2))], 0, [(0, [])]⟩,
        ⟨(some 35), .mv (.t 4), (some (34, true)), [(4, none), (34, (some 3))], 0, [(0, [])]⟩,
        ⟨(some 36), .mv (.t 0), (some (34, true)), [(0, none), (34, (some 3))], 0, [(0, [])]⟩,
        ⟨(some 37), .mv (.t 1), (some (34, true)), [(1, none), (34, (some 3))], 0, [(0, [])]⟩,
        ⟨(some 38), .indexAddr 1 (.t 36) (.t 37), (some (34, true)), [(36, (some 5)), (37, (some 6)), (34, (some 3))], 0, [(0, [])]⟩,
        ⟨(some 39), .load none (.t 38), (some (34, true)), [(38, (some 7)), (34, (some 3))], 0, [(0, [])]⟩,
        ⟨(some 40), .mv (.t 0), (some (34, true)), [(0, none), (34, (some 3))], 0, [(0, [])]⟩,
        ⟨(some 41), .mv (.t 11), (some (34, true)), [(11, none), (34, (some 3))], 0, [(0, [])]⟩,
        ⟨(some 42), .indexAddr 1 (.t 40) (.t 41), (some (34, true)), [(40, (some 9)), (41, (some 10)), (34, (some 3))], 0, [(0, [])]⟩,
        ⟨(some 43), .load none (.t 42), (some (34, true)), [(42, (some 11)), (34, (some 3))], 0, [(0, [])]⟩,
        ⟨(some 44), .call (.t 35) [(.t 39), (.t 43)], (some (34, true)), [(35, (some 4)), (39, (some 8)), (43, (some 12)), (34, (some 3))], 2, [(0, [])]⟩,
        ⟨(some 45), .bin .lss .int (.t 44) (.c (.int .i64 0)), (some (34, true)), [(44, (some 13)), (34, (some 3))], 0, [(1, [])]⟩,
        ⟨(some 46), .un .not (.t 45), (some (34, true)), [(45, (some 14)), (34, (some 3))], 0, [(1, [])]⟩,
        ⟨(some 47), .pick (.t 34) (.t 46) (.c (.bool false)), none, [(34, (some 3)), (46, (some 15))], 0, [(1, [])]⟩] []) <|
       .cond (.t 47)
        (.skip)
        (.exit 2)) <|
       .block 3 (.region [
         ⟨(some 48), .mv (.t 11), none⟩,
         ⟨(some 49), .bin .add .int (.t 48) (.c (.int .i64 1)), none⟩,
         ⟨(some 11), .mv (.t 49), none⟩])))) <|
     .seq (.block 4 (.loop (.seq (.seq (.draw [
        ⟨(some 50), .mv (.t 11), none, [(11, none)], 0, [(0, [])]⟩,
        ⟨(some 51), .mv (.t 12), none, [(12, none)], 0, [(0, [])]⟩,
        ⟨(some 52), .bin .leq .int (.t 50) (.t 51), none, [(50, (some 0)), (51, (some 1))], 0, [(0, [])]⟩,
        ⟨(some 53), .mv (.t 52), none, [(52, (some 2))], 0, [(0, [])]⟩,
        ⟨(some 54), .mv (.t 4), (some (53, true)), [(4, none), (53, (some 3))], 0, [(0, [])]⟩,
        ⟨(some 55), .mv (.t 0), (some (53, true)), [(0, none), (53, (some 3))], 0, [(0, [])]⟩,
        ⟨(some 56), .mv (.t 1), (some (53, true)), [(1, none), (53, (some 3))], 0, [(0, [])]⟩,
        ⟨(some 57), .indexAddr 1 (.t 55) (.t 56), (some (53, true)), [(55, (some 5)), (56, (some 6)), (53, (some 3))], 0, [(0, [])]⟩,
        ⟨(some 58), .load none (.t 57), (some (53, true)), [(57, (some 7)), (53, (some 3))], 0, [(0, [])]⟩,
        ⟨(some 59), .mv (.t 0), (some (53, true)), [(0, none), (53, (some 3))], 0, [(0, [])]⟩,
        ⟨(some 60), .mv (.t 12), (some (53, true)), [(12, none), (53, (some 3))], 0, [(0, [])]⟩,
        ⟨(some 61), .indexAddr 1 (.t 59) (.t 60), (some (53, true)), [(59, (some 9)), (60, (some 10)), (53, (some 3))], 0, [(0, [])]⟩,
        ⟨(some 62), .load none (.t 61), (some (53, true)), [(61, (some 11)), (53, (some 3))], 0, [(0, [])]⟩,
        ⟨(some 63), .call (.t 54) [(.t 58), (.t 62)], (some (53, true)), [(54, (some 4)), (58, (some 8)), (62, (some 12)), (53, (some 3))], 2, [(0, [])]⟩,
        ⟨(some 64), .bin .lss .int (.t 63) (.c (.int .i64 0)), (some (53, true)), [(63, (some 13)), (53, (some 3))], 0, [(1, [])]⟩,
        ⟨(some 65), .pick (.t 53) (.t 64) (.c (.bool false)), none, [(53, (some 3)), (64, (some 14))], 0, [(1, [])]⟩] []) <|
       .cond (.t 65)
        (.skip)
        (.exit 4)) <|
       .block 5 (.region [
         ⟨(some 66), .mv (.t 12), none⟩,
         ⟨(some 67), .bin .sub .int (.t 66) (.c (.int .i64 1)), none⟩,
         ⟨(some 12), .mv (.t 67), none⟩])))) <|
     .seq (.seq (.region [
      ⟨(some 68), .mv (.t 11), none⟩,
      ⟨(some 69), .mv (.t 12), none⟩,
      ⟨(some 70), .bin .gtr .int (.t 68) (.t 69), none⟩]) <|
     .cond (.t 70)
      (.exit 0)
      (.skip)) <|
     .seq (.draw [
      ⟨(some 71), .mv (.t 0), none, [(0, none)], 0, [(0, [])]⟩,
      ⟨(some 72), .mv (.t 11), none, [(11, none)], 0, [(0, [])]⟩,
      ⟨(some 73), .mv (.t 0), none, [(0, none)], 0, [(0, []), (1, [])]⟩,
      ⟨(some 74), .mv (.t 12), none, [(12, none)], 0, [(0, []), (1, [])]⟩,
      ⟨(some 75), .mv (.t 0), none, [(0, none)], 0, [(0, [])]⟩,
      ⟨(some 76), .mv (.t 12), none, [(12, none)], 0, [(0, [])]⟩,
      ⟨(some 77), .indexAddr 1 (.t 75) (.t 76), none, [(75, (some 4)), (76, (some 5))], 0, [(0, [])]⟩,
      ⟨(some 78), .load none (.t 77), none, [(77, (some 6))], 0, [(0, [])]⟩,
      ⟨(some 79), .mv (.t 0), none, [(0, none)], 0, [(0, [])]⟩,
      ⟨(some 80), .mv (.t 11), none, [(11, none)], 0, [(0, [])]⟩,
      ⟨(some 81), .indexAddr 1 (.t 79) (.t 80), none, [(79, (some 8)), (80, (some 9))], 0, [(0, [])]⟩,
      ⟨(some 82), .load none (.t 81), none, [(81, (some 10))], 0, [(0, [])]⟩,
      ⟨(some 83), .indexAddr 1 (.t 71) (.t 72), none, [(71, (some 0)), (72, (some 1))], 0, [(0, [])]⟩,
      ⟨none, .store 1 (.t 83) (.t 78), none, [(83, (some 12)), (78, (some 7))], 2, [(0, [])]⟩,
      ⟨(some 84), .indexAddr 1 (.t 73) (.t 74), none, [(73, (some 2)), (74, (some 3))], 0, [(1, [])]⟩,
      ⟨none, .store 1 (.t 84) (.t 82), none, [(84, (some 14)), (82, (some 11))], 2, [(1, [])]⟩] []) <|
     .seq (.region [
      ⟨(some 85), .mv (.t 11), none⟩,
      ⟨(some 86), .bin .add .int (.t 85) (.c (.int .i64 1)), none⟩,
      ⟨(some 11), .mv (.t 86), none⟩]) <|
     .region [
      ⟨(some 87), .mv (.t 12), none⟩,
      ⟨(some 88), .bin .sub .int (.t 87) (.c (.int .i64 1)), none⟩,
      ⟨(some 12), .mv (.t 88), none⟩])))) <|
  .seq (.region [
   ⟨(some 89), .mv (.t 11), none⟩,
   ⟨(some 10), .mv (.t 89), none⟩]) <|
  .ret, none⟩
noncomputable def ffn100 : FFn := ⟨5, 90, [(10, none)],
  cSeq (cReg 1 (
   oMv (kc (.int .i64 0)) s012)) <|
  cSeq (cDrw 16 (
   dSeq (dLook 0 [] (oMv g000 s015)) <|
   dSeq (dLook 0 [] (oMv g001 s016)) <|
   dSeq (dLook 0 [] (oMv g000 s017)) <|
   dSeq (dLook 0 [] (oMv g003 s020)) <|
   dSeq (dLook 0 [] (oMv g000 s021)) <|
   dSeq (dLook 0 [] (oMv g003 s022)) <|
   dSeq (dLook 0 [] (oP (vIdx 1 g021 g022) s023)) <|
   dSeq (dLook 0 [] (oLoad g023 s024)) <|
   dSeq (dLook 0 [] (oMv g000 s025)) <|
   dSeq (dLook 0 [] (oMv g001 s026)) <|
   dSeq (dLook 0 [] (oP (vIdx 1 g025 g026) s027)) <|
   dSeq (dLook 0 [] (oLoad g027 s030)) <|
   dSeq (dLook 0 [] (oP (vIdx 1 g015 g016) s031)) <|
   dSeq (dAct 0 [] (oStore g031 g024 noPut)) <|
   dSeq (dLook 0 [] (oP (vIdx 1 g017 g020) s032)) <|
   dSeq (dAct 0 [] (oStore g032 g030 noPut)) <|
   dNop)
   (ckNop) []) <|
  cSeq (cReg 6 (
   oSeq (oMv g001 s033) <|
   oSeq (oP (vAdd g033 (kc (.int .i64 1))) s034) <|
   oSeq (oMv g002 s035) <|
   oSeq (oP (vSub g035 (kc (.int .i64 1))) s036) <|
   oSeq (oMv g034 s013) <|
   oMv g036 s014)) <|
  cSeq (cBlock 1 (cLoop 1000000 (cBlock 3 (cSeq (cBlock 5 (cLoop 1000000 (cSeq (cSeq (cDrw 17 (
        dSeq (dLook 0 [] (oMv g013 s037)) <|
        dSeq (dLook 0 [] (oMv g014 s040)) <|
        dSeq (dLook 0 [] (oP (vLeq g037 g040) s041)) <|
        dSeq (dLook 0 [] (oMv g041 s042)) <|
        dSeq (dLook 0 [] (oGuard g042 true s043 (oMv g004 s043))) <|
        dSeq (dLook 0 [] (oGuard g042 true s044 (oMv g000 s044))) <|
        dSeq (dLook 0 [] (oGuard g042 true s045 (oMv g001 s045))) <|
        dSeq (dLook 0 [] (oGuard g042 true s046 (oP (vIdx 1 g044 g045) s046))) <|
        dSeq (dLook 0 [] (oGuard g042 true s047 (oLoad g046 s047))) <|
        dSeq (dLook 0 [] (oGuard g042 true s050 (oMv g000 s050))) <|
        dSeq (dLook 0 [] (oGuard g042 true s051 (oMv g013 s051))) <|
        dSeq (dLook 0 [] (oGuard g042 true s052 (oP (vIdx 1 g050 g051) s052))) <|
        dSeq (dLook 0 [] (oGuard g042 true s053 (oLoad g052 s053))) <|
        dSeq (dAct 0 [] (oGuard g042 true s054 (oCall g043 (fun T => [g047 T, g053 T]) s054))) <|
        dSeq (dLook 0 [] (oGuard g042 true s055 (oP (vLss g054 (kc (.int .i64 0))) s055))) <|
        dSeq (dLook 0 [] (oGuard g042 true s056 (oGen (.un .not (.t 45)) 15 s056))) <|
        dSeq (dLook 0 [] (oP (vPick g042 g056 (kc (.bool false))) s057)) <|
        dNop)
        (ckNop) []) <|
       cCond g057
        (cSkip)
        (cExit 5)) <|
       cBlock 7 (cReg 3 (
         oSeq (oMv g013 s060) <|
         oSeq (oP (vAdd g060 (kc (.int .i64 1))) s061) <|
         oMv g061 s013))))) <|
     cSeq (cBlock 9 (cLoop 1000000 (cSeq (cSeq (cDrw 16 (
        dSeq (dLook 0 [] (oMv g013 s062)) <|
        dSeq (dLook 0 [] (oMv g014 s063)) <|
        dSeq (dLook 0 [] (oP (vLeq g062 g063) s064)) <|
        dSeq (dLook 0 [] (oMv g064 s065)) <|
        dSeq (dLook 0 [] (oGuard g065 true s066 (oMv g004 s066))) <|
        dSeq (dLook 0 [] (oGuard g065 true s067 (oMv g000 s067))) <|
        dSeq (dLook 0 [] (oGuard g065 true s070 (oMv g001 s070))) <|
        dSeq (dLook 0 [] (oGuard g065 true s071 (oP (vIdx 1 g067 g070) s071))) <|
        dSeq (dLook 0 [] (oGuard g065 true s072 (oLoad g071 s072))) <|
        dSeq (dLook 0 [] (oGuard g065 true s073 (oMv g000 s073))) <|
        dSeq (dLook 0 [] (oGuard g065 true s074 (oMv g014 s074))) <|
        dSeq (dLook 0 [] (oGuard g065 true s075 (oP (vIdx 1 g073 g074) s075))) <|
        dSeq (dLook 0 [] (oGuard g065 true s076 (oLoad g075 s076))) <|
        dSeq (dAct 0 [] (oGuard g065 true s077 (oCall g066 (fun T => [g072 T, g076 T]) s077))) <|
        dSeq (dLook 0 [] (oGuard g065 true s100 (oP (vLss g077 (kc (.int .i64 0))) s100))) <|
        dSeq (dLook 0 [] (oP (vPick g065 g100 (kc (.bool false))) s101)) <|
        dNop)
        (ckNop) []) <|
       cCond g101
        (cSkip)
        (cExit 9)) <|
       cBlock 11 (cReg 3 (
         oSeq (oMv g014 s102) <|
         oSeq (oP (vSub g102 (kc (.int .i64 1))) s103) <|
         oMv g103 s014))))) <|
     cSeq (cSeq (cReg 3 (
      oSeq (oMv g013 s104) <|
      oSeq (oMv g014 s105) <|
      oP (vGtr g104 g105) s106)) <|
     cCond g106
      (cExit 1)
      (cSkip)) <|
     cSeq (cDrw 16 (
      dSeq (dLook 0 [] (oMv g000 s107)) <|
      dSeq (dLook 0 [] (oMv g013 s110)) <|
      dSeq (dLook 0 [] (oMv g000 s111)) <|
      dSeq (dLook 0 [] (oMv g014 s112)) <|
      dSeq (dLook 0 [] (oMv g000 s113)) <|
      dSeq (dLook 0 [] (oMv g014 s114)) <|
      dSeq (dLook 0 [] (oP (vIdx 1 g113 g114) s115)) <|
      dSeq (dLook 0 [] (oLoad g115 s116)) <|
      dSeq (dLook 0 [] (oMv g000 s117)) <|
      dSeq (dLook 0 [] (oMv g013 s120)) <|
      dSeq (dLook 0 [] (oP (vIdx 1 g117 g120) s121)) <|
      dSeq (dLook 0 [] (oLoad g121 s122)) <|
      dSeq (dLook 0 [] (oP (vIdx 1 g107 g110) s123)) <|
      dSeq (dAct 0 [] (oStore g123 g116 noPut)) <|
      dSeq (dLook 0 [] (oP (vIdx 1 g111 g112) s124)) <|
      dSeq (dAct 0 [] (oStore g124 g122 noPut)) <|
      dNop)
      (ckNop) []) <|
     cSeq (cReg 3 (
      oSeq (oMv g013 s125) <|
      oSeq (oP (vAdd g125 (kc (.int .i64 1))) s126) <|
      oMv g126 s013)) <|
     cReg 3 (
      oSeq (oMv g014 s127) <|
      oSeq (oP (vSub g127 (kc (.int .i64 1))) s130) <|
      oMv g130 s014))))) <|
  cSeq (cReg 2 (
   oSeq (oMv g013 s131) <|
   oMv g131 s012)) <|
  cExit 0⟩
def afn101 : AFn := ⟨5, 178, [(10, none), (11, none)],
  .seq (.region [
   ⟨(some 10), .mv (.c (.int .i64 0)), none⟩,
   ⟨(some 11), .mv (.c (.bool false)), none⟩]) <|
  .seq (.draw [
   ⟨(some 14), .mv (.t 0), none, [(0, none)], 0, [(0, [])]⟩,
   ⟨(some 15), .mv (.t 1), none, [(1, none)], 0, [(0, [])]⟩,
   ⟨(some 16), .mv (.t 0), none, [(0, none)], 0, [(0, []), (1, [])]⟩,
   ⟨(some 17), .mv (.t 3), none, [(3, none)], 0, [(0, []), (1, [])]⟩,
   ⟨(some 18), .mv (.t 0), none, [(0, none)], 0, [(0, [])]⟩,
   ⟨(some 19), .mv (.t 3), none, [(3, none)], 0, [(0, [])]⟩,
   ⟨(some 20), .indexAddr 1 (.t 18) (.t 19), none, [(18, (some 4)), (19, (some 5))], 0, [(0, [])]⟩,
   ⟨(some 21), .load none (.t 20), none, [(20, (some 6))], 0, [(0, [])]⟩,
   ⟨(some 22), .mv (.t 0), none, [(0, none)], 0, [(0, [])]⟩,
   ⟨(some 23), .mv (.t 1), none, [(1, none)], 0, [(0, [])]⟩,
   ⟨(some 24), .indexAddr 1 (.t 22) (.t 23), none, [(22, (some 8)), (23, (some 9))], 0, [(0, [])]⟩,
   ⟨(some 25), .load none (.t 24), none, [(24, (some 10))], 0, [(0, [])]⟩,
   ⟨(some 26), .indexAddr 1 (.t 14) (.t 15), none, [(14, (some 0)), (15, (some 1))], 0, [(0, [])]⟩,
   ⟨none, .store 1 (.t 26) (.t 21), none, [(26, (some 12)), (21, (some 7))], 2, [(0, [])]⟩,
   ⟨(some 27), .indexAddr 1 (.t 16) (.t 17), none, [(16, (some 2)), (17, (some 3))], 0, [(1, [])]⟩,
   ⟨none, .store 1 (.t 27) (.t 25), none, [(27, (some 14)), (25, (some 11))], 2, [(1, [])]⟩] []) <|
  .seq (.region [
   ⟨(some 28), .mv (.t 1), none⟩,
   ⟨(some 29), .bin .add .int (.t 28) (.c (.int .i64 1)), none⟩,
   ⟨(some 30), .mv (.t 2), none⟩,
   ⟨(some 31), .bin .sub .int (.t 30) (.c (.int .i64 1)), none⟩,
   ⟨(some 12), .mv (.t 29), none⟩,
   ⟨(some 13), .mv (.t 31), none⟩]) <|
  .seq (.block 0 (.loop (.seq (.seq (.draw [
     ⟨(some 32), .mv (.t 12), none, [(12, none)], 0, [(0, [])]⟩,
     ⟨(some 33), .mv (.t 13), none, [(13, none)], 0, [(0, [])]⟩,
     ⟨(some 34), .bin .leq .int (.t 32) (.t 33), none, [(32, (some 0)), (33, (some 1))], 0, [(0, [])]⟩,
     ⟨(some 35), .mv (.t 34), none, [(34, (some 2))], 0, [(0, [])]⟩,
     ⟨(some 36), .mv (.t 4), (some (35, true)), [(4, none), (35, (some 3))], 0, [(0, [])]⟩,
     ⟨(some 37), .mv (.t 0), (some (35, true)), [(0, none), (35, (some 3))], 0, [(0, [])]⟩,
     ⟨(some 38), .mv (.t 12), (some (35, true)), [(12, none), (35, (some 3))], 0, [(0, [])]⟩,
     ⟨(some 39), .indexAddr 1 (.t 37) (.t 38), (some (35, true)), [(37, (some 5)), (38, (some 6)), (35, (some 3))], 0, [(0, [])]⟩,
     ⟨(some 40), .load none (.t 39), (some (35, true)), [(39, (some 7)), (35, (some 3))], 0, [(0, [])]⟩,
     ⟨(some 41), .mv (.t 0), (some (35, true)), [(0, none), (35, (some 3))], 0, [(0, [])]⟩,
     ⟨(some 42), .mv (.t 1), (some (35, true)), [(1, none), (35, (some 3))], 0, [(0, [])]⟩,
     ⟨(some 43), .indexAddr 1 (.t 41) (.t 42), (some (35, true)), [(41, (some 9)), (42, (some 10)), (35, (some 3))], 0, [(0, [])]⟩,
     ⟨(some 44), .load none (.t 43), (some (35, true)), [(43, (some 11)), (35, (some 3))], 0, [(0, [])]⟩,
     ⟨(some 45), .call (.t 36) [(.t 40), (.t 44)], (some (35, true)), [(36, (some 4)), (40, (some 8)), (44, (some 12)), (35, (some 3))], 2, [(0, [])]⟩,
     ⟨(some 46), .bin .lss .int (.t 45) (.c (.int .i64 0)), (some (35, true)), [(45, (some 13)), (35, (some 3))], 0, [(1, [])]⟩,
     ⟨(some 47), .pick (.t 35) (.t 46) (.c (.bool false)), none, [(35, (some 3)), (46, (some 14))], 0, [(1, [])]⟩] []) <|
    .cond (.t 47)
     (.skip)
     (.exit 0)) <|
    .block 1 (.region [
      ⟨(some 48), .mv (.t 12), none⟩,
      ⟨(some 49), .bin .add .int (.t 48) (.c (.int .i64 1)), none⟩,
      ⟨(some 12), .mv (.t 49), none⟩])))) <|
  .seq (.block 2 (.loop (.seq (.seq (.draw [
     ⟨(some 50), .mv (.t 12), none, [(12, none)], 0, [(0, [])]⟩,
     ⟨(some 51), .mv (.t 13), none, [(13, none)], 0, [(0, [])]⟩,
     ⟨(some 52), .bin .leq .int (.t 50) (.t 51), none, [(50, (some 0)), (51, (some 1))], 0, [(0, [])]⟩,
     ⟨(some 53), .mv (.t 52), none, [(52, (some 2))], 0, [(0, [])]⟩,
     ⟨(some 54), .mv (.t 4), (some (53, true)), [(4, none), (53, (some 3))], 0, [(0, [])]⟩,
     ⟨(some 55), .mv (.t 0), (some (53, true)), [(0, none), (53, (some 3))], 0, [(0, [])]⟩,
     ⟨(some 56), .mv (.t 13), (some (53, true)), [(13, none), (53, (some 3))], 0, [(0, [])]⟩,
     ⟨(some 57), .indexAddr 1 (.t 55) (.t 56), (some (53, true)), [(55, (some 5)), (56, (some 6)), (53, (some 3))], 0, [(0, [])]⟩,
     ⟨(some 58), .load none (.t 57), (some (53, true)), [(57, (some 7)), (53, (some 3))], 0, [(0, [])]⟩,
     ⟨(some 59), .mv (.t 0), (some (53, true)), [(0, none), (53, (some 3))], 0, [(0, [])]⟩,
     ⟨(some 60), .mv (.t 1), (some (53, true)), [(1, none), (53, (some 3))], 0, [(0, [])]⟩,
     ⟨(some 61), .indexAddr 1 (.t 59) (.t 60), (some (53, true)), [(59, (some 9)), (60, (some 10)), (53, (some 3))], 0, [(0, [])]⟩,
     ⟨(some 62), .load none (.t 61), (some (53, true)), [(61, (some 11)), (53, (some 3))], 0, [(0, [])]⟩,
     ⟨(some 63), .call (.t 54) [(.t 58), (.t 62)], (some (53, true)), [(54, (some 4)), (58, (some 8)), (62, (some 12)), (53, (some 3))], 2, [(0, [])]⟩,
     ⟨(some 64), .bin .lss .int (.t 63) (.c (.int .i64 0)), (some (53, true)), [(63, (some 13)), (53, (some 3))], 0, [(1, [])]⟩,
     ⟨(some 65), .un .not (.t 64), (some (53, true)), [(64, (some 14)), (53, (some 3))], 0, [(1, [])]⟩,
     ⟨(some 66), .pick (.t 53) (.t 65) (.c (.bool false)), none, [(53, (some 3)), (65, (some 15))], 0, [(1, [])]⟩] []) <|
    .cond (.t 66)
     (.skip)
     (.exit 2)) <|
    .block 3 (.region [
      ⟨(some 67), .mv (.t 13), none⟩,
      ⟨(some 68), .bin .sub .int (.t 67) (.c (.int .i64 1)), none⟩,
      ⟨(some 13), .mv (.t 68), none⟩])))) <|
  .seq (.seq (.region [
   ⟨(some 69), .mv (.t 12), none⟩,
   ⟨(some 70), .mv (.t 13), none⟩,
   ⟨(some 71), .bin .gtr .int (.t 69) (.t 70), none⟩]) <|
  .cond (.t 71)
   (.seq (.draw [
    ⟨(some 72), .mv (.t 0), none, [(0, none)], 0, [(0, [])]⟩,
    ⟨(some 73), .mv (.t 13), none, [(13, none)], 0, [(0, [])]⟩,
    ⟨(some 74), .mv (.t 0), none, [(0, none)], 0, [(0, []), (1, [])]⟩,
    ⟨(some 75), .mv (.t 1), none, [(1, none)], 0, [(0, []), (1, [])]⟩,
    ⟨(some 76), .mv (.t 0), none, [(0, none)], 0, [(0, [])]⟩,
    ⟨(some 77), .mv (.t 1), none, [(1, none)], 0, [(0, [])]⟩,
    ⟨(some 78), .indexAddr 1 (.t 76) (.t 77), none, [(76, (some 4)), (77, (some 5))], 0, [(0, [])]⟩,
    ⟨(some 79), .load none (.t 78), none, [(78, (some 6))], 0, [(0, [])]⟩,
    ⟨(some 80), .mv (.t 0), none, [(0, none)], 0, [(0, [])]⟩,
    ⟨(some 81), .mv (.t 13), none, [(13, none)], 0, [(0, [])]⟩,
    ⟨(some 82), .indexAddr 1 (.t 80) (.t 81), none, [(80, (some 8)), (81, (some 9))], 0, [(0, [])]⟩,
    ⟨(some 83), .load none (.t 82), none, [(82, (some 10))], 0, [(0, [])]⟩,
    ⟨(some 84), .indexAddr 1 (.t 72) (.t 73), none, [(72, (some 0)), (73, (some 1))], 0, [(0, [])]⟩,
    ⟨none, .store 1 (.t 84) (.t 79), none, [(84, (some 12)), (79, (some 7))], 2, [(0, [])]⟩,
    ⟨(some 85), .indexAddr 1 (.t 74) (.t 75), none, [(74, (some 2)), (75, (some 3))], 0, [(1, [])]⟩,
    ⟨none, .store 1 (.t 85) (.t 83), none, [(85, (some 14)), (83, (some 11))], 2, [(1, [])]⟩] []) <|
   .seq (.region [
    ⟨(some 86), .mv (.t 13), none⟩,
    ⟨(some 10), .mv (.t 86), none⟩,
    ⟨(some 11), .mv (.c (.bool true)), none⟩]) <|
   .ret)
   (.skip)) <|
  .seq (.draw [
   ⟨(some 87), .mv (.t 0), none, [(0, none)], 0, [(0, [])]⟩,
   ⟨(some 88), .mv (.t 12), none, [(12, none)], 0, [(0, [])]⟩,
   ⟨(some 89), .mv (.t 0), none, [(0, none)], 0, [(0, []), (1, [])]⟩,
   ⟨(some 90), .mv (.t 13), none, [(13, none)], 0, [(0, []), (1, [])]⟩,
   ⟨(some 91), .mv (.t 0), none, [(0, none)], 0, [(0, [])]⟩,
   ⟨(some 92), .mv (.t 13), none, [(13, none)], 0, [(0, [])]⟩,
   ⟨(some 93), .indexAddr 1 (.t 91) (.t 92), none, [(91, (some 4)), (92, (some 5))], 0, [(0, [])]⟩,
   ⟨(some 94), .load none (.t 93), none, [(93, (some 6))], 0, [(0, [])]⟩,
   ⟨(some 95), .mv (.t 0), none, [(0, none)], 0, [(0, [])]⟩,
   ⟨(some 96), .mv (.t 12), none, [(12, none)], 0, [(0, [])]⟩,
   ⟨(some 97), .indexAddr 1 (.t 95) (.t 96), none, [(95, (some 8)), (96, (some 9))], 0, [(0, [])]⟩,
   ⟨(some 98), .load none (.t 97), none, [(97, (some 10))], 0, [(0, [])]⟩,
   ⟨(some 99), .indexAddr 1 (.t 87) (.t 88), none, [(87, (some 0)), (88, (some 1))], 0, [(0, [])]⟩,
   ⟨none, .store 1 (.t 99) (.t 94), none, [(99, (some 12)), (94, (some 7))], 2, [(0, [])]⟩,
   ⟨(some 100), .indexAddr 1 (.t 89) (.t 90), none, [(89, (some 2)), (90, (some 3))], 0, [(1, [])]⟩,
   ⟨none, .store 1 (.t 100) (.t 98), none, [(100, (some 14)), (98, (some 11))], 2, [(1, [])]⟩] []) <|
  .seq (.region [
   ⟨(some 101), .mv (.t 12), none⟩,
   ⟨(some 102), .bin .add .int (.t 101) (.c (.int .i64 1)), none⟩,
   ⟨(some 12), .mv (.t 102), none⟩]) <|
  .seq (.region [
   ⟨(some 103), .mv (.t 13), none⟩,
   ⟨(some 104), .bin .sub .int (.t 103) (.c (.int .i64 1)), none⟩,
   ⟨(some 13), .mv (.t 104), none⟩]) <|
  .seq (.block 4 (.loop (.block 5 (.seq (.block 6 (.loop (.seq (.seq (.draw [
        ⟨(some 105), .mv (.t 12), none, [(12, none)], 0, [(0, [])]⟩,
        ⟨(some 106), .mv (.t 13), none, [(13, none)], 0, [(0, [])]⟩,
        ⟨(some 107), .bin .leq .int (.t 105) (.t 106), none, [(105, (some 0)), (106, (some 1))], 0, [(0, [])]⟩,
        ⟨(some 108), .mv (.t 107), none, [(107, (some 2))], 0, [(0, [])]⟩,
        ⟨(some 109), .mv (.t 4), (some (108, true)), [(4, none), (108, (some 3))], 0, [(0, [])]⟩,
        ⟨(some 110), .mv (.t 0), (some (108, true)), [(0, none), (108, (some 3))], 0, [(0, [])]⟩,
        ⟨(some 111), .mv (.t 12), (some (108, true)), [(12, none), (108, (some 3))], 0, [(0, [])]⟩,
        ⟨(some 112), .indexAddr 1 (.t 110) (.t 111), (some (108, true)), [(110, (some 5)), (111, (some 6)), (108, (some 3))], 0, [(0, [])]⟩,
        ⟨(some 113), .load none (.t 112), (some (108, true)), [(112, (some 7)), (108, (some 3))], 0, [(0, [])]⟩,
        ⟨(some 114), .mv (.t 0), (some (108, true)), [(0, none), (108, (some 3))], 0, [(0, [])]⟩,
        ⟨(some 115), .mv (.t 1), (some (108, true)), [(1, none), (108, (some 3))], 0, [(0, [])]⟩,
        ⟨(some 116), .indexAddr 1 (.t 114) (.t 115), (some (108, true)), [(114, (some 9)), (115, (some 10)), (108, (some 3))], 0, [(0, [])]⟩,
        ⟨(some 117), .load none (.t 116), (some (108, true)), [(116, (some 11)), (108, (some 3))], 0, [(0, [])]⟩,
        ⟨(some 118), .call (.t 109) [(.t 113), (.t 117)], (some (108, true)), [(109, (some 4)), (113, (some 8)), (117, (some 12)), (108, (some 3))], 2, [(0, [])]⟩,
        ⟨(some 119), .bin .lss .int (.t 118) (.c (.int .i64 0)), (some (108, true)), [(118, (some 13)), (108, (some 3))], 0, [(1, [])]⟩,
        ⟨(some 120), .pick (.t 108) (.t 119) (.c (.bool false)), none, [(108, (some 3)), (119, (some 14))], 0, [(1, [])]⟩] []) <|
       .cond (.t 120)
        (.skip)
        (.exit 6)) <|
       .block 7 (.region [
         ⟨(some 121), .mv (.t 12), none⟩,
         ⟨(some 122), .bin .add .int (.t 121) (.c (.int .i64 1)), none⟩,
         ⟨(some 12), .mv (.t 122), none⟩])))) <|
     .seq (.block 8 (.loop (.seq (.seq (.draw [
        ⟨(some 123), .mv (.t 12), none, [(12, none)], 0, [(0, [])]⟩,
        ⟨(some 124), .mv (.t 13), none, [(13, none)], 0, [(0, [])]⟩,
        ⟨(some 125), .bin .leq .int (.t 123) (.t 124), none, [(123, (some 0)), (124, (some 1))], 0, [(0, [])]⟩,
        ⟨(some 126), .mv (.t 125), none, [(125, (some 2))], 0, [(0, [])]⟩,
        ⟨(some 127), .mv (.t 4), (some (126, true)), [(4, none), (126, (some 3))], 0, [(0, [])]⟩,
        ⟨(some 128), .mv (.t 0), (some (126, true)), [(0, none), (126, (some 3))], 0, [(0, [])]⟩,
        ⟨(some 129), .mv (.t 13), (some (126, true)), [(13, none), (126, (some 3))], 0, [(0, [])]⟩,
        ⟨(some 130), .indexAddr 1 (.t 128) (.t 129), (some (126, true)), [(128, (some 5)), (129, (some 6)), (126, (some 3))], 0, [(0, [])]⟩,
        ⟨(some 131), .load none (.t 130), (some (126, true)), [(130, (some 7)), (126, (some 3))], 0, [(0, [])]⟩,
        ⟨(some 132), .mv (.t 0), (some (126, true)), [(0, none), (126, (some 3))], 0, [(0, [])]⟩,
        ⟨(some 133), .mv (.t 1), (some (126, true)), [(1, none), (126, (some 3))], 0, [(0, [])]⟩,
        ⟨(some 134), .indexAddr 1 (.t 132) (.t 133), (some (126, true)), [(132, (some 9)), (133, (some 10)), (126, (some 3))], 0, [(0, [])]⟩,
        ⟨(some 135), .load none (.t 134), (some (126, true)), [(134, (some 11)), (126, (some 3))], 0, [(0, [])]⟩,
        ⟨(some 136), .call (.t 127) [(.t 131), (.t 135)], (some (126, true)), [(127, (some 4)), (131, (some 8)), (135, (some 12)), (126, (some 3))], 2, [(0, [])]⟩,
        ⟨(some 137), .bin .lss .int (.t 136) (.c (.int .i64 0)), (some (126, true)), [(136, (some 13)), (126, (some 3))], 0, [(1, [])]⟩,
        ⟨(some 138), .un .not (.t 137), (some (126, true)), [(137, (some 14)), (126, (some 3))], 0, [(1, [])]⟩,
        ⟨(some 139), .pick (.t 126) (.t 138) (.c (.bool false)), none, [(126, (some 3)), (138, (some 15))], 0, [(1, [])]⟩] []) <|
       .cond (.t 139)
        (.skip)
        (.exit 8)) <|
       .block 9 (.region [
         ⟨(some 140), .mv (.t 13), none⟩,
         ⟨(some 141), .bin .sub .int (.t 140) (.c (.int .i64 1)), none⟩,
         ⟨(some 13), .mv (.t 141), none⟩])))) <|
     .seq (.seq (.region [
      ⟨(some 142), .mv (.t 12), none⟩,
      ⟨(some 143), .mv (.t 13), none⟩,
      ⟨(some 144), .bin .gtr .int (.t 142) (.t 143), none⟩]) <|
     .cond (.t 144)
      (.exit 4)
      (.skip)) <|
     .seq (.draw [
      ⟨(some 145), .mv (.t 0), none, [(0, none)], 0, [(0, [])]⟩,
      ⟨(some 146), .mv (.t 12), none, [(12, none)], 0, [(0, [])]⟩,
      ⟨(some 147), .mv (.t 0), none, [(0, none)], 0, [(0, []), (1, [])]⟩,
      ⟨(some 148), .mv (.t 13), none, [(13, none)], 0, [(0, []), (1, [])]⟩,
      ⟨(some 149), .mv (.t 0), none, [(0, none)], 0, [(0, [])]⟩,
      ⟨(some 150), .mv (.t 13), none, [(13, none)], 0, [(0, [])]⟩,
      ⟨(some 151), .indexAddr 1 (.t 149) (.t 150), none, [(149, (some 4)), (150, (some 5))], 0, [(0, [])]⟩,
      ⟨(some 152), .load none (.t 151), none, [(151, (some 6))], 0, [(0, [])]⟩,
      ⟨(some 153), .mv (.t 0), none, [(0, none)], 0, [(0, [])]⟩,
      ⟨(some 154), .mv (.t 12), none, [(12, none)], 0, [(0, [])]⟩,
      ⟨(some 155), .indexAddr 1 (.t 153) (.t 154), none, [(153, (some 8)), (154, (some 9))], 0, [(0, [])]⟩,
      ⟨(some 156), .load none (.t 155), none, [(155, (some 10))], 0, [(0, [])]⟩,
      ⟨(some 157), .indexAddr 1 (.t 145) (.t 146), none, [(145, (some 0)), (146, (some 1))], 0, [(0, [])]⟩,
      ⟨none, .store 1 (.t 157) (.t 152), none, [(157, (some 12)), (152, (some 7))], 2, [(0, [])]⟩,
      ⟨(some 158), .indexAddr 1 (.t 147) (.t 148), none, [(147, (some 2)), (148, (some 3))], 0, [(1, [])]⟩,
      ⟨none, .store 1 (.t 158) (.t 156), none, [(158, (some 14)), (156, (some 11))], 2, [(1, [])]⟩] []) <|
     .seq (.region [
      ⟨(some 159), .mv (.t 12), none⟩,
      ⟨(some 160), .bin .add .int (.t 159) (.c (.int .i64 1)), none⟩,
      ⟨(some 12), .mv (.t 160), none⟩]) <|
     .region [
      ⟨(some 161), .mv (.t 13), none⟩,
      ⟨(some 162), .bin .sub .int (.t 161) (.c (.int .i64 1)), none⟩,
      ⟨(some 13), .mv (.t 162), none⟩])))) <|
  .seq (.draw [
   ⟨(some 163), .mv (.t 0), none, [(0, none)], 0, [(0, [])]⟩,
   ⟨(some 164), .mv (.t 13), none, [(13, none)], 0, [(0, [])]⟩,
   ⟨(some 165), .mv (.t 0), none, [(0, none)], 0, [(0, []), (1, [])]⟩,
   ⟨(some 166), .mv (.t 1), none, [(1, none)], 0, [(0, []), (1, [])]⟩,
   ⟨(some 167), .mv (.t 0), none, [(0, none)], 0, [(0, [])]⟩,
   ⟨(some 168), .mv (.t 1), none, [(1, none)], 0, [(0, [])]⟩,
   ⟨(some 169), .indexAddr 1 (.t 167) (.t 168), none, [(167, (some 4)), (168, (some 5))], 0, [(0, [])]⟩,
   ⟨(some 170), .load none (.t 169), none, [(169, (some 6))], 0, [(0, [])]⟩,
   ⟨(some 171), .mv (.t 0), none, [(0, none)], 0, [(0, [])]⟩,
   ⟨(some 172), .mv (.t 13), none, [(13, none)], 0, [(0, [])]⟩,
   ⟨(some 173), .indexAddr 1 (.t 171) (.t 172), none, [(171, (some 8)), (172, (some 9))], 0, [(0, [])]⟩,
   ⟨(some 174), .load none (.t 173), none, [(173, (some 10))], 0, [(0, [])]⟩,
   ⟨(some 175), .indexAddr 1 (.t 163) (.t 164), none, [(163, (some 0)), (164, (some 1))], 0, [(0, [])]⟩,
   ⟨none, .store 1 (.t 175) (.t 170), none, [(175, (some 12)), (170, (some 7))], 2, [(0, [])]⟩,
   ⟨(some 176), .indexAddr 1 (.t 165) (.t 166), none, [(165, (some 2)), (166, (some 3))], 0, [(1, [])]⟩,
   ⟨none, .store 1 (.t 176) (.t 174), none, [(176, (some 14)), (174, (some 11))], 2, [(1, [])]⟩] []) <|
  .seq (.region [
   ⟨(some 177), .mv (.t 13), none⟩,
   ⟨(some 10), .mv (.t 177), none⟩,
   ⟨(some 11), .mv (.c (.bool false)), none⟩]) <|
  .ret, none⟩
noncomputable def ffn101 : FFn := ⟨5, 178, [(10, none), (11, none)],
  cSeq (cReg 2 (
   oSeq (oMv (kc (.int .i64 0)) s012) <|
   oMv (kc (.bool false)) s013)) <|
  cSeq (cDrw 16 (
   dSeq (dLook 0 [] (oMv g000 s016)) <|
   dSeq (dLook 0 [] (oMv g001 s017)) <|
   dSeq (dLook 0 [] (oMv g000 s020)) <|
   dSeq (dLook 0 [] (oMv g003 s021)) <|
   dSeq (dLook 0 [] (oMv g000 s022)) <|
   dSeq (dLook 0 [] (oMv g003 s023)) <|
   dSeq (dLook 0 [] (oP (vIdx 1 g022 g023) s024)) <|
   dSeq (dLook 0 [] (oLoad g024 s025)) <|
   dSeq (dLook 0 [] (oMv g000 s026)) <|
   dSeq (dLook 0 [] (oMv g001 s027)) <|
   dSeq (dLook 0 [] (oP (vIdx 1 g026 g027) s030)) <|
   dSeq (dLook 0 [] (oLoad g030 s031)) <|
   dSeq (dLook 0 [] (oP (vIdx 1 g016 g017) s032)) <|
   dSeq (dAct 0 [] (oStore g032 g025 noPut)) <|
   dSeq (dLook 0 [] (oP (vIdx 1 g020 g021) s033)) <|
   dSeq (dAct 0 [] (oStore g033 g031 noPut)) <|
   dNop)
   (ckNop) []) <|
  cSeq (cReg 6 (
   oSeq (oMv g001 s034) <|
   oSeq (oP (vAdd g034 (kc (.int .i64 1))) s035) <|
   oSeq (oMv g002 s036) <|
   oSeq (oP (vSub g036 (kc (.int .i64 1))) s037) <|
   oSeq (oMv g035 s014) <|
   oMv g037 s015)) <|
  cSeq (cBlock 1 (cLoop 1000000 (cSeq (cSeq (cDrw 16 (
     dSeq (dLook 0 [] (oMv g014 s040)) <|
     dSeq (dLook 0 [] (oMv g015 s041)) <|
     dSeq (dLook 0 [] (oP (vLeq g040 g041) s042)) <|
     dSeq (dLook 0 [] (oMv g042 s043)) <|
     dSeq (dLook 0 [] (oGuard g043 true s044 (oMv g004 s044))) <|
     dSeq (dLook 0 [] (oGuard g043 true s045 (oMv g000 s045))) <|
     dSeq (dLook 0 [] (oGuard g043 true s046 (oMv g014 s046))) <|
     dSeq (dLook 0 [] (oGuard g043 true s047 (oP (vIdx 1 g045 g046) s047))) <|
     dSeq (dLook 0 [] (oGuard g043 true s050 (oLoad g047 s050))) <|
     dSeq (dLook 0 [] (oGuard g043 true s051 (oMv g000 s051))) <|
     dSeq (dLook 0 [] (oGuard g043 true s052 (oMv g001 s052))) <|
     dSeq (dLook 0 [] (oGuard g043 true s053 (oP (vIdx 1 g051 g052) s053))) <|
     dSeq (dLook 0 [] (oGuard g043 true s054 (oLoad g053 s054))) <|
     dSeq (dAct 0 [] (oGuard g043 true s055 (oCall g044 (fun T => [g050 T, g054 T]) s055))) <|
     dSeq (dLook 0 [] (oGuard g043 true s056 (oP (vLss g055 (kc (.int .i64 0))) s056))) <|
     dSeq (dLook 0 [] (oP (vPick g043 g056 (kc (.bool false))) s057)) <|
     dNop)
     (ckNop) []) <|
    cCond g057
     (cSkip)
     (cExit 1)) <|
    cBlock 3 (cReg 3 (
      oSeq (oMv g014 s060) <|
      oSeq (oP (vAdd g060 (kc (.int .i64 1))) s061) <|
      oMv g061 s014))))) <|
  cSeq (cBlock 5 (cLoop 1000000 (cSeq (cSeq (cDrw 17 (
     dSeq (dLook 0 [] (oMv g014 s062)) <|
     dSeq (dLook 0 [] (oMv g015 s063)) <|
     dSeq (dLook 0 [] (oP (vLeq g062 g063) s064)) <|
     dSeq (dLook 0 [] (oMv g064 s065)) <|
     dSeq (dLook 0 [] (oGuard g065 true s066 (oMv g004 s066))) <|
     dSeq (dLook 0 [] (oGuard g065 true s067 (oMv g000 s067))) <|
     dSeq (dLook 0 [] (oGuard g065 true s070 (oMv g015 s070))) <|
     dSeq (dLook 0 [] (oGuard g065 true s071 (oP (vIdx 1 g067 g070) s071))) <|
     dSeq (dLook 0 [] (oGuard g065 true s072 (oLoad g071 s072))) <|
     dSeq (dLook 0 [] (oGuard g065 true s073 (oMv g000 s073))) <|
     dSeq (dLook 0 [] (oGuard g065 true s074 (oMv g001 s074))) <|
     dSeq (dLook 0 [] (oGuard g065 true s075 (oP (vIdx 1 g073 g074) s075))) <|
     dSeq (dLook 0 [] (oGuard g065 true s076 (oLoad g075 s076))) <|
     dSeq (dAct 0 [] (oGuard g065 true s077 (oCall g066 (fun T => [g072 T, g076 T]) s077))) <|
     dSeq (dLook 0 [] (oGuard g065 true s100 (oP (vLss g077 (kc (.int .i64 0))) s100))) <|
     dSeq (dLook 0 [] (oGuard g065 true s101 (oGen (.un .not (.t 64)) 15 s101))) <|
     dSeq (dLook 0 [] (oP (vPick g065 g101 (kc (.bool false))) s102)) <|
     dNop)
     (ckNop) []) <|
    cCond g102
     (cSkip)
     (cExit 5)) <|
    cBlock 7 (cReg 3 (
      oSeq (oMv g015 s103) <|
      oSeq (oP (vSub g103 (kc (.int .i64 1))) s104) <|
      oMv g104 s015))))) <|
  cSeq (cSeq (cReg 3 (
   oSeq (oMv g014 s105) <|
   oSeq (oMv g015 s106) <|
   oP (vGtr g105 g106) s107)) <|
  cCond g107
   (cSeq (cDrw 16 (
    dSeq (dLook 0 [] (oMv g000 s110)) <|
    dSeq (dLook 0 [] (oMv g015 s111)) <|
    dSeq (dLook 0 [] (oMv g000 s112)) <|
    dSeq (dLook 0 [] (oMv g001 s113)) <|
    dSeq (dLook 0 [] (oMv g000 s114)) <|
    dSeq (dLook 0 [] (oMv g001 s115)) <|
    dSeq (dLook 0 [] (oP (vIdx 1 g114 g115) s116)) <|
    dSeq (dLook 0 [] (oLoad g116 s117)) <|
    dSeq (dLook 0 [] (oMv g000 s120)) <|
    dSeq (dLook 0 [] (oMv g015 s121)) <|
    dSeq (dLook 0 [] (oP (vIdx 1 g120 g121) s122)) <|
    dSeq (dLook 0 [] (oLoad g122 s123)) <|
    dSeq (dLook 0 [] (oP (vIdx 1 g110 g111) s124)) <|
    dSeq (dAct 0 [] (oStore g124 g117 noPut)) <|
    dSeq (dLook 0 [] (oP (vIdx 1 g112 g113) s125)) <|
    dSeq (dAct 0 [] (oStore g125 g123 noPut)) <|
    dNop)
    (ckNop) []) <|
   cSeq (cReg 3 (
    oSeq (oMv g015 s126) <|
    oSeq (oMv g126 s012) <|
    oMv (kc (.bool true)) s013)) <|
   cExit 0)
   (cSkip)) <|
  cSeq (cDrw 16 (
   dSeq (dLook 0 [] (oMv g000 s127)) <|
   dSeq (dLook 0 [] (oMv g014 s130)) <|
   dSeq (dLook 0 [] (oMv g000 s131)) <|
   dSeq (dLook 0 [] (oMv g015 s132)) <|
   dSeq (dLook 0 [] (oMv g000 s133)) <|
   dSeq (dLook 0 [] (oMv g015 s134)) <|
   dSeq (dLook 0 [] (oP (vIdx 1 g133 g134) s135)) <|
   dSeq (dLook 0 [] (oLoad g135 s136)) <|
   dSeq (dLook 0 [] (oMv g000 s137)) <|
   dSeq (dLook 0 [] (oMv g014 s140)) <|
   dSeq (dLook 0 [] (oP (vIdx 1 g137 g140) s141)) <|
   dSeq (dLook 0 [] (oLoad g141 s142)) <|
   dSeq (dLook 0 [] (oP (vIdx 1 g127 g130) s143)) <|
   dSeq (dAct 0 [] (oStore g143 g136 noPut)) <|
   dSeq (dLook 0 [] (oP (vIdx 1 g131 g132) s144)) <|
   dSeq (dAct 0 [] (oStore g144 g142 noPut)) <|
   dNop)
   (ckNop) []) <|
  cSeq (cReg 3 (
   oSeq (oMv g014 s145) <|
   oSeq (oP (vAdd g145 (kc (.int .i64 1))) s146) <|
   oMv g146 s014)) <|
  cSeq (cReg 3 (
   oSeq (oMv g015 s147) <|
   oSeq (oP (vSub g147 (kc (.int .i64 1))) s150) <|
   oMv g150 s015)) <|
  cSeq (cBlock 9 (cLoop 1000000 (cBlock 11 (cSeq (cBlock 13 (cLoop 1000000 (cSeq (cSeq (cDrw 16 (
        dSeq (dLook 0 [] (oMv g014 s151)) <|
        dSeq (dLook 0 [] (oMv g015 s152)) <|
        dSeq (dLook 0 [] (oP (vLeq g151 g152) s153)) <|
        dSeq (dLook 0 [] (oMv g153 s154)) <|
        dSeq (dLook 0 [] (oGuard g154 true s155 (oMv g004 s155))) <|
        dSeq (dLook 0 [] (oGuard g154 true s156 (oMv g000 s156))) <|
        dSeq (dLook 0 [] (oGuard g154 true s157 (oMv g014 s157))) <|
        dSeq (dLook 0 [] (oGuard g154 true s160 (oP (vIdx 1 g156 g157) s160))) <|
        dSeq (dLook 0 [] (oGuard g154 true s161 (oLoad g160 s161))) <|
        dSeq (dLook 0 [] (oGuard g154 true s162 (oMv g000 s162))) <|
        dSeq (dLook 0 [] (oGuard g154 true s163 (oMv g001 s163))) <|
        dSeq (dLook 0 [] (oGuard g154 true s164 (oP (vIdx 1 g162 g163) s164))) <|
        dSeq (dLook 0 [] (oGuard g154 true s165 (oLoad g164 s165))) <|
        dSeq (dAct 0 [] (oGuard g154 true s166 (oCall g155 (fun T => [g161 T, g165 T]) s166))) <|
        dSeq (dLook 0 [] (oGuard g154 true s167 (oP (vLss g166 (kc (.int .i64 0))) s167))) <|
        dSeq (dLook 0 [] (oP (vPick g154 g167 (kc (.bool false))) s170)) <|
        dNop)
        (ckNop) []) <|
       cCond g170
        (cSkip)
        (cExit 13)) <|
       cBlock 15 (cReg 3 (
         oSeq (oMv g014 s171) <|
         oSeq (oP (vAdd g171 (kc (.int .i64 1))) s172) <|
         oMv g172 s014))))) <|
     cSeq (cBlock 17 (cLoop 1000000 (cSeq (cSeq (cDrw 17 (
        dSeq (dLook 0 [] (oMv g014 s173)) <|
        dSeq (dLook 0 [] (oMv g015 s174)) <|
        dSeq (dLook 0 [] (oP (vLeq g173 g174) s175)) <|
        dSeq (dLook 0 [] (oMv g175 s176)) <|
        dSeq (dLook 0 [] (oGuard g176 true s177 (oMv g004 s177))) <|
        dSeq (dLook 0 [] (oGuard g176 true s200 (oMv g000 s200))) <|
        dSeq (dLook 0 [] (oGuard g176 true s201 (oMv g015 s201))) <|
        dSeq (dLook 0 [] (oGuard g176 true s202 (oP (vIdx 1 g200 g201) s202))) <|
        dSeq (dLook 0 [] (oGuard g176 true s203 (oLoad g202 s203))) <|
        dSeq (dLook 0 [] (oGuard g176 true s204 (oMv g000 s204))) <|
        dSeq (dLook 0 [] (oGuard g176 true s205 (oMv g001 s205))) <|
        dSeq (dLook 0 [] (oGuard g176 true s206 (oP (vIdx 1 g204 g205) s206))) <|
        dSeq (dLook 0 [] (oGuard g176 true s207 (oLoad g206 s207))) <|
        dSeq (dAct 0 [] (oGuard g176 true s210 (oCall g177 (fun T => [g203 T, g207 T]) s210))) <|
        dSeq (dLook 0 [] (oGuard g176 true s211 (oP (vLss g210 (kc (.int .i64 0))) s211))) <|
        dSeq (dLook 0 [] (oGuard g176 true s212 (oGen (.un .not (.t 137)) 15 s212))) <|
        dSeq (dLook 0 [] (oP (vPick g176 g212 (kc (.bool false))) s213)) <|
        dNop)
        (ckNop) []) <|
       cCond g213
        (cSkip)
        (cExit 17)) <|
       cBlock 19 (cReg 3 (
         oSeq (oMv g015 s214) <|
         oSeq (oP (vSub g214 (kc (.int .i64 1))) s215) <|
         oMv g215 s015))))) <|
     cSeq (cSeq (cReg 3 (
      oSeq (oMv g014 s216) <|
      oSeq (oMv g015 s217) <|
      oP (vGtr g216 g217) s220)) <|
     cCond g220
      (cExit 9)
      (cSkip)) <|
     cSeq (cDrw 16 (
      dSeq (dLook 0 [] (oMv g000 s221)) <|
      dSeq (dLook 0 [] (oMv g014 s222)) <|
      dSeq (dLook 0 [] (oMv g000 s223)) <|
      dSeq (dLook 0 [] (oMv g015 s224)) <|
      dSeq (dLook 0 [] (oMv g000 s225)) <|
      dSeq (dLook 0 [] (oMv g015 s226)) <|
      dSeq (dLook 0 [] (oP (vIdx 1 g225 g226) s227)) <|
      dSeq (dLook 0 [] (oLoad g227 s230)) <|
      dSeq (dLook 0 [] (oMv g000 s231)) <|
      dSeq (dLook 0 [] (oMv g014 s232)) <|
      dSeq (dLook 0 [] (oP (vIdx 1 g231 g232) s233)) <|
      dSeq (dLook 0 [] (oLoad g233 s234)) <|
      dSeq (dLook 0 [] (oP (vIdx 1 g221 g222) s235)) <|
      dSeq (dAct 0 [] (oStore g235 g230 noPut)) <|
      dSeq (dLook 0 [] (oP (vIdx 1 g223 g224) s236)) <|
      dSeq (dAct 0 [] (oStore g236 g234 noPut)) <|
      dNop)
      (ckNop) []) <|
     cSeq (cReg 3 (
      oSeq (oMv g014 s237) <|
      oSeq (oP (vAdd g237 (kc (.int .i64 1))) s240) <|
      oMv g240 s014)) <|
     cReg 3 (
      oSeq (oMv g015 s241) <|
      oSeq (oP (vSub g241 (kc (.int .i64 1))) s242) <|
      oMv g242 s015))))) <|
  cSeq (cDrw 16 (
   dSeq (dLook 0 [] (oMv g000 s243)) <|
   dSeq (dLook 0 [] (oMv g015 s244)) <|
   dSeq (dLook 0 [] (oMv g000 s245)) <|
   dSeq (dLook 0 [] (oMv g001 s246)) <|
   dSeq (dLook 0 [] (oMv g000 s247)) <|
   dSeq (dLook 0 [] (oMv g001 s250)) <|
   dSeq (dLook 0 [] (oP (vIdx 1 g247 g250) s251)) <|
   dSeq (dLook 0 [] (oLoad g251 s252)) <|
   dSeq (dLook 0 [] (oMv g000 s253)) <|
   dSeq (dLook 0 [] (oMv g015 s254)) <|
   dSeq (dLook 0 [] (oP (vIdx 1 g253 g254) s255)) <|
   dSeq (dLook 0 [] (oLoad g255 s256)) <|
   dSeq (dLook 0 [] (oP (vIdx 1 g243 g244) s257)) <|
   dSeq (dAct 0 [] (oStore g257 g252 noPut)) <|
   dSeq (dLook 0 [] (oP (vIdx 1 g245 g246) s260)) <|
   dSeq (dAct 0 [] (oStore g260 g256 noPut)) <|
   dNop)
   (ckNop) []) <|
  cSeq (cReg 3 (
   oSeq (oMv g015 s261) <|
   oSeq (oMv g261 s012) <|
   oMv (kc (.bool false)) s013)) <|
  cExit 0⟩
def afn50 : AFn := ⟨2, 14, [(4, none)],
  .seq (.region [
   ⟨(some 4), .mv (.c (.int .i64 0)), none⟩]) <|
  .seq (.region [
   ⟨(some 8), .mv (.t 0), none⟩,
   ⟨(some 9), .mv (.t 1), none⟩,
   ⟨(some 10), .call (.c (.fn (.func 51) [] [])) [(.t 8), (.t 9)], none⟩,
   ⟨(some 7), .mv (.t 10), none⟩,
   ⟨(some 11), .extract 0 (.t 7), none⟩,
   ⟨(some 12), .extract 1 (.t 7), none⟩,
   ⟨(some 5), .mv (.t 11), none⟩,
   ⟨(some 6), .mv (.t 12), none⟩]) <|
  .seq (.region [
   ⟨(some 13), .mv (.t 5), none⟩,
   ⟨(some 4), .mv (.t 13), none⟩]) <|
  .ret, none⟩
noncomputable def ffn50 : FFn := ⟨2, 14, [(4, none)],
  cSeq (cReg 1 (
   oMv (kc (.int .i64 0)) s004)) <|
  cSeq (cReg 8 (
   oSeq (oMv g000 s010) <|
   oSeq (oMv g001 s011) <|
   oSeq (oCallF 51 (fun T => [g010 T, g011 T]) s012) <|
   oSeq (oMv g012 s007) <|
   oSeq (oP (vExt 0 g007) s013) <|
   oSeq (oP (vExt 1 g007) s014) <|
   oSeq (oMv g013 s005) <|
   oMv g014 s006)) <|
  cSeq (cReg 2 (
   oSeq (oMv g005 s015) <|
   oMv g015 s004)) <|
  cExit 0⟩
def afn51 : AFn := ⟨2, 17, [(4, none), (5, none)],
  .seq (.region [
   ⟨(some 4), .mv (.c (.int .i64 0)), none⟩,
   ⟨(some 5), .mv (.c (.int .i64 0)), none⟩]) <|
  .seq (.seq (.region [
   ⟨(some 7), .mv (.t 0), none⟩,
   ⟨(some 8), .mv (.t 1), none⟩,
   ⟨(some 9), .buildSlice 27 1 [.nilSl, .nilSl] 2 [((0, 1), (.t 7)), ((1, 1), (.t 8))], none⟩,
   ⟨(some 10), .call (.c (.fn (.func 73) [] [])) [(.t 9)], none⟩,
   ⟨(some 6), .mv (.t 10), none⟩]) <|
  .seq (.region [
   ⟨(some 11), .mv (.t 6), none⟩,
   ⟨(some 12), .bin .neq .int (.t 11) (.c (.int .i64 0)), none⟩]) <|
  .cond (.t 12)
   (.seq (.region [
    ⟨(some 13), .mv (.t 6), none⟩,
    ⟨(some 4), .mv (.c (.int .i64 0)), none⟩,
    ⟨(some 5), .mv (.t 13), none⟩]) <|
   .ret)
   (.skip)) <|
  .seq (.region [
   ⟨(some 14), .mv (.t 0), none⟩,
   ⟨(some 15), .mv (.t 1), none⟩,
   ⟨(some 16), .call (.c (.fn (.func 74) [] [])) [(.t 14), (.t 15), (.c (.fn (.func 75) [] []))], none⟩,
   ⟨(some 4), .mv (.t 16), none⟩,
   ⟨(some 5), .mv (.c (.int .i64 0)), none⟩]) <|
  .ret, none⟩
noncomputable def ffn51 : FFn := ⟨2, 17, [(4, none), (5, none)],
  cSeq (cReg 2 (
   oSeq (oMv (kc (.int .i64 0)) s004) <|
   oMv (kc (.int .i64 0)) s005)) <|
  cSeq (cSeq (cReg 5 (
   oSeq (oMv g000 s007) <|
   oSeq (oMv g001 s010) <|
   oSeq (oBuildSlice 27 1 [.nilSl, .nilSl] 2 [((0, 1), g007), ((1, 1), g010)] 2 s011) <|
   oSeq (oCallF 73 (fun T => [g011 T]) s012) <|
   oMv g012 s006)) <|
  cSeq (cReg 2 (
   oSeq (oMv g006 s013) <|
   oP (vNeq g013 (kc (.int .i64 0))) s014)) <|
  cCond g014
   (cSeq (cReg 3 (
    oSeq (oMv g006 s015) <|
    oSeq (oMv (kc (.int .i64 0)) s004) <|
    oMv g015 s005)) <|
   cExit 0)
   (cSkip)) <|
  cSeq (cReg 5 (
   oSeq (oMv g000 s016) <|
   oSeq (oMv g001 s017) <|
   oSeq (oCallF 74 (fun T => [g016 T, g017 T, (.fn (.func 75) [] [])]) s020) <|
   oSeq (oMv g020 s004) <|
   oMv (kc (.int .i64 0)) s005)) <|
  cExit 0⟩
def afn74 : AFn := ⟨3, 39, [(6, none)],
  .seq (.region [
   ⟨(some 6), .mv (.c (.int .i64 0)), none⟩]) <|
  .seq (.seq (.region [
   ⟨(some 11), .mv (.t 0), none⟩,
   ⟨(some 12), .len (.t 11), none⟩,
   ⟨(some 13), .mv (.c (.int .i64 0)), none⟩]) <|
  .block 0 (.loop (.seq (.region [
     ⟨(some 14), .bin .lss .int (.t 13) (.t 12), none⟩]) <|
    .seq (.cond (.t 14)
     (.skip)
     (.exit 0)) <|
    .seq (.block 1 (.seq (.region [
      ⟨(some 15), .mv (.t 13), none⟩,
      ⟨(some 16), .indexAddr 2 (.t 11) (.t 13), none⟩,
      ⟨(some 17), .load (some 2) (.t 16), none⟩,
      ⟨(some 8), .alloc 62 [(.bool false), .nilSl], none⟩,
      ⟨(some 7), .mv (.t 15), none⟩,
      ⟨none, .store 2 (.t 8) (.t 17), none⟩]) <|
     .seq (.seq (.region [
      ⟨(some 18), .mv (.t 7), none⟩,
      ⟨(some 19), .mv (.t 1), none⟩,
      ⟨(some 20), .len (.t 19), none⟩,
      ⟨(some 21), .bin .geq .int (.t 18) (.t 20), none⟩]) <|
     .cond (.t 21)
      (.seq (.region [
       ⟨(some 6), .mv (.c (.int .i64 1)), none⟩]) <|
      .ret)
      (.skip)) <|
     .seq (.region [
      ⟨(some 22), .mv (.t 1), none⟩,
      ⟨(some 23), .mv (.t 7), none⟩,
      ⟨(some 24), .indexAddr 2 (.t 22) (.t 23), none⟩,
      ⟨(some 25), .load (some 2) (.t 24), none⟩,
      ⟨(some 9), .alloc 62 [(.bool false), .nilSl], none⟩,
      ⟨none, .store 2 (.t 9) (.t 25), none⟩]) <|
     .seq (.region [
      ⟨(some 26), .mv (.t 2), none⟩,
      ⟨(some 27), .load (some 2) (.t 8), none⟩,
      ⟨(some 28), .load (some 2) (.t 9), none⟩,
      ⟨(some 29), .call (.t 26) [(.t 27), (.t 28)], none⟩,
      ⟨(some 10), .mv (.t 29), none⟩]) <|
     .seq (.region [
      ⟨(some 30), .mv (.t 10), none⟩,
      ⟨(some 31), .bin .neq .int (.t 30) (.c (.int .i64 0)), none⟩]) <|
     .cond (.t 31)
      (.seq (.region [
       ⟨(some 32), .mv (.t 10), none⟩,
       ⟨(some 6), .mv (.t 32), none⟩]) <|
      .ret)
      (.skip))) <|
    .region [
     ⟨(some 33), .bin .add .int (.t 13) (.c (.int .i64 1)), none⟩,
     ⟨(some 13), .mv (.t 33), none⟩]))) <|
  .seq (.seq (.region [
   ⟨(some 34), .mv (.t 0), none⟩,
   ⟨(some 35), .len (.t 34), none⟩,
   ⟨(some 36), .mv (.t 1), none⟩,
   ⟨(some 37), .len (.t 36), none⟩,
   ⟨(some 38), .bin .lss .int (.t 35) (.t 37), none⟩]) <|
  .cond (.t 38)
   (.seq (.region [
    ⟨(some 6), .mv (.c (.int .i64 (-1))), none⟩]) <|
   .ret)
   (.skip)) <|
  .seq (.region [
   ⟨(some 6), .mv (.c (.int .i64 0)), none⟩]) <|
  .ret, none⟩
noncomputable def ffn74 : FFn := ⟨3, 39, [(6, none)],
  cSeq (cReg 1 (
   oMv (kc (.int .i64 0)) s006)) <|
  cSeq (cSeq (cReg 3 (
   oSeq (oMv g000 s013) <|
   oSeq (oP (vLen g013) s014) <|
   oMv (kc (.int .i64 0)) s015)) <|
  cBlock 1 (cLoop 1000000 (cSeq (cReg 1 (
     oP (vLss g015 g014) s016)) <|
    cSeq (cCond g016
     (cSkip)
     (cExit 1)) <|
    cSeq (cBlock 3 (cSeq (cReg 6 (
      oSeq (oMv g015 s017) <|
      oSeq (oP (vIdx 2 g013 g015) s020) <|
      oSeq (oLoadN 2 g020 s021) <|
      oSeq (oAlloc 62 [(.bool false), .nilSl] 3 s010) <|
      oSeq (oMv g017 s007) <|
      oStoreN 2 g010 g021 noPut)) <|
     cSeq (cSeq (cReg 4 (
      oSeq (oMv g007 s022) <|
      oSeq (oMv g001 s023) <|
      oSeq (oP (vLen g023) s024) <|
      oP (vGeq g022 g024) s025)) <|
     cCond g025
      (cSeq (cReg 1 (
       oMv (kc (.int .i64 1)) s006)) <|
      cExit 0)
      (cSkip)) <|
     cSeq (cReg 6 (
      oSeq (oMv g001 s026) <|
      oSeq (oMv g007 s027) <|
      oSeq (oP (vIdx 2 g026 g027) s030) <|
      oSeq (oLoadN 2 g030 s031) <|
      oSeq (oAlloc 62 [(.bool false), .nilSl] 4 s011) <|
      oStoreN 2 g011 g031 noPut)) <|
     cSeq (cReg 5 (
      oSeq (oMv g002 s032) <|
      oSeq (oLoadN 2 g010 s033) <|
      oSeq (oLoadN 2 g011 s034) <|
      oSeq (oCall g032 (fun T => [g033 T, g034 T]) s035) <|
      oMv g035 s012)) <|
     cSeq (cReg 2 (
      oSeq (oMv g012 s036) <|
      oP (vNeq g036 (kc (.int .i64 0))) s037)) <|
     cCond g037
      (cSeq (cReg 2 (
       oSeq (oMv g012 s040) <|
       oMv g040 s006)) <|
      cExit 0)
      (cSkip))) <|
    cReg 2 (
     oSeq (oP (vAdd g015 (kc (.int .i64 1))) s041) <|
     oMv g041 s015)))) <|
  cSeq (cSeq (cReg 5 (
   oSeq (oMv g000 s042) <|
   oSeq (oP (vLen g042) s043) <|
   oSeq (oMv g001 s044) <|
   oSeq (oP (vLen g044) s045) <|
   oP (vLss g043 g045) s046)) <|
  cCond g046
   (cSeq (cReg 1 (
    oMv (kc (.int .i64 (-1))) s006)) <|
   cExit 0)
   (cSkip)) <|
  cSeq (cReg 1 (
   oMv (kc (.int .i64 0)) s006)) <|
  cExit 0⟩
def afn75 : AFn := ⟨2, 14, [(4, none)],
  .seq (.region [
   ⟨(some 2), .box 62 (.t 0), none⟩,
   ⟨(some 3), .box 62 (.t 1), none⟩,
   ⟨(some 4), .mv (.c (.int .i64 0)), none⟩]) <|
  .seq (.region [
   ⟨(some 8), .load (some 2) (.t 2), none⟩,
   ⟨(some 9), .load (some 2) (.t 3), none⟩,
   ⟨(some 10), .call (.c (.fn (.func 76) [] [])) [(.t 8), (.t 9)], none⟩,
   ⟨(some 7), .mv (.t 10), none⟩,
   ⟨(some 11), .extract 0 (.t 7), none⟩,
   ⟨(some 12), .extract 1 (.t 7), none⟩,
   ⟨(some 5), .mv (.t 11), none⟩,
   ⟨(some 6), .mv (.t 12), none⟩]) <|
  .seq (.region [
   ⟨(some 13), .mv (.t 5), none⟩,
   ⟨(some 4), .mv (.t 13), none⟩]) <|
  .ret, none⟩
noncomputable def ffn75 : FFn := ⟨2, 14, [(4, none)],
  cSeq (cReg 3 (
   oSeq (oBox 62 g000 0 s002) <|
   oSeq (oBox 62 g001 1 s003) <|
   oMv (kc (.int .i64 0)) s004)) <|
  cSeq (cReg 8 (
   oSeq (oLoadN 2 g002 s010) <|
   oSeq (oLoadN 2 g003 s011) <|
   oSeq (oCallF 76 (fun T => [g010 T, g011 T]) s012) <|
   oSeq (oMv g012 s007) <|
   oSeq (oP (vExt 0 g007) s013) <|
   oSeq (oP (vExt 1 g007) s014) <|
   oSeq (oMv g013 s005) <|
   oMv g014 s006)) <|
  cSeq (cReg 2 (
   oSeq (oMv g005 s015) <|
   oMv g015 s004)) <|
  cExit 0⟩
def afn76 : AFn := ⟨2, 19, [(4, none), (5, none)],
  .seq (.region [
   ⟨(some 2), .box 62 (.t 0), none⟩,
   ⟨(some 3), .box 62 (.t 1), none⟩,
   ⟨(some 4), .mv (.c (.int .i64 0)), none⟩,
   ⟨(some 5), .mv (.c (.int .i64 0)), none⟩]) <|
  .seq (.region [
   ⟨(some 9), .load (some 2) (.t 2), none⟩,
   ⟨(some 10), .load (some 2) (.t 3), none⟩,
   ⟨(some 11), .call (.c (.fn (.func 104) [] [])) [(.t 9), (.t 10)], none⟩,
   ⟨(some 8), .mv (.t 11), none⟩,
   ⟨(some 12), .extract 0 (.t 8), none⟩,
   ⟨(some 13), .extract 1 (.t 8), none⟩,
   ⟨(some 6), .alloc 62 [(.bool false), .nilSl], none⟩,
   ⟨none, .store 2 (.t 6) (.t 12), none⟩,
   ⟨(some 7), .mv (.t 13), none⟩]) <|
  .seq (.seq (.region [
   ⟨(some 14), .mv (.t 7), none⟩,
   ⟨(some 15), .bin .neq .int (.t 14) (.c (.int .i64 0)), none⟩]) <|
  .cond (.t 15)
   (.seq (.region [
    ⟨(some 16), .mv (.t 7), none⟩,
    ⟨(some 4), .mv (.c (.int .i64 0)), none⟩,
    ⟨(some 5), .mv (.t 16), none⟩]) <|
   .ret)
   (.skip)) <|
  .seq (.region [
   ⟨(some 17), .load (some 2) (.t 6), none⟩,
   ⟨(some 18), .call (.c (.fn (.func 61) [] [])) [(.t 17)], none⟩,
   ⟨(some 4), .mv (.t 18), none⟩,
   ⟨(some 5), .mv (.c (.int .i64 0)), none⟩]) <|
  .ret, none⟩
noncomputable def ffn76 : FFn := ⟨2, 19, [(4, none), (5, none)],
  cSeq (cReg 4 (
   oSeq (oBox 62 g000 0 s002) <|
   oSeq (oBox 62 g001 1 s003) <|
   oSeq (oMv (kc (.int .i64 0)) s004) <|
   oMv (kc (.int .i64 0)) s005)) <|
  cSeq (cReg 9 (
   oSeq (oLoadN 2 g002 s011) <|
   oSeq (oLoadN 2 g003 s012) <|
   oSeq (oCallF 104 (fun T => [g011 T, g012 T]) s013) <|
   oSeq (oMv g013 s010) <|
   oSeq (oP (vExt 0 g010) s014) <|
   oSeq (oP (vExt 1 g010) s015) <|
   oSeq (oAlloc 62 [(.bool false), .nilSl] 6 s006) <|
   oSeq (oStoreN 2 g006 g014 noPut) <|
   oMv g015 s007)) <|
  cSeq (cSeq (cReg 2 (
   oSeq (oMv g007 s016) <|
   oP (vNeq g016 (kc (.int .i64 0))) s017)) <|
  cCond g017
   (cSeq (cReg 3 (
    oSeq (oMv g007 s020) <|
    oSeq (oMv (kc (.int .i64 0)) s004) <|
    oMv g020 s005)) <|
   cExit 0)
   (cSkip)) <|
  cSeq (cReg 4 (
   oSeq (oLoadN 2 g006 s021) <|
   oSeq (oCallF 61 (fun T => [g021 T]) s022) <|
   oSeq (oMv g022 s004) <|
   oMv (kc (.int .i64 0)) s005)) <|
  cExit 0⟩
def afn104 : AFn := ⟨2, 23, [(4, (some (some 2))), (5, none)],
  .seq (.region [
   ⟨(some 2), .box 62 (.t 0), none⟩,
   ⟨(some 3), .box 62 (.t 1), none⟩,
   ⟨(some 4), .alloc 62 [(.bool false), .nilSl], none⟩,
   ⟨(some 5), .mv (.c (.int .i64 0)), none⟩]) <|
  .seq (.seq (.region [
   ⟨(some 7), .load (some 2) (.t 2), none⟩,
   ⟨(some 8), .load (some 2) (.t 3), none⟩,
   ⟨(some 9), .buildSlice 62 2 [(.bool false), .nilSl, (.bool false), .nilSl] 2 [((0, 2), (.t 7)), ((2, 2), (.t 8))], none⟩,
   ⟨(some 10), .call (.c (.fn (.func 124) [] [])) [(.t 9)], none⟩,
   ⟨(some 6), .mv (.t 10), none⟩]) <|
  .seq (.region [
   ⟨(some 11), .mv (.t 6), none⟩,
   ⟨(some 12), .bin .neq .int (.t 11) (.c (.int .i64 0)), none⟩]) <|
  .cond (.t 12)
   (.seq (.region [
    ⟨(some 13), .build [(.bool false), .nilSl] [], none⟩,
    ⟨(some 14), .mv (.t 6), none⟩,
    ⟨none, .store 2 (.t 4) (.t 13), none⟩,
    ⟨(some 5), .mv (.t 14), none⟩]) <|
   .ret)
   (.skip)) <|
  .seq (.draw [
   ⟨(some 15), .load (some 2) (.t 2), none, [(2, none)], 0, [(0, []), (1, [])]⟩,
   ⟨(some 16), .fieldAddr 0 (.t 3), none, [(3, none)], 0, [(0, [])]⟩,
   ⟨(some 17), .load none (.t 16), none, [(16, (some 1))], 0, [(0, [])]⟩,
   ⟨(some 18), .un .not (.t 17), none, [(17, (some 2))], 0, [(0, [])]⟩,
   ⟨(some 19), .fieldAddr 1 (.t 3), none, [(3, none)], 0, [(0, [])]⟩,
   ⟨(some 20), .load none (.t 19), none, [(19, (some 4))], 0, [(0, [])]⟩,
   ⟨(some 21), .call (.c (.fn (.func 54) [] [])) [(.t 18), (.t 20)], none, [(18, (some 3)), (20, (some 5))], 2, [(0, [])]⟩,
   ⟨(some 22), .call (.c (.fn (.func 125) [] [])) [(.t 15), (.t 21)], none, [(15, (some 0)), (21, (some 6))], 2, [(1, [])]⟩,
   ⟨none, .store 2 (.t 4) (.t 22), none, [(4, none), (22, (some 7))], 2, [(2, [])]⟩,
   ⟨(some 5), .mv (.c (.int .i64 0)), none, [], 0, [(3, [])]⟩] []) <|
  .ret, none⟩
noncomputable def ffn104 : FFn := ⟨2, 23, [(4, (some (some 2))), (5, none)],
  cSeq (cReg 4 (
   oSeq (oBox 62 g000 0 s002) <|
   oSeq (oBox 62 g001 1 s003) <|
   oSeq (oAlloc 62 [(.bool false), .nilSl] 2 s004) <|
   oMv (kc (.int .i64 0)) s005)) <|
  cSeq (cSeq (cReg 5 (
   oSeq (oLoadN 2 g002 s007) <|
   oSeq (oLoadN 2 g003 s010) <|
   oSeq (oBuildSlice 62 2 [(.bool false), .nilSl, (.bool false), .nilSl] 2 [((0, 2), g007), ((2, 2), g010)] 2 s011) <|
   oSeq (oCallF 124 (fun T => [g011 T]) s012) <|
   oMv g012 s006)) <|
  cSeq (cReg 2 (
   oSeq (oMv g006 s013) <|
   oP (vNeq g013 (kc (.int .i64 0))) s014)) <|
  cCond g014
   (cSeq (cReg 4 (
    oSeq (oP (vBuild [(.bool false), .nilSl] []) s015) <|
    oSeq (oMv g006 s016) <|
    oSeq (oStoreN 2 g004 g015 noPut) <|
    oMv g016 s005)) <|
   cExit 0)
   (cSkip)) <|
  cSeq (cDrw 10 (
   dSeq (dLook 0 [] (oLoadN 2 g002 s017)) <|
   dSeq (dLook 0 [] (oP (vFA 0 g003) s020)) <|
   dSeq (dLook 0 [] (oLoad g020 s021)) <|
   dSeq (dLook 0 [] (oGen (.un .not (.t 17)) 3 s022)) <|
   dSeq (dLook 0 [] (oP (vFA 1 g003) s023)) <|
   dSeq (dLook 0 [] (oLoad g023 s024)) <|
   dSeq (dAct 0 [] (oCallF 54 (fun T => [g022 T, g024 T]) s025)) <|
   dSeq (dAct 0 [] (oCallF 125 (fun T => [g017 T, g025 T]) s026)) <|
   dSeq (dAct 0 [] (oStoreN 2 g004 g026 noPut)) <|
   dSeq (dLook 0 [] (oMv (kc (.int .i64 0)) s005)) <|
   dNop)
   (ckSeq (ckOne g017 2 [] (oLoadN 2 g002 s017)) <|
  ckNop) []) <|
  cExit 0⟩
def afn30 : AFn := ⟨2, 8, [(4, none)],
  .seq (.region [
   ⟨(some 4), .mv (.c (.bool false)), none⟩]) <|
  .seq (.region [
   ⟨(some 5), .mv (.t 0), none⟩,
   ⟨(some 6), .mv (.t 1), none⟩,
   ⟨(some 7), .call (.c (.fn (.func 52) [] [])) [(.t 5), (.t 6), (.c (.fn (.func 53) [] []))], none⟩,
   ⟨(some 4), .mv (.t 7), none⟩]) <|
  .ret, none⟩
noncomputable def ffn30 : FFn := ⟨2, 8, [(4, none)],
  cSeq (cReg 1 (
   oMv (kc (.bool false)) s004)) <|
  cSeq (cReg 4 (
   oSeq (oMv g000 s005) <|
   oSeq (oMv g001 s006) <|
   oSeq (oCallF 52 (fun T => [g005 T, g006 T, (.fn (.func 53) [] [])]) s007) <|
   oMv g007 s004)) <|
  cExit 0⟩
def afn52 : AFn := ⟨3, 32, [(6, none)],
  .seq (.region [
   ⟨(some 6), .mv (.c (.bool false)), none⟩]) <|
  .seq (.seq (.region [
   ⟨(some 10), .mv (.t 0), none⟩,
   ⟨(some 11), .len (.t 10), none⟩,
   ⟨(some 12), .mv (.t 1), none⟩,
   ⟨(some 13), .len (.t 12), none⟩,
   ⟨(some 14), .bin .neq .int (.t 11) (.t 13), none⟩]) <|
  .cond (.t 14)
   (.seq (.region [
    ⟨(some 6), .mv (.c (.bool false)), none⟩]) <|
   .ret)
   (.skip)) <|
  .seq (.seq (.region [
   ⟨(some 15), .mv (.t 0), none⟩,
   ⟨(some 16), .len (.t 15), none⟩,
   ⟨(some 17), .mv (.c (.int .i64 0)), none⟩]) <|
  .block 0 (.loop (.seq (.region [
     ⟨(some 18), .bin .lss .int (.t 17) (.t 16), none⟩]) <|
    .seq (.cond (.t 18)
     (.skip)
     (.exit 0)) <|
    .seq (.block 1 (.seq (.region [
      ⟨(some 19), .mv (.t 17), none⟩,
      ⟨(some 20), .indexAddr 2 (.t 15) (.t 17), none⟩,
      ⟨(some 21), .load (some 2) (.t 20), none⟩,
      ⟨(some 8), .alloc 62 [(.bool false), .nilSl], none⟩,
      ⟨(some 7), .mv (.t 19), none⟩,
      ⟨none, .store 2 (.t 8) (.t 21), none⟩]) <|
     .seq (.region [
      ⟨(some 22), .mv (.t 1), none⟩,
      ⟨(some 23), .mv (.t 7), none⟩,
      ⟨(some 24), .indexAddr 2 (.t 22) (.t 23), none⟩,
      ⟨(some 25), .load (some 2) (.t 24), none⟩,
      ⟨(some 9), .alloc 62 [(.bool false), .nilSl], none⟩,
      ⟨none, .store 2 (.t 9) (.t 25), none⟩]) <|
     .seq (.region [
      ⟨(some 26), .mv (.t 2), none⟩,
      ⟨(some 27), .load (some 2) (.t 8), none⟩,
      ⟨(some 28), .load (some 2) (.t 9), none⟩,
      ⟨(some 29), .call (.t 26) [(.t 27), (.t 28)], none⟩,
      ⟨(some 30), .un .not (.t 29), none⟩]) <|
     .cond (.t 30)
      (.seq (.region [
       ⟨(some 6), .mv (.c (.bool false)), none⟩]) <|
      .ret)
      (.skip))) <|
    .region [
     ⟨(some 31), .bin .add .int (.t 17) (.c (.int .i64 1)), none⟩,
     ⟨(some 17), .mv (.t 31), none⟩]))) <|
  .seq (.region [
   ⟨(some 6), .mv (.c (.bool true)), none⟩]) <|
  .ret, none⟩
noncomputable def ffn52 : FFn := ⟨3, 32, [(6, none)],
  cSeq (cReg 1 (
   oMv (kc (.bool false)) s006)) <|
  cSeq (cSeq (cReg 5 (
   oSeq (oMv g000 s012) <|
   oSeq (oP (vLen g012) s013) <|
   oSeq (oMv g001 s014) <|
   oSeq (oP (vLen g014) s015) <|
   oP (vNeq g013 g015) s016)) <|
  cCond g016
   (cSeq (cReg 1 (
    oMv (kc (.bool false)) s006)) <|
   cExit 0)
   (cSkip)) <|
  cSeq (cSeq (cReg 3 (
   oSeq (oMv g000 s017) <|
   oSeq (oP (vLen g017) s020) <|
   oMv (kc (.int .i64 0)) s021)) <|
  cBlock 1 (cLoop 1000000 (cSeq (cReg 1 (
     oP (vLss g021 g020) s022)) <|
    cSeq (cCond g022
     (cSkip)
     (cExit 1)) <|
    cSeq (cBlock 3 (cSeq (cReg 6 (
      oSeq (oMv g021 s023) <|
      oSeq (oP (vIdx 2 g017 g021) s024) <|
      oSeq (oLoadN 2 g024 s025) <|
      oSeq (oAlloc 62 [(.bool false), .nilSl] 3 s010) <|
      oSeq (oMv g023 s007) <|
      oStoreN 2 g010 g025 noPut)) <|
     cSeq (cReg 6 (
      oSeq (oMv g001 s026) <|
      oSeq (oMv g007 s027) <|
      oSeq (oP (vIdx 2 g026 g027) s030) <|
      oSeq (oLoadN 2 g030 s031) <|
      oSeq (oAlloc 62 [(.bool false), .nilSl] 4 s011) <|
      oStoreN 2 g011 g031 noPut)) <|
     cSeq (cReg 5 (
      oSeq (oMv g002 s032) <|
      oSeq (oLoadN 2 g010 s033) <|
      oSeq (oLoadN 2 g011 s034) <|
      oSeq (oCall g032 (fun T => [g033 T, g034 T]) s035) <|
      oGen (.un .not (.t 29)) 4 s036)) <|
     cCond g036
      (cSeq (cReg 1 (
       oMv (kc (.bool false)) s006)) <|
      cExit 0)
      (cSkip))) <|
    cReg 2 (
     oSeq (oP (vAdd g021 (kc (.int .i64 1))) s037) <|
     oMv g037 s021)))) <|
  cSeq (cReg 1 (
   oMv (kc (.bool true)) s006)) <|
  cExit 0⟩
def afn53 : AFn := ⟨2, 17, [(4, none)],
  .seq (.region [
   ⟨(some 2), .box 62 (.t 0), none⟩,
   ⟨(some 3), .box 62 (.t 1), none⟩,
   ⟨(some 4), .mv (.c (.bool false)), none⟩]) <|
  .seq (.region [
   ⟨(some 5), .fieldAddr 0 (.t 2), none⟩,
   ⟨(some 6), .load none (.t 5), none⟩,
   ⟨(some 7), .fieldAddr 0 (.t 3), none⟩,
   ⟨(some 8), .load none (.t 7), none⟩,
   ⟨(some 9), .bin .eql .bool (.t 6) (.t 8), none⟩,
   ⟨(some 10), .mv (.t 9), none⟩,
   ⟨(some 11), .fieldAddr 1 (.t 2), (some (10, true))⟩,
   ⟨(some 12), .load none (.t 11), (some (10, true))⟩,
   ⟨(some 13), .fieldAddr 1 (.t 3), (some (10, true))⟩,
   ⟨(some 14), .load none (.t 13), (some (10, true))⟩,
   ⟨(some 15), .call (.c (.fn (.func 77) [] [])) [(.t 12), (.t 14)], (some (10, true))⟩,
   ⟨(some 16), .pick (.t 10) (.t 15) (.c (.bool false)), none⟩,
   ⟨(some 4), .mv (.t 16), none⟩]) <|
  .ret, none⟩
noncomputable def ffn53 : FFn := ⟨2, 17, [(4, none)],
  cSeq (cReg 3 (
   oSeq (oBox 62 g000 0 s002) <|
   oSeq (oBox 62 g001 1 s003) <|
   oMv (kc (.bool false)) s004)) <|
  cSeq (cReg 13 (
   oSeq (oP (vFA 0 g002) s005) <|
   oSeq (oLoad g005 s006) <|
   oSeq (oP (vFA 0 g003) s007) <|
   oSeq (oLoad g007 s010) <|
   oSeq (oGen (.bin .eql .bool (.t 6) (.t 8)) 4 s011) <|
   oSeq (oMv g011 s012) <|
   oSeq (oGuard g012 true s013 (oP (vFA 1 g002) s013)) <|
   oSeq (oGuard g012 true s014 (oLoad g013 s014)) <|
   oSeq (oGuard g012 true s015 (oP (vFA 1 g003) s015)) <|
   oSeq (oGuard g012 true s016 (oLoad g015 s016)) <|
   oSeq (oGuard g012 true s017 (oCallF 77 (fun T => [g014 T, g016 T]) s017)) <|
   oSeq (oP (vPick g012 g017 (kc (.bool false))) s020) <|
   oMv g020 s004)) <|
  cExit 0⟩
def afn77 : AFn := ⟨2, 26, [(4, none)],
  .seq (.region [
   ⟨(some 4), .mv (.c (.bool false)), none⟩]) <|
  .seq (.seq (.region [
   ⟨(some 6), .mv (.t 0), none⟩,
   ⟨(some 7), .len (.t 6), none⟩,
   ⟨(some 8), .mv (.t 1), none⟩,
   ⟨(some 9), .len (.t 8), none⟩,
   ⟨(some 10), .bin .neq .int (.t 7) (.t 9), none⟩]) <|
  .cond (.t 10)
   (.seq (.region [
    ⟨(some 4), .mv (.c (.bool false)), none⟩]) <|
   .ret)
   (.skip)) <|
  .seq (.seq (.region [
   ⟨(some 11), .mv (.t 0), none⟩,
   ⟨(some 12), .len (.t 11), none⟩,
   ⟨(some 13), .mv (.c (.int .i64 0)), none⟩]) <|
  .block 0 (.loop (.seq (.region [
     ⟨(some 14), .bin .lss .int (.t 13) (.t 12), none⟩]) <|
    .seq (.cond (.t 14)
     (.skip)
     (.exit 0)) <|
    .seq (.block 1 (.seq (.region [
      ⟨(some 15), .mv (.t 13), none⟩,
      ⟨(some 5), .mv (.t 15), none⟩]) <|
     .seq (.draw [
      ⟨(some 16), .mv (.t 0), none, [(0, none)], 0, [(0, [])]⟩,
      ⟨(some 17), .mv (.t 5), none, [(5, none)], 0, [(0, [])]⟩,
      ⟨(some 18), .indexAddr 1 (.t 16) (.t 17), none, [(16, (some 0)), (17, (some 1))], 0, [(0, [])]⟩,
      ⟨(some 19), .load none (.t 18), none, [(18, (some 2))], 0, [(0, [])]⟩,
      ⟨(some 20), .mv (.t 1), none, [(1, none)], 0, [(0, [])]⟩,
      ⟨(some 21), .mv (.t 5), none, [(5, none)], 0, [(0, [])]⟩,
      ⟨(some 22), .indexAddr 1 (.t 20) (.t 21), none, [(20, (some 4)), (21, (some 5))], 0, [(0, [])]⟩,
      ⟨(some 23), .load none (.t 22), none, [(22, (some 6))], 0, [(0, [])]⟩,
      ⟨(some 24), .bin .neq .int (.t 19) (.t 23), none, [(19, (some 3)), (23, (some 7))], 0, [(0, [])]⟩] []) <|
     .cond (.t 24)
      (.seq (.region [
       ⟨(some 4), .mv (.c (.bool false)), none⟩]) <|
      .ret)
      (.skip))) <|
    .region [
     ⟨(some 25), .bin .add .int (.t 13) (.c (.int .i64 1)), none⟩,
     ⟨(some 13), .mv (.t 25), none⟩]))) <|
  .seq (.region [
   ⟨(some 4), .mv (.c (.bool true)), none⟩]) <|
  .ret, none⟩
noncomputable def ffn77 : FFn := ⟨2, 26, [(4, none)],
  cSeq (cReg 1 (
   oMv (kc (.bool false)) s004)) <|
  cSeq (cSeq (cReg 5 (
   oSeq (oMv g000 s006) <|
   oSeq (oP (vLen g006) s007) <|
   oSeq (oMv g001 s010) <|
   oSeq (oP (vLen g010) s011) <|
   oP (vNeq g007 g011) s012)) <|
  cCond g012
   (cSeq (cReg 1 (
    oMv (kc (.bool false)) s004)) <|
   cExit 0)
   (cSkip)) <|
  cSeq (cSeq (cReg 3 (
   oSeq (oMv g000 s013) <|
   oSeq (oP (vLen g013) s014) <|
   oMv (kc (.int .i64 0)) s015)) <|
  cBlock 1 (cLoop 1000000 (cSeq (cReg 1 (
     oP (vLss g015 g014) s016)) <|
    cSeq (cCond g016
     (cSkip)
     (cExit 1)) <|
    cSeq (cBlock 3 (cSeq (cReg 2 (
      oSeq (oMv g015 s017) <|
      oMv g017 s005)) <|
     cSeq (cDrw 9 (
      dSeq (dLook 0 [] (oMv g000 s020)) <|
      dSeq (dLook 0 [] (oMv g005 s021)) <|
      dSeq (dLook 0 [] (oP (vIdx 1 g020 g021) s022)) <|
      dSeq (dLook 0 [] (oLoad g022 s023)) <|
      dSeq (dLook 0 [] (oMv g001 s024)) <|
      dSeq (dLook 0 [] (oMv g005 s025)) <|
      dSeq (dLook 0 [] (oP (vIdx 1 g024 g025) s026)) <|
      dSeq (dLook 0 [] (oLoad g026 s027)) <|
      dSeq (dLook 0 [] (oP (vNeq g023 g027) s030)) <|
      dNop)
      (ckNop) []) <|
     cCond g030
      (cSeq (cReg 1 (
       oMv (kc (.bool false)) s004)) <|
      cExit 0)
      (cSkip))) <|
    cReg 2 (
     oSeq (oP (vAdd g015 (kc (.int .i64 1))) s031) <|
     oMv g031 s015)))) <|
  cSeq (cReg 1 (
   oMv (kc (.bool true)) s004)) <|
  cExit 0⟩
def afn5 : AFn := ⟨2, 9, [(4, (some (some 2)))],
  .seq (.region [
   ⟨(some 4), .alloc 29 [(.int .u8 0), .nilSl], none⟩]) <|
  .seq (.region [
   ⟨(some 5), .mv (.t 0), none⟩,
   ⟨(some 6), .mv (.t 1), none⟩,
   ⟨(some 7), .call (.c (.fn (.func 15) [] [])) [(.t 6)], none⟩,
   ⟨(some 8), .build [(.int .u8 0), .nilSl] [((0, 1), (.t 5)), ((1, 1), (.t 7))], none⟩,
   ⟨none, .store 2 (.t 4) (.t 8), none⟩]) <|
  .ret, none⟩
noncomputable def ffn5 : FFn := ⟨2, 9, [(4, (some (some 2)))],
  cSeq (cReg 1 (
   oAlloc 29 [(.int .u8 0), .nilSl] 0 s004)) <|
  cSeq (cReg 5 (
   oSeq (oMv g000 s005) <|
   oSeq (oMv g001 s006) <|
   oSeq (oCallF 15 (fun T => [g006 T]) s007) <|
   oSeq (oP (vBuild [(.int .u8 0), .nilSl] [((0, 1), g005), ((1, 1), g007)]) s010) <|
   oStoreN 2 g004 g010 noPut)) <|
  cExit 0⟩
def afn15 : AFn := ⟨1, 23, [(2, none)],
  .seq (.region [
   ⟨(some 2), .mv (.c .nilSl), none⟩]) <|
  .seq (.region [
   ⟨(some 6), .mv (.t 0), none⟩,
   ⟨(some 7), .len (.t 6), none⟩,
   ⟨(some 8), .mksl 62 2 32 [(.bool false), .nilSl] (.t 7) (.t 7), none⟩,
   ⟨(some 3), .mv (.t 8), none⟩]) <|
  .seq (.seq (.region [
   ⟨(some 9), .mv (.t 0), none⟩,
   ⟨(some 10), .len (.t 9), none⟩,
   ⟨(some 11), .mv (.c (.int .i64 0)), none⟩]) <|
  .block 0 (.loop (.seq (.region [
     ⟨(some 12), .bin .lss .int (.t 11) (.t 10), none⟩]) <|
    .seq (.cond (.t 12)
     (.skip)
     (.exit 0)) <|
    .seq (.block 1 (.seq (.region [
      ⟨(some 13), .mv (.t 11), none⟩,
      ⟨(some 14), .indexAddr 1 (.t 9) (.t 11), none⟩,
      ⟨(some 15), .load none (.t 14), none⟩,
      ⟨(some 4), .mv (.t 13), none⟩,
      ⟨(some 5), .mv (.t 15), none⟩]) <|
     .region [
      ⟨(some 16), .mv (.t 3), none⟩,
      ⟨(some 17), .mv (.t 4), none⟩,
      ⟨(some 18), .mv (.t 5), none⟩,
      ⟨(some 19), .call (.c (.fn (.func 31) [] [])) [(.t 18)], none⟩,
      ⟨(some 20), .indexAddr 2 (.t 16) (.t 17), none⟩,
      ⟨none, .store 2 (.t 20) (.t 19), none⟩])) <|
    .region [
     ⟨(some 21), .bin .add .int (.t 11) (.c (.int .i64 1)), none⟩,
     ⟨(some 11), .mv (.t 21), none⟩]))) <|
  .seq (.region [
   ⟨(some 22), .mv (.t 3), none⟩,
   ⟨(some 2), .mv (.t 22), none⟩]) <|
  .ret, none⟩
noncomputable def ffn15 : FFn := ⟨1, 23, [(2, none)],
  cSeq (cReg 1 (
   oMv (kc .nilSl) s002)) <|
  cSeq (cReg 4 (
   oSeq (oMv g000 s006) <|
   oSeq (oP (vLen g006) s007) <|
   oSeq (oGen (.mksl 62 2 32 [(.bool false), .nilSl] (.t 7) (.t 7)) 2 s010) <|
   oMv g010 s003)) <|
  cSeq (cSeq (cReg 3 (
   oSeq (oMv g000 s011) <|
   oSeq (oP (vLen g011) s012) <|
   oMv (kc (.int .i64 0)) s013)) <|
  cBlock 1 (cLoop 1000000 (cSeq (cReg 1 (
     oP (vLss g013 g012) s014)) <|
    cSeq (cCond g014
     (cSkip)
     (cExit 1)) <|
    cSeq (cBlock 3 (cSeq (cReg 5 (
      oSeq (oMv g013 s015) <|
      oSeq (oP (vIdx 1 g011 g013) s016) <|
      oSeq (oLoad g016 s017) <|
      oSeq (oMv g015 s004) <|
      oMv g017 s005)) <|
     cReg 6 (
      oSeq (oMv g003 s020) <|
      oSeq (oMv g004 s021) <|
      oSeq (oMv g005 s022) <|
      oSeq (oCallF 31 (fun T => [g022 T]) s023) <|
      oSeq (oP (vIdx 2 g020 g021) s024) <|
      oStoreN 2 g024 g023 noPut))) <|
    cReg 2 (
     oSeq (oP (vAdd g013 (kc (.int .i64 1))) s025) <|
     oMv g025 s013)))) <|
  cSeq (cReg 2 (
   oSeq (oMv g003 s026) <|
   oMv g026 s002)) <|
  cExit 0⟩
def afn6 : AFn := ⟨2, 16, [(4, none), (5, none)],
  .seq (.region [
   ⟨(some 4), .mv (.c .nilSl), none⟩,
   ⟨(some 5), .mv (.c (.int .i64 0)), none⟩]) <|
  .seq (.seq (.region [
   ⟨(some 7), .mv (.t 0), none⟩,
   ⟨(some 8), .mv (.t 1), none⟩,
   ⟨(some 9), .call (.c (.fn (.func 16) [] [])) [(.t 7), (.t 8), (.c (.fn (.func 17) [] [])), (.c (.fn (.func 18) [] []))], none⟩,
   ⟨(some 6), .mv (.t 9), none⟩]) <|
  .seq (.region [
   ⟨(some 10), .mv (.t 6), none⟩,
   ⟨(some 11), .bin .neq .int (.t 10) (.c (.int .i64 0)), none⟩]) <|
  .cond (.t 11)
   (.seq (.region [
    ⟨(some 12), .mv (.t 6), none⟩,
    ⟨(some 4), .mv (.c .nilSl), none⟩,
    ⟨(some 5), .mv (.t 12), none⟩]) <|
   .ret)
   (.skip)) <|
  .seq (.region [
   ⟨(some 13), .mv (.t 0), none⟩,
   ⟨(some 14), .mv (.t 1), none⟩,
   ⟨(some 15), .call (.c (.fn (.func 19) [] [])) [(.t 13), (.t 14)], none⟩,
   ⟨(some 4), .mv (.t 15), none⟩,
   ⟨(some 5), .mv (.c (.int .i64 0)), none⟩]) <|
  .ret, none⟩
noncomputable def ffn6 : FFn := ⟨2, 16, [(4, none), (5, none)],
  cSeq (cReg 2 (
   oSeq (oMv (kc .nilSl) s004) <|
   oMv (kc (.int .i64 0)) s005)) <|
  cSeq (cSeq (cReg 4 (
   oSeq (oMv g000 s007) <|
   oSeq (oMv g001 s010) <|
   oSeq (oCallF 16 (fun T => [g007 T, g010 T, (.fn (.func 17) [] []), (.fn (.func 18) [] [])]) s011) <|
   oMv g011 s006)) <|
  cSeq (cReg 2 (
   oSeq (oMv g006 s012) <|
   oP (vNeq g012 (kc (.int .i64 0))) s013)) <|
  cCond g013
   (cSeq (cReg 3 (
    oSeq (oMv g006 s014) <|
    oSeq (oMv (kc .nilSl) s004) <|
    oMv g014 s005)) <|
   cExit 0)
   (cSkip)) <|
  cSeq (cReg 5 (
   oSeq (oMv g000 s015) <|
   oSeq (oMv g001 s016) <|
   oSeq (oCallF 19 (fun T => [g015 T, g016 T]) s017) <|
   oSeq (oMv g017 s004) <|
   oMv (kc (.int .i64 0)) s005)) <|
  cExit 0⟩
def afn16 : AFn := ⟨4, 28, [(8, none)],
  .seq (.region [
   ⟨(some 4), .box 3 (.t 0), none⟩,
   ⟨(some 6), .box 47 (.t 2), none⟩,
   ⟨(some 7), .box 48 (.t 3), none⟩,
   ⟨(some 8), .mv (.c (.int .i64 0)), none⟩]) <|
  .seq (.block 0 (.seq (.region [
    ⟨(some 10), .load none (.t 4), none⟩,
    ⟨(some 11), .bin .lss .int (.t 10) (.c (.int .i64 0)), none⟩,
    ⟨(some 12), .mv (.t 11), none⟩,
    ⟨(some 13), .load none (.t 4), (some (12, false))⟩,
    ⟨(some 14), .bin .gtr .int (.t 13) (.c (.int .i64 8)), (some (12, false))⟩,
    ⟨(some 15), .pick (.t 12) (.c (.bool true)) (.t 14), none⟩,
    ⟨(some 9), .mv (.t 15), none⟩]) <|
   .cond (.t 9)
    (.seq (.region [
     ⟨(some 8), .mv (.c (.int .i64 2)), none⟩]) <|
    .ret)
    (.seq (.region [
     ⟨(some 17), .mv (.t 1), none⟩,
     ⟨(some 18), .len (.t 17), none⟩,
     ⟨(some 19), .bin .gtr .int (.t 18) (.c (.int .i64 60)), none⟩,
     ⟨(some 16), .mv (.t 19), none⟩]) <|
    .cond (.t 16)
     (.seq (.region [
      ⟨(some 8), .mv (.c (.int .i64 4)), none⟩]) <|
     .ret)
     (.seq (.region [
      ⟨(some 21), .mv (.t 1), none⟩,
      ⟨(some 22), .mkfn (.func 33) [] [(.t 6), (.t 7)], none⟩,
      ⟨(some 23), .call (.c (.fn (.func 32) [] [])) [(.t 21), (.t 22)], none⟩,
      ⟨(some 20), .mv (.t 23), none⟩]) <|
     .cond (.t 20)
      (.seq (.region [
       ⟨(some 8), .mv (.c (.int .i64 8)), none⟩]) <|
      .ret)
      (.seq (.region [
       ⟨(some 25), .mv (.t 1), none⟩,
       ⟨(some 26), .mkfn (.func 34) [] [(.t 6), (.t 4)], none⟩,
       ⟨(some 27), .call (.c (.fn (.func 32) [] [])) [(.t 25), (.t 26)], none⟩,
       ⟨(some 24), .mv (.t 27), none⟩]) <|
      .cond (.t 24)
       (.seq (.region [
        ⟨(some 8), .mv (.c (.int .i64 70)), none⟩]) <|
       .ret)
       (.skip)))))) <|
  .seq (.region [
   ⟨(some 8), .mv (.c (.int .i64 0)), none⟩]) <|
  .ret, none⟩
noncomputable def ffn16 : FFn := ⟨4, 28, [(8, none)],
  cSeq (cReg 4 (
   oSeq (oBox 3 g000 0 s004) <|
   oSeq (oBox 47 g002 1 s006) <|
   oSeq (oBox 48 g003 2 s007) <|
   oMv (kc (.int .i64 0)) s010)) <|
  cSeq (cBlock 1 (cSeq (cReg 7 (
    oSeq (oLoad g004 s012) <|
    oSeq (oP (vLss g012 (kc (.int .i64 0))) s013) <|
    oSeq (oMv g013 s014) <|
    oSeq (oGuard g014 false s015 (oLoad g004 s015)) <|
    oSeq (oGuard g014 false s016 (oP (vGtr g015 (kc (.int .i64 8))) s016)) <|
    oSeq (oP (vPick g014 (kc (.bool true)) g016) s017) <|
    oMv g017 s011)) <|
   cCond g011
    (cSeq (cReg 1 (
     oMv (kc (.int .i64 2)) s010)) <|
    cExit 0)
    (cSeq (cReg 4 (
     oSeq (oMv g001 s021) <|
     oSeq (oP (vLen g021) s022) <|
     oSeq (oP (vGtr g022 (kc (.int .i64 60))) s023) <|
     oMv g023 s020)) <|
    cCond g020
     (cSeq (cReg 1 (
      oMv (kc (.int .i64 4)) s010)) <|
     cExit 0)
     (cSeq (cReg 4 (
      oSeq (oMv g001 s025) <|
      oSeq (oGen (.mkfn (.func 33) [] [(.t 6), (.t 7)]) 1 s026) <|
      oSeq (oCallF 32 (fun T => [g025 T, g026 T]) s027) <|
      oMv g027 s024)) <|
     cCond g024
      (cSeq (cReg 1 (
       oMv (kc (.int .i64 8)) s010)) <|
      cExit 0)
      (cSeq (cReg 4 (
       oSeq (oMv g001 s031) <|
       oSeq (oGen (.mkfn (.func 34) [] [(.t 6), (.t 4)]) 1 s032) <|
       oSeq (oCallF 32 (fun T => [g031 T, g032 T]) s033) <|
       oMv g033 s030)) <|
      cCond g030
       (cSeq (cReg 1 (
        oMv (kc (.int .i64 70)) s010)) <|
       cExit 0)
       (cSkip)))))) <|
  cSeq (cReg 1 (
   oMv (kc (.int .i64 0)) s010)) <|
  cExit 0⟩
def afn33 : AFn := ⟨3, 15, [(4, none)],
  .seq (.region [
   ⟨(some 3), .box 36 (.t 0), none⟩,
   ⟨(some 4), .mv (.c (.bool false)), none⟩]) <|
  .seq (.region [
   ⟨(some 5), .load none (.t 1), none⟩,
   ⟨(some 6), .load (some 2) (.t 3), none⟩,
   ⟨(some 7), .call (.t 5) [(.t 6)], none⟩,
   ⟨(some 8), .call (.c (.fn (.func 25) [] [])) [(.t 7)], none⟩,
   ⟨(some 9), .bin .neq .int (.t 8) (.c (.int .i64 0)), none⟩,
   ⟨(some 10), .mv (.t 9), none⟩,
   ⟨(some 11), .load none (.t 2), (some (10, false))⟩,
   ⟨(some 12), .load (some 2) (.t 3), (some (10, false))⟩,
   ⟨(some 13), .call (.t 11) [(.t 12)], (some (10, false))⟩,
   ⟨(some 14), .pick (.t 10) (.c (.bool true)) (.t 13), none⟩,
   ⟨(some 4), .mv (.t 14), none⟩]) <|
  .ret, none⟩
noncomputable def ffn33 : FFn := ⟨3, 15, [(4, none)],
  cSeq (cReg 2 (
   oSeq (oBox 36 g000 0 s003) <|
   oMv (kc (.bool false)) s004)) <|
  cSeq (cReg 11 (
   oSeq (oLoad g001 s005) <|
   oSeq (oLoadN 2 g003 s006) <|
   oSeq (oCall g005 (fun T => [g006 T]) s007) <|
   oSeq (oCallF 25 (fun T => [g007 T]) s010) <|
   oSeq (oP (vNeq g010 (kc (.int .i64 0))) s011) <|
   oSeq (oMv g011 s012) <|
   oSeq (oGuard g012 false s013 (oLoad g002 s013)) <|
   oSeq (oGuard g012 false s014 (oLoadN 2 g003 s014)) <|
   oSeq (oGuard g012 false s015 (oCall g013 (fun T => [g014 T]) s015)) <|
   oSeq (oP (vPick g012 (kc (.bool true)) g015) s016) <|
   oMv g016 s004)) <|
  cExit 0⟩
def afn32 : AFn := ⟨2, 9, [(4, none)],
  .seq (.region [
   ⟨(some 4), .mv (.c (.bool false)), none⟩]) <|
  .seq (.region [
   ⟨(some 5), .mv (.t 0), none⟩,
   ⟨(some 6), .mv (.t 1), none⟩,
   ⟨(some 7), .call (.c (.fn (.func 56) [] [])) [(.t 5), (.t 6)], none⟩,
   ⟨(some 8), .bin .geq .int (.t 7) (.c (.int .i64 0)), none⟩,
   ⟨(some 4), .mv (.t 8), none⟩]) <|
  .ret, none⟩
noncomputable def ffn32 : FFn := ⟨2, 9, [(4, none)],
  cSeq (cReg 1 (
   oMv (kc (.bool false)) s004)) <|
  cSeq (cReg 5 (
   oSeq (oMv g000 s005) <|
   oSeq (oMv g001 s006) <|
   oSeq (oCallF 56 (fun T => [g005 T, g006 T]) s007) <|
   oSeq (oP (vGeq g007 (kc (.int .i64 0))) s010) <|
   oMv g010 s004)) <|
  cExit 0⟩
def afn56 : AFn := ⟨2, 19, [(4, none)],
  .seq (.region [
   ⟨(some 4), .mv (.c (.int .i64 0)), none⟩]) <|
  .seq (.seq (.region [
   ⟨(some 6), .mv (.t 0), none⟩,
   ⟨(some 7), .len (.t 6), none⟩,
   ⟨(some 8), .mv (.c (.int .i64 0)), none⟩]) <|
  .block 0 (.loop (.seq (.region [
     ⟨(some 9), .bin .lss .int (.t 8) (.t 7), none⟩]) <|
    .seq (.cond (.t 9)
     (.skip)
     (.exit 0)) <|
    .seq (.block 1 (.seq (.region [
      ⟨(some 10), .mv (.t 8), none⟩,
      ⟨(some 5), .mv (.t 10), none⟩]) <|
     .seq (.region [
      ⟨(some 11), .mv (.t 1), none⟩,
      ⟨(some 12), .mv (.t 0), none⟩,
      ⟨(some 13), .mv (.t 5), none⟩,
      ⟨(some 14), .indexAddr 2 (.t 12) (.t 13), none⟩,
      ⟨(some 15), .load (some 2) (.t 14), none⟩,
      ⟨(some 16), .call (.t 11) [(.t 15)], none⟩]) <|
     .cond (.t 16)
      (.seq (.region [
       ⟨(some 17), .mv (.t 5), none⟩,
       ⟨(some 4), .mv (.t 17), none⟩]) <|
      .ret)
      (.skip))) <|
    .region [
     ⟨(some 18), .bin .add .int (.t 8) (.c (.int .i64 1)), none⟩,
     ⟨(some 8), .mv (.t 18), none⟩]))) <|
  .seq (.region [
   ⟨(some 4), .mv (.c (.int .i64 (-1))), none⟩]) <|
  .ret, none⟩
noncomputable def ffn56 : FFn := ⟨2, 19, [(4, none)],
  cSeq (cReg 1 (
   oMv (kc (.int .i64 0)) s004)) <|
  cSeq (cSeq (cReg 3 (
   oSeq (oMv g000 s006) <|
   oSeq (oP (vLen g006) s007) <|
   oMv (kc (.int .i64 0)) s010)) <|
  cBlock 1 (cLoop 1000000 (cSeq (cReg 1 (
     oP (vLss g010 g007) s011)) <|
    cSeq (cCond g011
     (cSkip)
     (cExit 1)) <|
    cSeq (cBlock 3 (cSeq (cReg 2 (
      oSeq (oMv g010 s012) <|
      oMv g012 s005)) <|
     cSeq (cReg 6 (
      oSeq (oMv g001 s013) <|
      oSeq (oMv g000 s014) <|
      oSeq (oMv g005 s015) <|
      oSeq (oP (vIdx 2 g014 g015) s016) <|
      oSeq (oLoadN 2 g016 s017) <|
      oCall g013 (fun T => [g017 T]) s020)) <|
     cCond g020
      (cSeq (cReg 2 (
       oSeq (oMv g005 s021) <|
       oMv g021 s004)) <|
      cExit 0)
      (cSkip))) <|
    cReg 2 (
     oSeq (oP (vAdd g010 (kc (.int .i64 1))) s022) <|
     oMv g022 s010)))) <|
  cSeq (cReg 1 (
   oMv (kc (.int .i64 (-1))) s004)) <|
  cExit 0⟩
def afn34 : AFn := ⟨3, 12, [(4, none)],
  .seq (.region [
   ⟨(some 3), .box 36 (.t 0), none⟩,
   ⟨(some 4), .mv (.c (.bool false)), none⟩]) <|
  .seq (.draw [
   ⟨(some 5), .load none (.t 1), none, [(1, none)], 0, [(0, [])]⟩,
   ⟨(some 6), .load (some 2) (.t 3), none, [(3, none)], 0, [(0, [])]⟩,
   ⟨(some 7), .call (.t 5) [(.t 6)], none, [(5, (some 0)), (6, (some 1))], 2, [(0, [])]⟩,
   ⟨(some 8), .len (.t 7), none, [(7, (some 2))], 0, [(1, [])]⟩,
   ⟨(some 9), .load none (.t 2), none, [(2, none)], 0, [(0, []), (1, [])]⟩,
   ⟨(some 10), .bin .add .int (.t 9) (.c (.int .i64 1)), none, [(9, (some 4))], 0, [(0, []), (1, [])]⟩,
   ⟨(some 11), .bin .neq .int (.t 8) (.t 10), none, [(8, (some 3)), (10, (some 5))], 0, [(1, [])]⟩,
   ⟨(some 4), .mv (.t 11), none, [(11, (some 6))], 0, [(1, [])]⟩] []) <|
  .ret, none⟩
noncomputable def ffn34 : FFn := ⟨3, 12, [(4, none)],
  cSeq (cReg 2 (
   oSeq (oBox 36 g000 0 s003) <|
   oMv (kc (.bool false)) s004)) <|
  cSeq (cDrw 8 (
   dSeq (dLook 0 [] (oLoad g001 s005)) <|
   dSeq (dLook 0 [] (oLoadN 2 g003 s006)) <|
   dSeq (dAct 0 [] (oCall g005 (fun T => [g006 T]) s007)) <|
   dSeq (dLook 0 [] (oP (vLen g007) s010)) <|
   dSeq (dLook 1 [] (oLoad g002 s011)) <|
   dSeq (dLook 0 [] (oP (vAdd g011 (kc (.int .i64 1))) s012)) <|
   dSeq (dLook 0 [] (oP (vNeq g010 g012) s013)) <|
   dSeq (dLook 0 [] (oMv g013 s004)) <|
   dNop)
   (ckSeq (ckOne g011 0 [] (oLoad g002 s011)) <|
  ckNop) []) <|
  cExit 0⟩
def afn17 : AFn := ⟨1, 5, [(2, none)],
  .seq (.region [
   ⟨(some 1), .box 36 (.t 0), none⟩,
   ⟨(some 2), .mv (.c .nilSl), none⟩]) <|
  .seq (.region [
   ⟨(some 3), .fieldAddr 0 (.t 1), none⟩,
   ⟨(some 4), .load none (.t 3), none⟩,
   ⟨(some 2), .mv (.t 4), none⟩]) <|
  .ret, none⟩
noncomputable def ffn17 : FFn := ⟨1, 5, [(2, none)],
  cSeq (cReg 2 (
   oSeq (oBox 36 g000 0 s001) <|
   oMv (kc .nilSl) s002)) <|
  cSeq (cReg 3 (
   oSeq (oP (vFA 0 g001) s003) <|
   oSeq (oLoad g003 s004) <|
   oMv g004 s002)) <|
  cExit 0⟩
def afn18 : AFn := ⟨1, 3, [(2, none)],
  .seq (.region [
   ⟨(some 1), .box 36 (.t 0), none⟩,
   ⟨(some 2), .mv (.c (.bool false)), none⟩]) <|
  .seq (.region [
   ⟨(some 2), .mv (.c (.bool false)), none⟩]) <|
  .ret, none⟩
noncomputable def ffn18 : FFn := ⟨1, 3, [(2, none)],
  cSeq (cReg 2 (
   oSeq (oBox 36 g000 0 s001) <|
   oMv (kc (.bool false)) s002)) <|
  cSeq (cReg 1 (
   oMv (kc (.bool false)) s002)) <|
  cExit 0⟩
def afn19 : AFn := ⟨2, 79, [(4, none)],
  .seq (.region [
   ⟨(some 4), .mv (.c .nilSl), none⟩]) <|
  .seq (.region [
   ⟨(some 5), .mv (.c .nilSl), none⟩]) <|
  .seq (.region [
   ⟨(some 17), .mv (.t 0), none⟩,
   ⟨(some 18), .call (.c (.fn (.func 28) [] [])) [(.t 17), (.c (.int .i64 1))], none⟩,
   ⟨(some 19), .buildSlice 27 1 [.nilSl] 1 [((0, 1), (.t 18))], none⟩,
   ⟨(some 6), .mv (.t 19), none⟩]) <|
  .seq (.seq (.region [
   ⟨(some 20), .mv (.t 1), none⟩,
   ⟨(some 21), .len (.t 20), none⟩,
   ⟨(some 22), .mv (.c (.int .i64 0)), none⟩]) <|
  .block 0 (.loop (.seq (.region [
     ⟨(some 23), .bin .lss .int (.t 22) (.t 21), none⟩]) <|
    .seq (.cond (.t 23)
     (.skip)
     (.exit 0)) <|
    .seq (.block 1 (.seq (.region [
      ⟨(some 24), .indexAddr 2 (.t 20) (.t 22), none⟩,
      ⟨(some 25), .load (some 2) (.t 24), none⟩,
      ⟨(some 8), .alloc 36 [.nilSl, (.bool false)], none⟩,
      ⟨none, .store 2 (.t 8) (.t 25), none⟩]) <|
     .seq (.region [
      ⟨(some 26), .fieldAddr 1 (.t 8), none⟩,
      ⟨(some 27), .load none (.t 26), none⟩]) <|
     .cond (.t 27)
      (.region [
       ⟨(some 28), .mv (.t 5), none⟩,
       ⟨(some 29), .fieldAddr 0 (.t 8), none⟩,
       ⟨(some 30), .load none (.t 29), none⟩,
       ⟨(some 31), .buildSlice 27 1 [.nilSl] 1 [((0, 1), (.t 30))], none⟩,
       ⟨(some 32), .append 1 24 27 [.nilSl] (.t 28) (.t 31), none⟩,
       ⟨(some 5), .mv (.t 32), none⟩])
      (.region [
       ⟨(some 33), .mv (.t 6), none⟩,
       ⟨(some 34), .fieldAddr 0 (.t 8), none⟩,
       ⟨(some 35), .load none (.t 34), none⟩,
       ⟨(some 36), .buildSlice 27 1 [.nilSl] 1 [((0, 1), (.t 35))], none⟩,
       ⟨(some 37), .append 1 24 27 [.nilSl] (.t 33) (.t 36), none⟩,
       ⟨(some 6), .mv (.t 37), none⟩]))) <|
    .region [
     ⟨(some 38), .bin .add .int (.t 22) (.c (.int .i64 1)), none⟩,
     ⟨(some 22), .mv (.t 38), none⟩]))) <|
  .seq (.region [
   ⟨(some 40), .mv (.t 0), none⟩,
   ⟨(some 41), .bin .add .int (.t 40) (.c (.int .i64 1)), none⟩,
   ⟨(some 42), .mv (.t 5), none⟩,
   ⟨(some 43), .mv (.t 6), none⟩,
   ⟨(some 44), .call (.c (.fn (.func 29) [] [])) [(.t 41), (.t 42), (.t 43)], none⟩,
   ⟨(some 39), .mv (.t 44), none⟩,
   ⟨(some 45), .extract 0 (.t 39), none⟩,
   ⟨(some 46), .extract 1 (.t 39), none⟩,
   ⟨(some 47), .extract 2 (.t 39), none⟩,
   ⟨(some 9), .mv (.t 45), none⟩,
   ⟨(some 10), .mv (.t 46), none⟩,
   ⟨(some 11), .mv (.t 47), none⟩]) <|
  .seq (.seq (.region [
   ⟨(some 48), .mv (.t 10), none⟩,
   ⟨(some 49), .call (.c (.fn (.func 35) [] [])) [(.t 48), (.c (.fn (.func 36) [] []))], none⟩,
   ⟨(some 50), .un .not (.t 49), none⟩]) <|
  .cond (.t 50)
   (.seq (.region [
    ⟨(some 4), .mv (.c .nilSl), none⟩]) <|
   .ret)
   (.skip)) <|
  .seq (.seq (.region [
   ⟨(some 51), .mv (.t 9), none⟩,
   ⟨(some 52), .len (.t 51), none⟩,
   ⟨(some 53), .mv (.c (.int .i64 0)), none⟩]) <|
  .block 2 (.loop (.seq (.region [
     ⟨(some 54), .bin .lss .int (.t 53) (.t 52), none⟩]) <|
    .seq (.cond (.t 54)
     (.skip)
     (.exit 2)) <|
    .seq (.block 3 (.seq (.region [
      ⟨(some 55), .indexAddr 1 (.t 51) (.t 53), none⟩,
      ⟨(some 56), .load none (.t 55), none⟩,
      ⟨(some 13), .mv (.t 56), none⟩]) <|
     .region [
      ⟨(some 57), .mv (.t 4), none⟩,
      ⟨(some 58), .mv (.t 13), none⟩,
      ⟨(some 59), .build [(.int .u8 0), .nilSl] [((0, 1), (.c (.int .u8 1))), ((1, 1), (.t 58))], none⟩,
      ⟨(some 60), .buildSlice 29 2 [(.int .u8 0), .nilSl] 1 [((0, 2), (.t 59))], none⟩,
      ⟨(some 61), .append 2 32 29 [(.int .u8 0), .nilSl] (.t 57) (.t 60), none⟩,
      ⟨(some 4), .mv (.t 61), none⟩])) <|
    .region [
     ⟨(some 62), .bin .add .int (.t 53) (.c (.int .i64 1)), none⟩,
     ⟨(some 53), .mv (.t 62), none⟩]))) <|
  .seq (.seq (.region [
   ⟨(some 63), .mv (.t 10), none⟩,
   ⟨(some 64), .len (.t 63), none⟩,
   ⟨(some 65), .mv (.c (.int .i64 0)), none⟩]) <|
  .block 4 (.loop (.seq (.region [
     ⟨(some 66), .bin .lss .int (.t 65) (.t 64), none⟩]) <|
    .seq (.cond (.t 66)
     (.skip)
     (.exit 4)) <|
    .seq (.block 5 (.seq (.region [
      ⟨(some 67), .indexAddr 1 (.t 63) (.t 65), none⟩,
      ⟨(some 68), .load none (.t 67), none⟩,
      ⟨(some 15), .mv (.t 68), none⟩]) <|
     .seq (.region [
      ⟨(some 16), .mv (.c (.int .u8 2)), none⟩]) <|
     .seq (.seq (.region [
      ⟨(some 69), .mv (.t 15), none⟩,
      ⟨(some 70), .call (.c (.fn (.func 27) [] [])) [(.t 69)], none⟩,
      ⟨(some 71), .bin .gtr .int (.t 70) (.c (.int .i64 0)), none⟩]) <|
     .cond (.t 71)
      (.region [
       ⟨(some 16), .mv (.c (.int .u8 3)), none⟩])
      (.skip)) <|
     .region [
      ⟨(some 72), .mv (.t 4), none⟩,
      ⟨(some 73), .mv (.t 16), none⟩,
      ⟨(some 74), .mv (.t 15), none⟩,
      ⟨(some 75), .build [(.int .u8 0), .nilSl] [((0, 1), (.t 73)), ((1, 1), (.t 74))], none⟩,
      ⟨(some 76), .buildSlice 29 2 [(.int .u8 0), .nilSl] 1 [((0, 2), (.t 75))], none⟩,
      ⟨(some 77), .append 2 32 29 [(.int .u8 0), .nilSl] (.t 72) (.t 76), none⟩,
      ⟨(some 4), .mv (.t 77), none⟩])) <|
    .region [
     ⟨(some 78), .bin .add .int (.t 65) (.c (.int .i64 1)), none⟩,
     ⟨(some 65), .mv (.t 78), none⟩]))) <|
  .ret, none⟩
noncomputable def ffn19 : FFn := ⟨2, 79, [(4, none)],
  cSeq (cReg 1 (
   oMv (kc .nilSl) s004)) <|
  cSeq (cReg 1 (
   oMv (kc .nilSl) s005)) <|
  cSeq (cReg 4 (
   oSeq (oMv g000 s021) <|
   oSeq (oCallF 28 (fun T => [g021 T, (.int .i64 1)]) s022) <|
   oSeq (oBuildSlice 27 1 [.nilSl] 1 [((0, 1), g022)] 2 s023) <|
   oMv g023 s006)) <|
  cSeq (cSeq (cReg 3 (
   oSeq (oMv g001 s024) <|
   oSeq (oP (vLen g024) s025) <|
   oMv (kc (.int .i64 0)) s026)) <|
  cBlock 1 (cLoop 1000000 (cSeq (cReg 1 (
     oP (vLss g026 g025) s027)) <|
    cSeq (cCond g027
     (cSkip)
     (cExit 1)) <|
    cSeq (cBlock 3 (cSeq (cReg 4 (
      oSeq (oP (vIdx 2 g024 g026) s030) <|
      oSeq (oLoadN 2 g030 s031) <|
      oSeq (oAlloc 36 [.nilSl, (.bool false)] 2 s010) <|
      oStoreN 2 g010 g031 noPut)) <|
     cSeq (cReg 2 (
      oSeq (oP (vFA 1 g010) s032) <|
      oLoad g032 s033)) <|
     cCond g033
      (cReg 6 (
       oSeq (oMv g005 s034) <|
       oSeq (oP (vFA 0 g010) s035) <|
       oSeq (oLoad g035 s036) <|
       oSeq (oBuildSlice 27 1 [.nilSl] 1 [((0, 1), g036)] 3 s037) <|
       oSeq (oGen (.append 1 24 27 [.nilSl] (.t 28) (.t 31)) 4 s040) <|
       oMv g040 s005))
      (cReg 6 (
       oSeq (oMv g006 s041) <|
       oSeq (oP (vFA 0 g010) s042) <|
       oSeq (oLoad g042 s043) <|
       oSeq (oBuildSlice 27 1 [.nilSl] 1 [((0, 1), g043)] 3 s044) <|
       oSeq (oGen (.append 1 24 27 [.nilSl] (.t 33) (.t 36)) 4 s045) <|
       oMv g045 s006)))) <|
    cReg 2 (
     oSeq (oP (vAdd g026 (kc (.int .i64 1))) s046) <|
     oMv g046 s026)))) <|
  cSeq (cReg 12 (
   oSeq (oMv g000 s050) <|
   oSeq (oP (vAdd g050 (kc (.int .i64 1))) s051) <|
   oSeq (oMv g005 s052) <|
   oSeq (oMv g006 s053) <|
   oSeq (oCallF 29 (fun T => [g051 T, g052 T, g053 T]) s054) <|
   oSeq (oMv g054 s047) <|
   oSeq (oP (vExt 0 g047) s055) <|
   oSeq (oP (vExt 1 g047) s056) <|
   oSeq (oP (vExt 2 g047) s057) <|
   oSeq (oMv g055 s011) <|
   oSeq (oMv g056 s012) <|
   oMv g057 s013)) <|
  cSeq (cSeq (cReg 3 (
   oSeq (oMv g012 s060) <|
   oSeq (oCallF 35 (fun T => [g060 T, (.fn (.func 36) [] [])]) s061) <|
   oGen (.un .not (.t 49)) 2 s062)) <|
  cCond g062
   (cSeq (cReg 1 (
    oMv (kc .nilSl) s004)) <|
   cExit 0)
   (cSkip)) <|
  cSeq (cSeq (cReg 3 (
   oSeq (oMv g011 s063) <|
   oSeq (oP (vLen g063) s064) <|
   oMv (kc (.int .i64 0)) s065)) <|
  cBlock 5 (cLoop 1000000 (cSeq (cReg 1 (
     oP (vLss g065 g064) s066)) <|
    cSeq (cCond g066
     (cSkip)
     (cExit 5)) <|
    cSeq (cBlock 7 (cSeq (cReg 3 (
      oSeq (oP (vIdx 1 g063 g065) s067) <|
      oSeq (oLoad g067 s070) <|
      oMv g070 s015)) <|
     cReg 6 (
      oSeq (oMv g004 s071) <|
      oSeq (oMv g015 s072) <|
      oSeq (oP (vBuild [(.int .u8 0), .nilSl] [((0, 1), (kc (.int .u8 1))), ((1, 1), g072)]) s073) <|
      oSeq (oBuildSlice 29 2 [(.int .u8 0), .nilSl] 1 [((0, 2), g073)] 3 s074) <|
      oSeq (oGen (.append 2 32 29 [(.int .u8 0), .nilSl] (.t 57) (.t 60)) 4 s075) <|
      oMv g075 s004))) <|
    cReg 2 (
     oSeq (oP (vAdd g065 (kc (.int .i64 1))) s076) <|
     oMv g076 s065)))) <|
  cSeq (cSeq (cReg 3 (
   oSeq (oMv g012 s077) <|
   oSeq (oP (vLen g077) s100) <|
   oMv (kc (.int .i64 0)) s101)) <|
  cBlock 9 (cLoop 1000000 (cSeq (cReg 1 (
     oP (vLss g101 g100) s102)) <|
    cSeq (cCond g102
     (cSkip)
     (cExit 9)) <|
    cSeq (cBlock 11 (cSeq (cReg 3 (
      oSeq (oP (vIdx 1 g077 g101) s103) <|
      oSeq (oLoad g103 s104) <|
      oMv g104 s017)) <|
     cSeq (cReg 1 (
      oMv (kc (.int .u8 2)) s020)) <|
     cSeq (cSeq (cReg 3 (
      oSeq (oMv g017 s105) <|
      oSeq (oCallF 27 (fun T => [g105 T]) s106) <|
      oP (vGtr g106 (kc (.int .i64 0))) s107)) <|
     cCond g107
      (cReg 1 (
       oMv (kc (.int .u8 3)) s020))
      (cSkip)) <|
     cReg 7 (
      oSeq (oMv g004 s110) <|
      oSeq (oMv g020 s111) <|
      oSeq (oMv g017 s112) <|
      oSeq (oP (vBuild [(.int .u8 0), .nilSl] [((0, 1), g111), ((1, 1), g112)]) s113) <|
      oSeq (oBuildSlice 29 2 [(.int .u8 0), .nilSl] 1 [((0, 2), g113)] 4 s114) <|
      oSeq (oGen (.append 2 32 29 [(.int .u8 0), .nilSl] (.t 72) (.t 76)) 5 s115) <|
      oMv g115 s004))) <|
    cReg 2 (
     oSeq (oP (vAdd g101 (kc (.int .i64 1))) s116) <|
     oMv g116 s101)))) <|
  cExit 0⟩
def afn35 : AFn := ⟨2, 9, [(4, none)],
  .seq (.region [
   ⟨(some 4), .mv (.c (.bool false)), none⟩]) <|
  .seq (.region [
   ⟨(some 5), .mv (.t 0), none⟩,
   ⟨(some 6), .mv (.t 1), none⟩,
   ⟨(some 7), .call (.c (.fn (.func 57) [] [])) [(.t 5), (.t 6)], none⟩,
   ⟨(some 8), .bin .geq .int (.t 7) (.c (.int .i64 0)), none⟩,
   ⟨(some 4), .mv (.t 8), none⟩]) <|
  .ret, none⟩
noncomputable def ffn35 : FFn := ⟨2, 9, [(4, none)],
  cSeq (cReg 1 (
   oMv (kc (.bool false)) s004)) <|
  cSeq (cReg 5 (
   oSeq (oMv g000 s005) <|
   oSeq (oMv g001 s006) <|
   oSeq (oCallF 57 (fun T => [g005 T, g006 T]) s007) <|
   oSeq (oP (vGeq g007 (kc (.int .i64 0))) s010) <|
   oMv g010 s004)) <|
  cExit 0⟩
def afn36 : AFn := ⟨1, 6, [(2, none)],
  .seq (.region [
   ⟨(some 2), .mv (.c (.bool false)), none⟩]) <|
  .seq (.region [
   ⟨(some 3), .mv (.t 0), none⟩,
   ⟨(some 4), .call (.c (.fn (.func 27) [] [])) [(.t 3)], none⟩,
   ⟨(some 5), .bin .gtr .int (.t 4) (.c (.int .i64 0)), none⟩,
   ⟨(some 2), .mv (.t 5), none⟩]) <|
  .ret, none⟩
noncomputable def ffn36 : FFn := ⟨1, 6, [(2, none)],
  cSeq (cReg 1 (
   oMv (kc (.bool false)) s002)) <|
  cSeq (cReg 4 (
   oSeq (oMv g000 s003) <|
   oSeq (oCallF 27 (fun T => [g003 T]) s004) <|
   oSeq (oP (vGtr g004 (kc (.int .i64 0))) s005) <|
   oMv g005 s002)) <|
  cExit 0⟩
def afn8 : AFn := ⟨1, 6, [(2, (some (some 2)))],
  .seq (.region [
   ⟨(some 2), .alloc 36 [.nilSl, (.bool false)], none⟩]) <|
  .seq (.region [
   ⟨(some 3), .mv (.t 0), none⟩,
   ⟨(some 4), .call (.c (.fn (.func 15) [] [])) [(.t 3)], none⟩,
   ⟨(some 5), .build [.nilSl, (.bool false)] [((0, 1), (.t 4))], none⟩,
   ⟨none, .store 2 (.t 2) (.t 5), none⟩]) <|
  .ret, none⟩
noncomputable def ffn8 : FFn := ⟨1, 6, [(2, (some (some 2)))],
  cSeq (cReg 1 (
   oAlloc 36 [.nilSl, (.bool false)] 0 s002)) <|
  cSeq (cReg 4 (
   oSeq (oMv g000 s003) <|
   oSeq (oCallF 15 (fun T => [g003 T]) s004) <|
   oSeq (oP (vBuild [.nilSl, (.bool false)] [((0, 1), g004)]) s005) <|
   oStoreN 2 g002 g005 noPut)) <|
  cExit 0⟩
def afn7 : AFn := ⟨2, 19, [(4, none)],
  .seq (.region [
   ⟨(some 4), .mv (.c (.bool false)), none⟩]) <|
  .seq (.region [
   ⟨(some 8), .mv (.t 0), none⟩,
   ⟨(some 9), .call (.c (.fn (.func 6) [] [])) [(.c (.int .i64 1)), (.t 8)], none⟩,
   ⟨(some 7), .mv (.t 9), none⟩,
   ⟨(some 10), .extract 0 (.t 7), none⟩,
   ⟨(some 11), .extract 1 (.t 7), none⟩,
   ⟨(some 5), .mv (.t 10), none⟩,
   ⟨(some 6), .mv (.t 11), none⟩]) <|
  .seq (.region [
   ⟨(some 12), .mv (.t 6), none⟩,
   ⟨(some 13), .bin .eql .int (.t 12) (.c (.int .i64 0)), none⟩,
   ⟨(some 14), .mv (.t 13), none⟩,
   ⟨(some 15), .mv (.t 5), (some (14, true))⟩,
   ⟨(some 16), .mv (.t 1), (some (14, true))⟩,
   ⟨(some 17), .call (.c (.fn (.func 20) [] [])) [(.t 15), (.t 16)], (some (14, true))⟩,
   ⟨(some 18), .pick (.t 14) (.t 17) (.c (.bool false)), none⟩,
   ⟨(some 4), .mv (.t 18), none⟩]) <|
  .ret, none⟩
noncomputable def ffn7 : FFn := ⟨2, 19, [(4, none)],
  cSeq (cReg 1 (
   oMv (kc (.bool false)) s004)) <|
  cSeq (cReg 7 (
   oSeq (oMv g000 s010) <|
   oSeq (oCallF 6 (fun T => [(.int .i64 1), g010 T]) s011) <|
   oSeq (oMv g011 s007) <|
   oSeq (oP (vExt 0 g007) s012) <|
   oSeq (oP (vExt 1 g007) s013) <|
   oSeq (oMv g012 s005) <|
   oMv g013 s006)) <|
  cSeq (cReg 8 (
   oSeq (oMv g006 s014) <|
   oSeq (oP (vEql g014 (kc (.int .i64 0))) s015) <|
   oSeq (oMv g015 s016) <|
   oSeq (oGuard g016 true s017 (oMv g005 s017)) <|
   oSeq (oGuard g016 true s020 (oMv g001 s020)) <|
   oSeq (oGuard g016 true s021 (oCallF 20 (fun T => [g017 T, g020 T]) s021)) <|
   oSeq (oP (vPick g016 g021 (kc (.bool false))) s022) <|
   oMv g022 s004)) <|
  cExit 0⟩
def afn20 : AFn := ⟨2, 42, [(4, none)],
  .seq (.region [
   ⟨(some 4), .mv (.c (.bool false)), none⟩]) <|
  .seq (.seq (.region [
   ⟨(some 6), .mv (.t 0), none⟩,
   ⟨(some 7), .len (.t 6), none⟩,
   ⟨(some 8), .mv (.t 1), none⟩,
   ⟨(some 9), .len (.t 8), none⟩,
   ⟨(some 10), .bin .neq .int (.t 7) (.t 9), none⟩]) <|
  .cond (.t 10)
   (.seq (.region [
    ⟨(some 4), .mv (.c (.bool false)), none⟩]) <|
   .ret)
   (.skip)) <|
  .seq (.seq (.region [
   ⟨(some 5), .mv (.c (.int .i64 0)), none⟩]) <|
  .block 0 (.loop (.seq (.seq (.region [
     ⟨(some 11), .mv (.t 5), none⟩,
     ⟨(some 12), .mv (.t 0), none⟩,
     ⟨(some 13), .len (.t 12), none⟩,
     ⟨(some 14), .bin .lss .int (.t 11) (.t 13), none⟩]) <|
    .cond (.t 14)
     (.skip)
     (.exit 0)) <|
    .seq (.block 1 (.seq (.draw [
      ⟨(some 17), .mv (.t 0), none, [(0, none)], 0, [(0, [])]⟩,
      ⟨(some 18), .mv (.t 5), none, [(5, none)], 0, [(0, [])]⟩,
      ⟨(some 19), .indexAddr 2 (.t 17) (.t 18), none, [(17, (some 0)), (18, (some 1))], 0, [(0, [])]⟩,
      ⟨(some 20), .fieldAddr 0 (.t 19), none, [(19, (some 2))], 0, [(0, [])]⟩,
      ⟨(some 21), .load none (.t 20), none, [(20, (some 3))], 0, [(0, [])]⟩,
      ⟨(some 22), .mv (.t 1), none, [(1, none)], 0, [(0, [])]⟩,
      ⟨(some 23), .mv (.t 5), none, [(5, none)], 0, [(0, [])]⟩,
      ⟨(some 24), .indexAddr 2 (.t 22) (.t 23), none, [(22, (some 5)), (23, (some 6))], 0, [(0, [])]⟩,
      ⟨(some 25), .fieldAddr 0 (.t 24), none, [(24, (some 7))], 0, [(0, [])]⟩,
      ⟨(some 26), .load none (.t 25), none, [(25, (some 8))], 0, [(0, [])]⟩,
      ⟨(some 27), .bin .neq .int (.t 21) (.t 26), none, [(21, (some 4)), (26, (some 9))], 0, [(0, [])]⟩,
      ⟨(some 28), .mv (.t 27), none, [(27, (some 10))], 0, [(0, [])]⟩,
      ⟨(some 29), .mv (.t 0), (some (28, false)), [(0, none), (28, (some 11))], 0, [(0, [])]⟩,
      ⟨(some 30), .mv (.t 5), (some (28, false)), [(5, none), (28, (some 11))], 0, [(0, [])]⟩,
      ⟨(some 31), .indexAddr 2 (.t 29) (.t 30), (some (28, false)), [(29, (some 12)), (30, (some 13)), (28, (some 11))], 0, [(0, [])]⟩,
      ⟨(some 32), .fieldAddr 1 (.t 31), (some (28, false)), [(31, (some 14)), (28, (some 11))], 0, [(0, [])]⟩,
      ⟨(some 33), .load none (.t 32), (some (28, false)), [(32, (some 15)), (28, (some 11))], 0, [(0, [])]⟩,
      ⟨(some 34), .mv (.t 1), (some (28, false)), [(1, none), (28, (some 11))], 0, [(0, [])]⟩,
      ⟨(some 35), .mv (.t 5), (some (28, false)), [(5, none), (28, (some 11))], 0, [(0, [])]⟩,
      ⟨(some 36), .indexAddr 2 (.t 34) (.t 35), (some (28, false)), [(34, (some 17)), (35, (some 18)), (28, (some 11))], 0, [(0, [])]⟩,
      ⟨(some 37), .fieldAddr 1 (.t 36), (some (28, false)), [(36, (some 19)), (28, (some 11))], 0, [(0, [])]⟩,
      ⟨(some 38), .load none (.t 37), (some (28, false)), [(37, (some 20)), (28, (some 11))], 0, [(0, [])]⟩,
      ⟨(some 39), .call (.c (.fn (.func 21) [] [])) [(.t 33), (.t 38)], (some (28, false)), [(33, (some 16)), (38, (some 21)), (28, (some 11))], 2, [(0, [])]⟩,
      ⟨(some 40), .un .not (.t 39), (some (28, false)), [(39, (some 22)), (28, (some 11))], 0, [(1, [])]⟩,
      ⟨(some 41), .pick (.t 28) (.c (.bool true)) (.t 40), none, [(28, (some 11)), (40, (some 23))], 0, [(1, [])]⟩] []) <|
     .cond (.t 41)
      (.seq (.region [
       ⟨(some 4), .mv (.c (.bool false)), none⟩]) <|
      .ret)
      (.skip))) <|
    .region [
     ⟨(some 15), .mv (.t 5), none⟩,
     ⟨(some 16), .bin .add .int (.t 15) (.c (.int .i64 1)), none⟩,
     ⟨(some 5), .mv (.t 16), none⟩]))) <|
  .seq (.region [
   ⟨(some 4), .mv (.c (.bool true)), none⟩]) <|
  .ret, none⟩
noncomputable def ffn20 : FFn := ⟨2, 42, [(4, none)],
  cSeq (cReg 1 (
   oMv (kc (.bool false)) s004)) <|
  cSeq (cSeq (cReg 5 (
   oSeq (oMv g000 s006) <|
   oSeq (oP (vLen g006) s007) <|
   oSeq (oMv g001 s010) <|
   oSeq (oP (vLen g010) s011) <|
   oP (vNeq g007 g011) s012)) <|
  cCond g012
   (cSeq (cReg 1 (
    oMv (kc (.bool false)) s004)) <|
   cExit 0)
   (cSkip)) <|
  cSeq (cSeq (cReg 1 (
   oMv (kc (.int .i64 0)) s005)) <|
  cBlock 1 (cLoop 1000000 (cSeq (cSeq (cReg 4 (
     oSeq (oMv g005 s013) <|
     oSeq (oMv g000 s014) <|
     oSeq (oP (vLen g014) s015) <|
     oP (vLss g013 g015) s016)) <|
    cCond g016
     (cSkip)
     (cExit 1)) <|
    cSeq (cBlock 3 (cSeq (cDrw 25 (
      dSeq (dLook 0 [] (oMv g000 s021)) <|
      dSeq (dLook 0 [] (oMv g005 s022)) <|
      dSeq (dLook 0 [] (oP (vIdx 2 g021 g022) s023)) <|
      dSeq (dLook 0 [] (oP (vFA 0 g023) s024)) <|
      dSeq (dLook 0 [] (oLoad g024 s025)) <|
      dSeq (dLook 0 [] (oMv g001 s026)) <|
      dSeq (dLook 0 [] (oMv g005 s027)) <|
      dSeq (dLook 0 [] (oP (vIdx 2 g026 g027) s030)) <|
      dSeq (dLook 0 [] (oP (vFA 0 g030) s031)) <|
      dSeq (dLook 0 [] (oLoad g031 s032)) <|
      dSeq (dLook 0 [] (oP (vNeq g025 g032) s033)) <|
      dSeq (dLook 0 [] (oMv g033 s034)) <|
      dSeq (dLook 0 [] (oGuard g034 false s035 (oMv g000 s035))) <|
      dSeq (dLook 0 [] (oGuard g034 false s036 (oMv g005 s036))) <|
      dSeq (dLook 0 [] (oGuard g034 false s037 (oP (vIdx 2 g035 g036) s037))) <|
      dSeq (dLook 0 [] (oGuard g034 false s040 (oP (vFA 1 g037) s040))) <|
      dSeq (dLook 0 [] (oGuard g034 false s041 (oLoad g040 s041))) <|
      dSeq (dLook 0 [] (oGuard g034 false s042 (oMv g001 s042))) <|
      dSeq (dLook 0 [] (oGuard g034 false s043 (oMv g005 s043))) <|
      dSeq (dLook 0 [] (oGuard g034 false s044 (oP (vIdx 2 g042 g043) s044))) <|
      dSeq (dLook 0 [] (oGuard g034 false s045 (oP (vFA 1 g044) s045))) <|
      dSeq (dLook 0 [] (oGuard g034 false s046 (oLoad g045 s046))) <|
      dSeq (dAct 0 [] (oGuard g034 false s047 (oCallF 21 (fun T => [g041 T, g046 T]) s047))) <|
      dSeq (dLook 0 [] (oGuard g034 false s050 (oGen (.un .not (.t 39)) 23 s050))) <|
      dSeq (dLook 0 [] (oP (vPick g034 (kc (.bool true)) g050) s051)) <|
      dNop)
      (ckNop) []) <|
     cCond g051
      (cSeq (cReg 1 (
       oMv (kc (.bool false)) s004)) <|
      cExit 0)
      (cSkip))) <|
    cReg 3 (
     oSeq (oMv g005 s017) <|
     oSeq (oP (vAdd g017 (kc (.int .i64 1))) s020) <|
     oMv g020 s005)))) <|
  cSeq (cReg 1 (
   oMv (kc (.bool true)) s004)) <|
  cExit 0⟩
def afn21 : AFn := ⟨2, 27, [(4, none)],
  .seq (.region [
   ⟨(some 4), .mv (.c (.bool false)), none⟩]) <|
  .seq (.seq (.region [
   ⟨(some 6), .mv (.t 0), none⟩,
   ⟨(some 7), .len (.t 6), none⟩,
   ⟨(some 8), .mv (.t 1), none⟩,
   ⟨(some 9), .len (.t 8), none⟩,
   ⟨(some 10), .bin .neq .int (.t 7) (.t 9), none⟩]) <|
  .cond (.t 10)
   (.seq (.region [
    ⟨(some 4), .mv (.c (.bool false)), none⟩]) <|
   .ret)
   (.skip)) <|
  .seq (.seq (.region [
   ⟨(some 5), .mv (.c (.int .i64 0)), none⟩]) <|
  .block 0 (.loop (.seq (.seq (.region [
     ⟨(some 11), .mv (.t 5), none⟩,
     ⟨(some 12), .mv (.t 0), none⟩,
     ⟨(some 13), .len (.t 12), none⟩,
     ⟨(some 14), .bin .lss .int (.t 11) (.t 13), none⟩]) <|
    .cond (.t 14)
     (.skip)
     (.exit 0)) <|
    .seq (.block 1 (.seq (.draw [
      ⟨(some 17), .mv (.t 0), none, [(0, none)], 0, [(0, [])]⟩,
      ⟨(some 18), .mv (.t 5), none, [(5, none)], 0, [(0, [])]⟩,
      ⟨(some 19), .indexAddr 2 (.t 17) (.t 18), none, [(17, (some 0)), (18, (some 1))], 0, [(0, [])]⟩,
      ⟨(some 20), .load (some 2) (.t 19), none, [(19, (some 2))], 0, [(0, [])]⟩,
      ⟨(some 21), .mv (.t 1), none, [(1, none)], 0, [(0, [])]⟩,
      ⟨(some 22), .mv (.t 5), none, [(5, none)], 0, [(0, [])]⟩,
      ⟨(some 23), .indexAddr 2 (.t 21) (.t 22), none, [(21, (some 4)), (22, (some 5))], 0, [(0, [])]⟩,
      ⟨(some 24), .load (some 2) (.t 23), none, [(23, (some 6))], 0, [(0, [])]⟩,
      ⟨(some 25), .call (.c (.fn (.func 37) [] [])) [(.t 20), (.t 24)], none, [(20, (some 3)), (24, (some 7))], 2, [(0, [])]⟩,
      ⟨(some 26), .un .not (.t 25), none, [(25, (some 8))], 0, [(1, [])]⟩] []) <|
     .cond (.t 26)
      (.seq (.region [
       ⟨(some 4), .mv (.c (.bool false)), none⟩]) <|
      .ret)
      (.skip))) <|
    .region [
     ⟨(some 15), .mv (.t 5), none⟩,
     ⟨(some 16), .bin .add .int (.t 15) (.c (.int .i64 1)), none⟩,
     ⟨(some 5), .mv (.t 16), none⟩]))) <|
  .seq (.region [
   ⟨(some 4), .mv (.c (.bool true)), none⟩]) <|
  .ret, none⟩
noncomputable def ffn21 : FFn := ⟨2, 27, [(4, none)],
  cSeq (cReg 1 (
   oMv (kc (.bool false)) s004)) <|
  cSeq (cSeq (cReg 5 (
   oSeq (oMv g000 s006) <|
   oSeq (oP (vLen g006) s007) <|
   oSeq (oMv g001 s010) <|
   oSeq (oP (vLen g010) s011) <|
   oP (vNeq g007 g011) s012)) <|
  cCond g012
   (cSeq (cReg 1 (
    oMv (kc (.bool false)) s004)) <|
   cExit 0)
   (cSkip)) <|
  cSeq (cSeq (cReg 1 (
   oMv (kc (.int .i64 0)) s005)) <|
  cBlock 1 (cLoop 1000000 (cSeq (cSeq (cReg 4 (
     oSeq (oMv g005 s013) <|
     oSeq (oMv g000 s014) <|
     oSeq (oP (vLen g014) s015) <|
     oP (vLss g013 g015) s016)) <|
    cCond g016
     (cSkip)
     (cExit 1)) <|
    cSeq (cBlock 3 (cSeq (cDrw 10 (
      dSeq (dLook 0 [] (oMv g000 s021)) <|
      dSeq (dLook 0 [] (oMv g005 s022)) <|
      dSeq (dLook 0 [] (oP (vIdx 2 g021 g022) s023)) <|
      dSeq (dLook 0 [] (oLoadN 2 g023 s024)) <|
      dSeq (dLook 0 [] (oMv g001 s025)) <|
      dSeq (dLook 0 [] (oMv g005 s026)) <|
      dSeq (dLook 0 [] (oP (vIdx 2 g025 g026) s027)) <|
      dSeq (dLook 0 [] (oLoadN 2 g027 s030)) <|
      dSeq (dAct 0 [] (oCallF 37 (fun T => [g024 T, g030 T]) s031)) <|
      dSeq (dLook 0 [] (oGen (.un .not (.t 25)) 9 s032)) <|
      dNop)
      (ckNop) []) <|
     cCond g032
      (cSeq (cReg 1 (
       oMv (kc (.bool false)) s004)) <|
      cExit 0)
      (cSkip))) <|
    cReg 3 (
     oSeq (oMv g005 s017) <|
     oSeq (oP (vAdd g017 (kc (.int .i64 1))) s020) <|
     oMv g020 s005)))) <|
  cSeq (cReg 1 (
   oMv (kc (.bool true)) s004)) <|
  cExit 0⟩
def afn37 : AFn := ⟨2, 17, [(4, none)],
  .seq (.region [
   ⟨(some 2), .box 62 (.t 0), none⟩,
   ⟨(some 3), .box 62 (.t 1), none⟩,
   ⟨(some 4), .mv (.c (.bool false)), none⟩]) <|
  .seq (.region [
   ⟨(some 5), .fieldAddr 0 (.t 2), none⟩,
   ⟨(some 6), .load none (.t 5), none⟩,
   ⟨(some 7), .fieldAddr 0 (.t 3), none⟩,
   ⟨(some 8), .load none (.t 7), none⟩,
   ⟨(some 9), .bin .eql .bool (.t 6) (.t 8), none⟩,
   ⟨(some 10), .mv (.t 9), none⟩,
   ⟨(some 11), .fieldAddr 1 (.t 2), (some (10, true))⟩,
   ⟨(some 12), .load none (.t 11), (some (10, true))⟩,
   ⟨(some 13), .fieldAddr 1 (.t 3), (some (10, true))⟩,
   ⟨(some 14), .load none (.t 13), (some (10, true))⟩,
   ⟨(some 15), .call (.c (.fn (.func 58) [] [])) [(.t 12), (.t 14)], (some (10, true))⟩,
   ⟨(some 16), .pick (.t 10) (.t 15) (.c (.bool false)), none⟩,
   ⟨(some 4), .mv (.t 16), none⟩]) <|
  .ret, none⟩
noncomputable def ffn37 : FFn := ⟨2, 17, [(4, none)],
  cSeq (cReg 3 (
   oSeq (oBox 62 g000 0 s002) <|
   oSeq (oBox 62 g001 1 s003) <|
   oMv (kc (.bool false)) s004)) <|
  cSeq (cReg 13 (
   oSeq (oP (vFA 0 g002) s005) <|
   oSeq (oLoad g005 s006) <|
   oSeq (oP (vFA 0 g003) s007) <|
   oSeq (oLoad g007 s010) <|
   oSeq (oGen (.bin .eql .bool (.t 6) (.t 8)) 4 s011) <|
   oSeq (oMv g011 s012) <|
   oSeq (oGuard g012 true s013 (oP (vFA 1 g002) s013)) <|
   oSeq (oGuard g012 true s014 (oLoad g013 s014)) <|
   oSeq (oGuard g012 true s015 (oP (vFA 1 g003) s015)) <|
   oSeq (oGuard g012 true s016 (oLoad g015 s016)) <|
   oSeq (oGuard g012 true s017 (oCallF 58 (fun T => [g014 T, g016 T]) s017)) <|
   oSeq (oP (vPick g012 g017 (kc (.bool false))) s020) <|
   oMv g020 s004)) <|
  cExit 0⟩
def afn58 : AFn := ⟨2, 26, [(4, none)],
  .seq (.region [
   ⟨(some 4), .mv (.c (.bool false)), none⟩]) <|
  .seq (.seq (.region [
   ⟨(some 6), .mv (.t 0), none⟩,
   ⟨(some 7), .len (.t 6), none⟩,
   ⟨(some 8), .mv (.t 1), none⟩,
   ⟨(some 9), .len (.t 8), none⟩,
   ⟨(some 10), .bin .neq .int (.t 7) (.t 9), none⟩]) <|
  .cond (.t 10)
   (.seq (.region [
    ⟨(some 4), .mv (.c (.bool false)), none⟩]) <|
   .ret)
   (.skip)) <|
  .seq (.seq (.region [
   ⟨(some 5), .mv (.c (.int .i64 0)), none⟩]) <|
  .block 0 (.loop (.seq (.seq (.region [
     ⟨(some 11), .mv (.t 5), none⟩,
     ⟨(some 12), .mv (.t 0), none⟩,
     ⟨(some 13), .len (.t 12), none⟩,
     ⟨(some 14), .bin .lss .int (.t 11) (.t 13), none⟩]) <|
    .cond (.t 14)
     (.skip)
     (.exit 0)) <|
    .seq (.block 1 (.seq (.draw [
      ⟨(some 17), .mv (.t 0), none, [(0, none)], 0, [(0, [])]⟩,
      ⟨(some 18), .mv (.t 5), none, [(5, none)], 0, [(0, [])]⟩,
      ⟨(some 19), .indexAddr 1 (.t 17) (.t 18), none, [(17, (some 0)), (18, (some 1))], 0, [(0, [])]⟩,
      ⟨(some 20), .load none (.t 19), none, [(19, (some 2))], 0, [(0, [])]⟩,
      ⟨(some 21), .mv (.t 1), none, [(1, none)], 0, [(0, [])]⟩,
      ⟨(some 22), .mv (.t 5), none, [(5, none)], 0, [(0, [])]⟩,
      ⟨(some 23), .indexAddr 1 (.t 21) (.t 22), none, [(21, (some 4)), (22, (some 5))], 0, [(0, [])]⟩,
      ⟨(some 24), .load none (.t 23), none, [(23, (some 6))], 0, [(0, [])]⟩,
      ⟨(some 25), .bin .neq .int (.t 20) (.t 24), none, [(20, (some 3)), (24, (some 7))], 0, [(0, [])]⟩] []) <|
     .cond (.t 25)
      (.seq (.region [
       ⟨(some 4), .mv (.c (.bool false)), none⟩]) <|
      .ret)
      (.skip))) <|
    .region [
     ⟨(some 15), .mv (.t 5), none⟩,
     ⟨(some 16), .bin .add .int (.t 15) (.c (.int .i64 1)), none⟩,
     ⟨(some 5), .mv (.t 16), none⟩]))) <|
  .seq (.region [
   ⟨(some 4), .mv (.c (.bool true)), none⟩]) <|
  .ret, none⟩
noncomputable def ffn58 : FFn := ⟨2, 26, [(4, none)],
  cSeq (cReg 1 (
   oMv (kc (.bool false)) s004)) <|
  cSeq (cSeq (cReg 5 (
   oSeq (oMv g000 s006) <|
   oSeq (oP (vLen g006) s007) <|
   oSeq (oMv g001 s010) <|
   oSeq (oP (vLen g010) s011) <|
   oP (vNeq g007 g011) s012)) <|
  cCond g012
   (cSeq (cReg 1 (
    oMv (kc (.bool false)) s004)) <|
   cExit 0)
   (cSkip)) <|
  cSeq (cSeq (cReg 1 (
   oMv (kc (.int .i64 0)) s005)) <|
  cBlock 1 (cLoop 1000000 (cSeq (cSeq (cReg 4 (
     oSeq (oMv g005 s013) <|
     oSeq (oMv g000 s014) <|
     oSeq (oP (vLen g014) s015) <|
     oP (vLss g013 g015) s016)) <|
    cCond g016
     (cSkip)
     (cExit 1)) <|
    cSeq (cBlock 3 (cSeq (cDrw 9 (
      dSeq (dLook 0 [] (oMv g000 s021)) <|
      dSeq (dLook 0 [] (oMv g005 s022)) <|
      dSeq (dLook 0 [] (oP (vIdx 1 g021 g022) s023)) <|
      dSeq (dLook 0 [] (oLoad g023 s024)) <|
      dSeq (dLook 0 [] (oMv g001 s025)) <|
      dSeq (dLook 0 [] (oMv g005 s026)) <|
      dSeq (dLook 0 [] (oP (vIdx 1 g025 g026) s027)) <|
      dSeq (dLook 0 [] (oLoad g027 s030)) <|
      dSeq (dLook 0 [] (oP (vNeq g024 g030) s031)) <|
      dNop)
      (ckNop) []) <|
     cCond g031
      (cSeq (cReg 1 (
       oMv (kc (.bool false)) s004)) <|
      cExit 0)
      (cSkip))) <|
    cReg 3 (
     oSeq (oMv g005 s017) <|
     oSeq (oP (vAdd g017 (kc (.int .i64 1))) s020) <|
     oMv g020 s005)))) <|
  cSeq (cReg 1 (
   oMv (kc (.bool true)) s004)) <|
  cExit 0⟩
def afn9 : AFn := ⟨2, 42, [(4, none)],
  .seq (.region [
   ⟨(some 4), .mv (.c (.bool false)), none⟩]) <|
  .seq (.seq (.region [
   ⟨(some 6), .mv (.t 0), none⟩,
   ⟨(some 7), .len (.t 6), none⟩,
   ⟨(some 8), .mv (.t 1), none⟩,
   ⟨(some 9), .len (.t 8), none⟩,
   ⟨(some 10), .bin .neq .int (.t 7) (.t 9), none⟩]) <|
  .cond (.t 10)
   (.seq (.region [
    ⟨(some 4), .mv (.c (.bool false)), none⟩]) <|
   .ret)
   (.skip)) <|
  .seq (.seq (.region [
   ⟨(some 5), .mv (.c (.int .i64 0)), none⟩]) <|
  .block 0 (.loop (.seq (.seq (.region [
     ⟨(some 11), .mv (.t 5), none⟩,
     ⟨(some 12), .mv (.t 0), none⟩,
     ⟨(some 13), .len (.t 12), none⟩,
     ⟨(some 14), .bin .lss .int (.t 11) (.t 13), none⟩]) <|
    .cond (.t 14)
     (.skip)
     (.exit 0)) <|
    .seq (.block 1 (.seq (.draw [
      ⟨(some 17), .mv (.t 0), none, [(0, none)], 0, [(0, [])]⟩,
      ⟨(some 18), .mv (.t 5), none, [(5, none)], 0, [(0, [])]⟩,
      ⟨(some 19), .indexAddr 2 (.t 17) (.t 18), none, [(17, (some 0)), (18, (some 1))], 0, [(0, [])]⟩,
      ⟨(some 20), .fieldAddr 1 (.t 19), none, [(19, (some 2))], 0, [(0, [])]⟩,
      ⟨(some 21), .load none (.t 20), none, [(20, (some 3))], 0, [(0, [])]⟩,
      ⟨(some 22), .mv (.t 1), none, [(1, none)], 0, [(0, [])]⟩,
      ⟨(some 23), .mv (.t 5), none, [(5, none)], 0, [(0, [])]⟩,
      ⟨(some 24), .indexAddr 2 (.t 22) (.t 23), none, [(22, (some 5)), (23, (some 6))], 0, [(0, [])]⟩,
      ⟨(some 25), .fieldAddr 1 (.t 24), none, [(24, (some 7))], 0, [(0, [])]⟩,
      ⟨(some 26), .load none (.t 25), none, [(25, (some 8))], 0, [(0, [])]⟩,
      ⟨(some 27), .bin .neq .bool (.t 21) (.t 26), none, [(21, (some 4)), (26, (some 9))], 0, [(0, [])]⟩,
      ⟨(some 28), .mv (.t 27), none, [(27, (some 10))], 0, [(0, [])]⟩,
      ⟨(some 29), .mv (.t 0), (some (28, false)), [(0, none), (28, (some 11))], 0, [(0, [])]⟩,
      ⟨(some 30), .mv (.t 5), (some (28, false)), [(5, none), (28, (some 11))], 0, [(0, [])]⟩,
      ⟨(some 31), .indexAddr 2 (.t 29) (.t 30), (some (28, false)), [(29, (some 12)), (30, (some 13)), (28, (some 11))], 0, [(0, [])]⟩,
      ⟨(some 32), .fieldAddr 0 (.t 31), (some (28, false)), [(31, (some 14)), (28, (some 11))], 0, [(0, [])]⟩,
      ⟨(some 33), .load none (.t 32), (some (28, false)), [(32, (some 15)), (28, (some 11))], 0, [(0, [])]⟩,
      ⟨(some 34), .mv (.t 1), (some (28, false)), [(1, none), (28, (some 11))], 0, [(0, [])]⟩,
      ⟨(some 35), .mv (.t 5), (some (28, false)), [(5, none), (28, (some 11))], 0, [(0, [])]⟩,
      ⟨(some 36), .indexAddr 2 (.t 34) (.t 35), (some (28, false)), [(34, (some 17)), (35, (some 18)), (28, (some 11))], 0, [(0, [])]⟩,
      ⟨(some 37), .fieldAddr 0 (.t 36), (some (28, false)), [(36, (some 19)), (28, (some 11))], 0, [(0, [])]⟩,
      ⟨(some 38), .load none (.t 37), (some (28, false)), [(37, (some 20)), (28, (some 11))], 0, [(0, [])]⟩,
      ⟨(some 39), .call (.c (.fn (.func 21) [] [])) [(.t 33), (.t 38)], (some (28, false)), [(33, (some 16)), (38, (some 21)), (28, (some 11))], 2, [(0, [])]⟩,
      ⟨(some 40), .un .not (.t 39), (some (28, false)), [(39, (some 22)), (28, (some 11))], 0, [(1, [])]⟩,
      ⟨(some 41), .pick (.t 28) (.c (.bool true)) (.t 40), none, [(28, (some 11)), (40, (some 23))], 0, [(1, [])]⟩] []) <|
     .cond (.t 41)
      (.seq (.region [
       ⟨(some 4), .mv (.c (.bool false)), none⟩]) <|
      .ret)
      (.skip))) <|
    .region [
     ⟨(some 15), .mv (.t 5), none⟩,
     ⟨(some 16), .bin .add .int (.t 15) (.c (.int .i64 1)), none⟩,
     ⟨(some 5), .mv (.t 16), none⟩]))) <|
  .seq (.region [
   ⟨(some 4), .mv (.c (.bool true)), none⟩]) <|
  .ret, none⟩
noncomputable def ffn9 : FFn := ⟨2, 42, [(4, none)],
  cSeq (cReg 1 (
   oMv (kc (.bool false)) s004)) <|
  cSeq (cSeq (cReg 5 (
   oSeq (oMv g000 s006) <|
   oSeq (oP (vLen g006) s007) <|
   oSeq (oMv g001 s010) <|
   oSeq (oP (vLen g010) s011) <|
   oP (vNeq g007 g011) s012)) <|
  cCond g012
   (cSeq (cReg 1 (
    oMv (kc (.bool false)) s004)) <|
   cExit 0)
   (cSkip)) <|
  cSeq (cSeq (cReg 1 (
   oMv (kc (.int .i64 0)) s005)) <|
  cBlock 1 (cLoop 1000000 (cSeq (cSeq (cReg 4 (
     oSeq (oMv g005 s013) <|
     oSeq (oMv g000 s014) <|
     oSeq (oP (vLen g014) s015) <|
     oP (vLss g013 g015) s016)) <|
    cCond g016
     (cSkip)
     (cExit 1)) <|
    cSeq (cBlock 3 (cSeq (cDrw 25 (
      dSeq (dLook 0 [] (oMv g000 s021)) <|
      dSeq (dLook 0 [] (oMv g005 s022)) <|
      dSeq (dLook 0 [] (oP (vIdx 2 g021 g022) s023)) <|
      dSeq (dLook 0 [] (oP (vFA 1 g023) s024)) <|
      dSeq (dLook 0 [] (oLoad g024 s025)) <|
      dSeq (dLook 0 [] (oMv g001 s026)) <|
      dSeq (dLook 0 [] (oMv g005 s027)) <|
      dSeq (dLook 0 [] (oP (vIdx 2 g026 g027) s030)) <|
      dSeq (dLook 0 [] (oP (vFA 1 g030) s031)) <|
      dSeq (dLook 0 [] (oLoad g031 s032)) <|
      dSeq (dLook 0 [] (oGen (.bin .neq .bool (.t 21) (.t 26)) 10 s033)) <|
      dSeq (dLook 0 [] (oMv g033 s034)) <|
      dSeq (dLook 0 [] (oGuard g034 false s035 (oMv g000 s035))) <|
      dSeq (dLook 0 [] (oGuard g034 false s036 (oMv g005 s036))) <|
      dSeq (dLook 0 [] (oGuard g034 false s037 (oP (vIdx 2 g035 g036) s037))) <|
      dSeq (dLook 0 [] (oGuard g034 false s040 (oP (vFA 0 g037) s040))) <|
      dSeq (dLook 0 [] (oGuard g034 false s041 (oLoad g040 s041))) <|
      dSeq (dLook 0 [] (oGuard g034 false s042 (oMv g001 s042))) <|
      dSeq (dLook 0 [] (oGuard g034 false s043 (oMv g005 s043))) <|
      dSeq (dLook 0 [] (oGuard g034 false s044 (oP (vIdx 2 g042 g043) s044))) <|
      dSeq (dLook 0 [] (oGuard g034 false s045 (oP (vFA 0 g044) s045))) <|
      dSeq (dLook 0 [] (oGuard g034 false s046 (oLoad g045 s046))) <|
      dSeq (dAct 0 [] (oGuard g034 false s047 (oCallF 21 (fun T => [g041 T, g046 T]) s047))) <|
      dSeq (dLook 0 [] (oGuard g034 false s050 (oGen (.un .not (.t 39)) 23 s050))) <|
      dSeq (dLook 0 [] (oP (vPick g034 (kc (.bool true)) g050) s051)) <|
      dNop)
      (ckNop) []) <|
     cCond g051
      (cSeq (cReg 1 (
       oMv (kc (.bool false)) s004)) <|
      cExit 0)
      (cSkip))) <|
    cReg 3 (
     oSeq (oMv g005 s017) <|
     oSeq (oP (vAdd g017 (kc (.int .i64 1))) s020) <|
     oMv g020 s005)))) <|
  cSeq (cReg 1 (
   oMv (kc (.bool true)) s004)) <|
  cExit 0⟩
def afn10 : AFn := ⟨0, 40, [(0, none)],
  .seq (.region [
   ⟨(some 0), .mv (.c (.bool false)), none⟩]) <|
  .seq (.region [
   ⟨(some 2), .buildSlice 3 1 [(.int .i64 0), (.int .i64 0)] 2 [((0, 1), (.c (.int .i64 (-1)))), ((1, 1), (.c (.int .i64 1)))], none⟩,
   ⟨(some 3), .call (.c (.fn (.func 8) [] [])) [(.t 2)], none⟩,
   ⟨(some 4), .buildSlice 3 1 [(.int .i64 0), (.int .i64 0)] 2 [((0, 1), (.c (.int .i64 3))), ((1, 1), (.c (.int .i64 (-1))))], none⟩,
   ⟨(some 5), .call (.c (.fn (.func 8) [] [])) [(.t 4)], none⟩,
   ⟨(some 6), .buildSlice 36 2 [.nilSl, (.bool false), .nilSl, (.bool false)] 2 [((0, 2), (.t 3)), ((2, 2), (.t 5))], none⟩,
   ⟨(some 7), .buildSlice 3 1 [(.int .i64 0), (.int .i64 0)] 2 [((0, 1), (.c (.int .i64 1))), ((1, 1), (.c (.int .i64 1)))], none⟩,
   ⟨(some 8), .call (.c (.fn (.func 5) [] [])) [(.c (.int .u8 3)), (.t 7)], none⟩,
   ⟨(some 9), .buildSlice 3 1 [(.int .i64 0), (.int .i64 0)] 2 [((0, 1), (.c (.int .i64 1))), ((1, 1), (.c (.int .i64 3)))], none⟩,
   ⟨(some 10), .call (.c (.fn (.func 5) [] [])) [(.c (.int .u8 3)), (.t 9)], none⟩,
   ⟨(some 11), .buildSlice 29 2 [(.int .u8 0), .nilSl, (.int .u8 0), .nilSl] 2 [((0, 2), (.t 8)), ((2, 2), (.t 10))], none⟩,
   ⟨(some 12), .call (.c (.fn (.func 7) [] [])) [(.t 6), (.t 11)], none⟩,
   ⟨(some 1), .mv (.t 12), none⟩]) <|
  .seq (.region [
   ⟨(some 13), .mv (.t 1), none⟩,
   ⟨(some 14), .mv (.t 13), none⟩,
   ⟨(some 15), .buildSlice 3 1 [(.int .i64 0), (.int .i64 0)] 2 [((0, 1), (.c (.int .i64 (-1)))), ((1, 1), (.c (.int .i64 2)))], (some (14, true))⟩,
   ⟨(some 16), .call (.c (.fn (.func 22) [] [])) [(.t 15)], (some (14, true))⟩,
   ⟨(some 17), .buildSlice 36 2 [.nilSl, (.bool false)] 1 [((0, 2), (.t 16))], (some (14, true))⟩,
   ⟨(some 18), .buildSlice 3 1 [(.int .i64 0), (.int .i64 0)] 2 [((0, 1), (.c (.int .i64 2))), ((1, 1), (.c (.int .i64 1)))], (some (14, true))⟩,
   ⟨(some 19), .call (.c (.fn (.func 5) [] [])) [(.c (.int .u8 3)), (.t 18)], (some (14, true))⟩,
   ⟨(some 20), .buildSlice 29 2 [(.int .u8 0), .nilSl] 1 [((0, 2), (.t 19))], (some (14, true))⟩,
   ⟨(some 21), .call (.c (.fn (.func 7) [] [])) [(.t 17), (.t 20)], (some (14, true))⟩,
   ⟨(some 22), .pick (.t 14) (.t 21) (.c (.bool false)), none⟩,
   ⟨(some 23), .mv (.t 22), none⟩,
   ⟨(some 24), .buildSlice 3 1 [(.int .i64 0), (.int .i64 0)] 2 [((0, 1), (.c (.int .i64 0))), ((1, 1), (.c (.int .i64 1)))], (some (23, true))⟩,
   ⟨(some 25), .call (.c (.fn (.func 8) [] [])) [(.t 24)], (some (23, true))⟩,
   ⟨(some 26), .buildSlice 36 2 [.nilSl, (.bool false)] 1 [((0, 2), (.t 25))], (some (23, true))⟩,
   ⟨(some 27), .buildSlice 3 1 [(.int .i64 0), (.int .i64 0)] 2 [((0, 1), (.c (.int .i64 0))), ((1, 1), (.c (.int .i64 1)))], (some (23, true))⟩,
   ⟨(some 28), .call (.c (.fn (.func 5) [] [])) [(.c (.int .u8 2)), (.t 27)], (some (23, true))⟩,
   ⟨(some 29), .buildSlice 3 1 [(.int .i64 0), (.int .i64 0)] 2 [((0, 1), (.c (.int .i64 1))), ((1, 1), (.c (.int .i64 0)))], (some (23, true))⟩,
   ⟨(some 30), .call (.c (.fn (.func 5) [] [])) [(.c (.int .u8 3)), (.t 29)], (some (23, true))⟩,
   ⟨(some 31), .buildSlice 29 2 [(.int .u8 0), .nilSl, (.int .u8 0), .nilSl] 2 [((0, 2), (.t 28)), ((2, 2), (.t 30))], (some (23, true))⟩,
   ⟨(some 32), .call (.c (.fn (.func 7) [] [])) [(.t 26), (.t 31)], (some (23, true))⟩,
   ⟨(some 33), .pick (.t 23) (.t 32) (.c (.bool false)), none⟩,
   ⟨(some 34), .mv (.t 33), none⟩,
   ⟨(some 35), .buildSlice 3 1 [(.int .i64 0), (.int .i64 0)] 2 [((0, 1), (.c (.int .i64 1))), ((1, 1), (.c (.int .i64 2)))], (some (34, true))⟩,
   ⟨(some 36), .call (.c (.fn (.func 15) [] [])) [(.t 35)], (some (34, true))⟩,
   ⟨(some 37), .len (.t 36), (some (34, true))⟩,
   ⟨(some 38), .bin .eql .int (.t 37) (.c (.int .i64 2)), (some (34, true))⟩,
   ⟨(some 39), .pick (.t 34) (.t 38) (.c (.bool false)), none⟩,
   ⟨(some 0), .mv (.t 39), none⟩]) <|
  .ret, none⟩
noncomputable def ffn10 : FFn := ⟨0, 40, [(0, none)],
  cSeq (cReg 1 (
   oMv (kc (.bool false)) s000)) <|
  cSeq (cReg 12 (
   oSeq (oBuildSlice 3 1 [(.int .i64 0), (.int .i64 0)] 2 [((0, 1), (kc (.int .i64 (-1)))), ((1, 1), (kc (.int .i64 1)))] 0 s002) <|
   oSeq (oCallF 8 (fun T => [g002 T]) s003) <|
   oSeq (oBuildSlice 3 1 [(.int .i64 0), (.int .i64 0)] 2 [((0, 1), (kc (.int .i64 3))), ((1, 1), (kc (.int .i64 (-1))))] 2 s004) <|
   oSeq (oCallF 8 (fun T => [g004 T]) s005) <|
   oSeq (oBuildSlice 36 2 [.nilSl, (.bool false), .nilSl, (.bool false)] 2 [((0, 2), g003), ((2, 2), g005)] 4 s006) <|
   oSeq (oBuildSlice 3 1 [(.int .i64 0), (.int .i64 0)] 2 [((0, 1), (kc (.int .i64 1))), ((1, 1), (kc (.int .i64 1)))] 5 s007) <|
   oSeq (oCallF 5 (fun T => [(.int .u8 3), g007 T]) s010) <|
   oSeq (oBuildSlice 3 1 [(.int .i64 0), (.int .i64 0)] 2 [((0, 1), (kc (.int .i64 1))), ((1, 1), (kc (.int .i64 3)))] 7 s011) <|
   oSeq (oCallF 5 (fun T => [(.int .u8 3), g011 T]) s012) <|
   oSeq (oBuildSlice 29 2 [(.int .u8 0), .nilSl, (.int .u8 0), .nilSl] 2 [((0, 2), g010), ((2, 2), g012)] 9 s013) <|
   oSeq (oCallF 7 (fun T => [g006 T, g013 T]) s014) <|
   oMv g014 s001)) <|
  cSeq (cReg 28 (
   oSeq (oMv g001 s015) <|
   oSeq (oMv g015 s016) <|
   oSeq (oGuard g016 true s017 (oBuildSlice 3 1 [(.int .i64 0), (.int .i64 0)] 2 [((0, 1), (kc (.int .i64 (-1)))), ((1, 1), (kc (.int .i64 2)))] 2 s017)) <|
   oSeq (oGuard g016 true s020 (oCallF 22 (fun T => [g017 T]) s020)) <|
   oSeq (oGuard g016 true s021 (oBuildSlice 36 2 [.nilSl, (.bool false)] 1 [((0, 2), g020)] 4 s021)) <|
   oSeq (oGuard g016 true s022 (oBuildSlice 3 1 [(.int .i64 0), (.int .i64 0)] 2 [((0, 1), (kc (.int .i64 2))), ((1, 1), (kc (.int .i64 1)))] 5 s022)) <|
   oSeq (oGuard g016 true s023 (oCallF 5 (fun T => [(.int .u8 3), g022 T]) s023)) <|
   oSeq (oGuard g016 true s024 (oBuildSlice 29 2 [(.int .u8 0), .nilSl] 1 [((0, 2), g023)] 7 s024)) <|
   oSeq (oGuard g016 true s025 (oCallF 7 (fun T => [g021 T, g024 T]) s025)) <|
   oSeq (oP (vPick g016 g025 (kc (.bool false))) s026) <|
   oSeq (oMv g026 s027) <|
   oSeq (oGuard g027 true s030 (oBuildSlice 3 1 [(.int .i64 0), (.int .i64 0)] 2 [((0, 1), (kc (.int .i64 0))), ((1, 1), (kc (.int .i64 1)))] 11 s030)) <|
   oSeq (oGuard g027 true s031 (oCallF 8 (fun T => [g030 T]) s031)) <|
   oSeq (oGuard g027 true s032 (oBuildSlice 36 2 [.nilSl, (.bool false)] 1 [((0, 2), g031)] 13 s032)) <|
   oSeq (oGuard g027 true s033 (oBuildSlice 3 1 [(.int .i64 0), (.int .i64 0)] 2 [((0, 1), (kc (.int .i64 0))), ((1, 1), (kc (.int .i64 1)))] 14 s033)) <|
   oSeq (oGuard g027 true s034 (oCallF 5 (fun T => [(.int .u8 2), g033 T]) s034)) <|
   oSeq (oGuard g027 true s035 (oBuildSlice 3 1 [(.int .i64 0), (.int .i64 0)] 2 [((0, 1), (kc (.int .i64 1))), ((1, 1), (kc (.int .i64 0)))] 16 s035)) <|
   oSeq (oGuard g027 true s036 (oCallF 5 (fun T => [(.int .u8 3), g035 T]) s036)) <|
   oSeq (oGuard g027 true s037 (oBuildSlice 29 2 [(.int .u8 0), .nilSl, (.int .u8 0), .nilSl] 2 [((0, 2), g034), ((2, 2), g036)] 18 s037)) <|
   oSeq (oGuard g027 true s040 (oCallF 7 (fun T => [g032 T, g037 T]) s040)) <|
   oSeq (oP (vPick g027 g040 (kc (.bool false))) s041) <|
   oSeq (oMv g041 s042) <|
   oSeq (oGuard g042 true s043 (oBuildSlice 3 1 [(.int .i64 0), (.int .i64 0)] 2 [((0, 1), (kc (.int .i64 1))), ((1, 1), (kc (.int .i64 2)))] 22 s043)) <|
   oSeq (oGuard g042 true s044 (oCallF 15 (fun T => [g043 T]) s044)) <|
   oSeq (oGuard g042 true s045 (oP (vLen g044) s045)) <|
   oSeq (oGuard g042 true s046 (oP (vEql g045 (kc (.int .i64 2))) s046)) <|
   oSeq (oP (vPick g042 g046 (kc (.bool false))) s047) <|
   oMv g047 s000)) <|
  cExit 0⟩
end Go.Proofs.YtjenkjblcpinnabGreat.Ev
