/-
  The code of the law's functions, printed by program off the translation.
-/
import Derived.Test.YtjenkjblcpinnabGreatEvSlots
namespace Go.Proofs.YtjenkjblcpinnabGreat.Ev
open Go
set_option maxRecDepth 1000000
def afn160 : AFn := ⟨2, 21, [(4, none)],
  .seq (.region [
   ⟨(some 4), .mv (.c .nilSl), none⟩]) <|
  .seq (.seq (.region [
   ⟨(some 7), .mv (.t 1), none⟩,
   ⟨(some 8), .len (.t 7), none⟩,
   ⟨(some 9), .mv (.c (.int .i64 0)), none⟩]) <|
  .block 0 (.loop (.seq (.region [
     ⟨(some 10), .bin .lss .int (.t 9) (.t 8), none⟩]) <|
    .seq (.cond (.t 10)
     (.skip)
     (.exit 0)) <|
    .seq (.block 1 (.seq (.region [
      ⟨(some 11), .indexAddr 1 (.t 7) (.t 9), none⟩,
      ⟨(some 12), .load none (.t 11), none⟩,
      ⟨(some 6), .mv (.t 12), none⟩]) <|
     .region [
      ⟨(some 14), .mv (.t 0), none⟩,
      ⟨(some 15), .mv (.t 6), none⟩,
      ⟨(some 16), .call (.c (.fn (.func 136) [] [])) [(.t 14), (.t 15)], none⟩,
      ⟨(some 13), .mv (.t 16), none⟩,
      ⟨(some 17), .extract 0 (.t 13), none⟩,
      ⟨(some 18), .extract 1 (.t 13), none⟩,
      ⟨(some 0), .mv (.t 17), none⟩])) <|
    .region [
     ⟨(some 19), .bin .add .int (.t 9) (.c (.int .i64 1)), none⟩,
     ⟨(some 9), .mv (.t 19), none⟩]))) <|
  .seq (.region [
   ⟨(some 20), .mv (.t 0), none⟩,
   ⟨(some 4), .mv (.t 20), none⟩]) <|
  .ret, none⟩
noncomputable def ffn160 : FFn := ⟨2, 21, [(4, none)],
  cSeq (cReg 1 (
   oMv (kc .nilSl) s004)) <|
  cSeq (cSeq (cReg 3 (
   oSeq (oMv g001 s007) <|
   oSeq (oP (vLen g007) s010) <|
   oMv (kc (.int .i64 0)) s011)) <|
  cBlock 1 (cLoop 1000000 (cSeq (cReg 1 (
     oP (vLss g011 g010) s012)) <|
    cSeq (cCond g012
     (cSkip)
     (cExit 1)) <|
    cSeq (cBlock 3 (cSeq (cReg 3 (
      oSeq (oP (vIdx 1 g007 g011) s013) <|
      oSeq (oLoad g013 s014) <|
      oMv g014 s006)) <|
     cReg 7 (
      oSeq (oMv g000 s016) <|
      oSeq (oMv g006 s017) <|
      oSeq (oCallF 136 (fun T => [g016 T, g017 T]) s020) <|
      oSeq (oMv g020 s015) <|
      oSeq (oP (vExt 0 g015) s021) <|
      oSeq (oP (vExt 1 g015) s022) <|
      oMv g021 s000))) <|
    cReg 2 (
     oSeq (oP (vAdd g011 (kc (.int .i64 1))) s023) <|
     oMv g023 s011)))) <|
  cSeq (cReg 2 (
   oSeq (oMv g000 s024) <|
   oMv g024 s004)) <|
  cExit 0⟩
def afn136 : AFn := ⟨2, 26, [(4, none), (5, none)],
  .seq (.region [
   ⟨(some 4), .mv (.c .nilSl), none⟩,
   ⟨(some 5), .mv (.c (.int .i64 0)), none⟩]) <|
  .seq (.seq (.region [
   ⟨(some 9), .mv (.t 0), none⟩,
   ⟨(some 10), .mv (.t 1), none⟩,
   ⟨(some 11), .buildSlice 60 1 [.nilSl, .nilSl] 2 [((0, 1), (.t 9)), ((1, 1), (.t 10))], none⟩,
   ⟨(some 12), .call (.c (.fn (.func 141) [] [])) [(.t 11)], none⟩,
   ⟨(some 6), .mv (.t 12), none⟩]) <|
  .seq (.region [
   ⟨(some 13), .mv (.t 6), none⟩,
   ⟨(some 14), .bin .neq .int (.t 13) (.c (.int .i64 0)), none⟩]) <|
  .cond (.t 14)
   (.seq (.region [
    ⟨(some 15), .mv (.t 6), none⟩,
    ⟨(some 4), .mv (.c .nilSl), none⟩,
    ⟨(some 5), .mv (.t 15), none⟩]) <|
   .ret)
   (.skip)) <|
  .seq (.region [
   ⟨(some 17), .mv (.t 0), none⟩,
   ⟨(some 18), .mv (.t 1), none⟩,
   ⟨(some 19), .call (.c (.fn (.func 142) [] [])) [(.t 17), (.t 18), (.c (.fn (.func 144) [] []))], none⟩,
   ⟨(some 16), .mv (.t 19), none⟩,
   ⟨(some 20), .extract 0 (.t 16), none⟩,
   ⟨(some 21), .extract 1 (.t 16), none⟩,
   ⟨(some 7), .mv (.t 20), none⟩,
   ⟨(some 8), .mv (.t 21), none⟩]) <|
  .seq (.seq (.region [
   ⟨(some 22), .mv (.t 8), none⟩,
   ⟨(some 23), .bin .gtr .int (.t 22) (.c (.int .u64 0)), none⟩]) <|
  .cond (.t 23)
   (.seq (.region [
    ⟨(some 4), .mv (.c .nilSl), none⟩,
    ⟨(some 5), .mv (.c (.int .i64 10)), none⟩]) <|
   .ret)
   (.skip)) <|
  .seq (.region [
   ⟨(some 24), .mv (.t 7), none⟩,
   ⟨(some 25), .call (.c (.fn (.func 78) [] [])) [(.t 24)], none⟩,
   ⟨(some 4), .mv (.t 25), none⟩,
   ⟨(some 5), .mv (.c (.int .i64 0)), none⟩]) <|
  .ret, none⟩
noncomputable def ffn136 : FFn := ⟨2, 26, [(4, none), (5, none)],
  cSeq (cReg 2 (
   oSeq (oMv (kc .nilSl) s004) <|
   oMv (kc (.int .i64 0)) s005)) <|
  cSeq (cSeq (cReg 5 (
   oSeq (oMv g000 s011) <|
   oSeq (oMv g001 s012) <|
   oSeq (oBuildSlice 60 1 [.nilSl, .nilSl] 2 [((0, 1), g011), ((1, 1), g012)] 2 s013) <|
   oSeq (oCallF 141 (fun T => [g013 T]) s014) <|
   oMv g014 s006)) <|
  cSeq (cReg 2 (
   oSeq (oMv g006 s015) <|
   oP (vNeq g015 (kc (.int .i64 0))) s016)) <|
  cCond g016
   (cSeq (cReg 3 (
    oSeq (oMv g006 s017) <|
    oSeq (oMv (kc .nilSl) s004) <|
    oMv g017 s005)) <|
   cExit 0)
   (cSkip)) <|
  cSeq (cReg 8 (
   oSeq (oMv g000 s021) <|
   oSeq (oMv g001 s022) <|
   oSeq (oCallF 142 (fun T => [g021 T, g022 T, (.fn (.func 144) [] [])]) s023) <|
   oSeq (oMv g023 s020) <|
   oSeq (oP (vExt 0 g020) s024) <|
   oSeq (oP (vExt 1 g020) s025) <|
   oSeq (oMv g024 s007) <|
   oMv g025 s010)) <|
  cSeq (cSeq (cReg 2 (
   oSeq (oMv g010 s026) <|
   oP (vGtr g026 (kc (.int .u64 0))) s027)) <|
  cCond g027
   (cSeq (cReg 2 (
    oSeq (oMv (kc .nilSl) s004) <|
    oMv (kc (.int .i64 10)) s005)) <|
   cExit 0)
   (cSkip)) <|
  cSeq (cReg 4 (
   oSeq (oMv g007 s030) <|
   oSeq (oCallF 78 (fun T => [g030 T]) s031) <|
   oSeq (oMv g031 s004) <|
   oMv (kc (.int .i64 0)) s005)) <|
  cExit 0⟩
def afn144 : AFn := ⟨3, 3, [],
  .skip, (some .sub64)⟩
def afn162 : AFn := ⟨2, 12, [(4, none)],
  .seq (.region [
   ⟨(some 4), .mv (.c .nilSl), none⟩]) <|
  .seq (.seq (.region [
   ⟨(some 5), .mv (.t 0), none⟩,
   ⟨(some 6), .len (.t 5), none⟩,
   ⟨(some 7), .bin .eql .int (.t 6) (.c (.int .i64 0)), none⟩]) <|
  .cond (.t 7)
   (.seq (.region [
    ⟨(some 4), .mv (.c .nilSl), none⟩]) <|
   .ret)
   (.skip)) <|
  .seq (.region [
   ⟨(some 8), .mv (.t 1), none⟩,
   ⟨(some 9), .mksl 91 1 8 [(.int .u64 0)] (.t 8) (.t 8), none⟩,
   ⟨(some 10), .mv (.t 0), none⟩,
   ⟨(some 11), .append 1 8 91 [(.int .u64 0)] (.t 9) (.t 10), none⟩,
   ⟨(some 4), .mv (.t 11), none⟩]) <|
  .ret, none⟩
noncomputable def ffn162 : FFn := ⟨2, 12, [(4, none)],
  cSeq (cReg 1 (
   oMv (kc .nilSl) s004)) <|
  cSeq (cSeq (cReg 3 (
   oSeq (oMv g000 s005) <|
   oSeq (oP (vLen g005) s006) <|
   oP (vEql g006 (kc (.int .i64 0))) s007)) <|
  cCond g007
   (cSeq (cReg 1 (
    oMv (kc .nilSl) s004)) <|
   cExit 0)
   (cSkip)) <|
  cSeq (cReg 5 (
   oSeq (oMv g001 s010) <|
   oSeq (oGen (.mksl 91 1 8 [(.int .u64 0)] (.t 8) (.t 8)) 1 s011) <|
   oSeq (oMv g000 s012) <|
   oSeq (oGen (.append 1 8 91 [(.int .u64 0)] (.t 9) (.t 10)) 3 s013) <|
   oMv g013 s004)) <|
  cExit 0⟩
def afn145 : AFn := ⟨3, 27, [(6, none), (7, none)],
  .seq (.region [
   ⟨(some 6), .mv (.c .nilSl), none⟩,
   ⟨(some 7), .mv (.c (.int .i64 0)), none⟩]) <|
  .seq (.seq (.region [
   ⟨(some 11), .mv (.t 0), none⟩,
   ⟨(some 12), .mv (.t 1), none⟩,
   ⟨(some 13), .build [.nilSl, .nilSl] [((0, 1), (.t 11)), ((1, 1), (.t 12))], none⟩,
   ⟨(some 14), .mv (.c (.int .i64 0)), none⟩]) <|
  .block 0 (.loop (.seq (.region [
     ⟨(some 15), .bin .lss .int (.t 14) (.c (.int .i64 2)), none⟩]) <|
    .seq (.cond (.t 15)
     (.skip)
     (.exit 0)) <|
    .seq (.block 1 (.seq (.region [
      ⟨(some 16), .indexAgg 2 1 none (.t 13) (.t 14), none⟩,
      ⟨(some 9), .mv (.t 16), none⟩]) <|
     .seq (.region [
      ⟨(some 17), .mv (.t 9), none⟩,
      ⟨(some 18), .call (.c (.fn (.func 60) [] [])) [(.t 17)], none⟩,
      ⟨(some 10), .mv (.t 18), none⟩]) <|
     .seq (.region [
      ⟨(some 19), .mv (.t 10), none⟩,
      ⟨(some 20), .bin .neq .int (.t 19) (.c (.int .i64 0)), none⟩]) <|
     .cond (.t 20)
      (.seq (.region [
       ⟨(some 21), .mv (.t 10), none⟩,
       ⟨(some 6), .mv (.c .nilSl), none⟩,
       ⟨(some 7), .mv (.t 21), none⟩]) <|
      .ret)
      (.skip))) <|
    .region [
     ⟨(some 22), .bin .add .int (.t 14) (.c (.int .i64 1)), none⟩,
     ⟨(some 14), .mv (.t 22), none⟩]))) <|
  .seq (.region [
   ⟨(some 23), .mv (.t 2), none⟩,
   ⟨(some 24), .mv (.t 0), none⟩,
   ⟨(some 25), .mv (.t 1), none⟩,
   ⟨(some 26), .call (.t 23) [(.t 24), (.t 25)], none⟩,
   ⟨(some 6), .mv (.t 26), none⟩,
   ⟨(some 7), .mv (.c (.int .i64 0)), none⟩]) <|
  .ret, none⟩
noncomputable def ffn145 : FFn := ⟨3, 27, [(6, none), (7, none)],
  cSeq (cReg 2 (
   oSeq (oMv (kc .nilSl) s006) <|
   oMv (kc (.int .i64 0)) s007)) <|
  cSeq (cSeq (cReg 4 (
   oSeq (oMv g000 s013) <|
   oSeq (oMv g001 s014) <|
   oSeq (oP (vBuild [.nilSl, .nilSl] [((0, 1), g013), ((1, 1), g014)]) s015) <|
   oMv (kc (.int .i64 0)) s016)) <|
  cBlock 1 (cLoop 1000000 (cSeq (cReg 1 (
     oP (vLss g016 (kc (.int .i64 2))) s017)) <|
    cSeq (cCond g017
     (cSkip)
     (cExit 1)) <|
    cSeq (cBlock 3 (cSeq (cReg 2 (
      oSeq (oGen (.indexAgg 2 1 none (.t 13) (.t 14)) 0 s020) <|
      oMv g020 s011)) <|
     cSeq (cReg 3 (
      oSeq (oMv g011 s021) <|
      oSeq (oCallF 60 (fun T => [g021 T]) s022) <|
      oMv g022 s012)) <|
     cSeq (cReg 2 (
      oSeq (oMv g012 s023) <|
      oP (vNeq g023 (kc (.int .i64 0))) s024)) <|
     cCond g024
      (cSeq (cReg 3 (
       oSeq (oMv g012 s025) <|
       oSeq (oMv (kc .nilSl) s006) <|
       oMv g025 s007)) <|
      cExit 0)
      (cSkip))) <|
    cReg 2 (
     oSeq (oP (vAdd g016 (kc (.int .i64 1))) s026) <|
     oMv g026 s016)))) <|
  cSeq (cReg 6 (
   oSeq (oMv g002 s027) <|
   oSeq (oMv g000 s030) <|
   oSeq (oMv g001 s031) <|
   oSeq (oCall g027 (fun T => [g030 T, g031 T]) s032) <|
   oSeq (oMv g032 s006) <|
   oMv (kc (.int .i64 0)) s007)) <|
  cExit 0⟩
def afn106 : AFn := ⟨2, 14, [(4, (some (some 2)))],
  .seq (.region [
   ⟨(some 2), .box 62 (.t 0), none⟩,
   ⟨(some 3), .box 62 (.t 1), none⟩,
   ⟨(some 4), .alloc 62 [(.bool false), .nilSl], none⟩]) <|
  .seq (.region [
   ⟨(some 8), .load (some 2) (.t 2), none⟩,
   ⟨(some 9), .load (some 2) (.t 3), none⟩,
   ⟨(some 10), .call (.c (.fn (.func 126) [] [])) [(.t 8), (.t 9)], none⟩,
   ⟨(some 7), .mv (.t 10), none⟩,
   ⟨(some 11), .extract 0 (.t 7), none⟩,
   ⟨(some 12), .extract 1 (.t 7), none⟩,
   ⟨(some 5), .alloc 62 [(.bool false), .nilSl], none⟩,
   ⟨none, .store 2 (.t 5) (.t 11), none⟩,
   ⟨(some 6), .mv (.t 12), none⟩]) <|
  .seq (.region [
   ⟨(some 13), .load (some 2) (.t 5), none⟩,
   ⟨none, .store 2 (.t 4) (.t 13), none⟩]) <|
  .ret, none⟩
noncomputable def ffn106 : FFn := ⟨2, 14, [(4, (some (some 2)))],
  cSeq (cReg 3 (
   oSeq (oBox 62 g000 0 s002) <|
   oSeq (oBox 62 g001 1 s003) <|
   oAlloc 62 [(.bool false), .nilSl] 2 s004)) <|
  cSeq (cReg 9 (
   oSeq (oLoadN 2 g002 s010) <|
   oSeq (oLoadN 2 g003 s011) <|
   oSeq (oCallF 126 (fun T => [g010 T, g011 T]) s012) <|
   oSeq (oMv g012 s007) <|
   oSeq (oP (vExt 0 g007) s013) <|
   oSeq (oP (vExt 1 g007) s014) <|
   oSeq (oAlloc 62 [(.bool false), .nilSl] 6 s005) <|
   oSeq (oStoreN 2 g005 g013 noPut) <|
   oMv g014 s006)) <|
  cSeq (cReg 2 (
   oSeq (oLoadN 2 g005 s015) <|
   oStoreN 2 g004 g015 noPut)) <|
  cExit 0⟩
def afn126 : AFn := ⟨2, 18, [(4, (some (some 2))), (5, none)],
  .seq (.region [
   ⟨(some 2), .box 62 (.t 0), none⟩,
   ⟨(some 3), .box 62 (.t 1), none⟩,
   ⟨(some 4), .alloc 62 [(.bool false), .nilSl], none⟩,
   ⟨(some 5), .mv (.c (.int .i64 0)), none⟩]) <|
  .seq (.seq (.region [
   ⟨(some 7), .load (some 2) (.t 2), none⟩,
   ⟨(some 8), .load (some 2) (.t 3), none⟩,
   ⟨(some 9), .buildSlice 62 2 [(.bool false), .nilSl, (.bool false), .nilSl] 2 [((0, 2), (.t 7)), ((2, 2), (.t 8))], none⟩,
   ⟨(some 10), .call (.c (.fn (.func 124) [] [])) [(.t 9)], none⟩,
   ⟨(some 6), .mv (.t 10), none⟩]) <|
  .seq (.region [
   ⟨(some 11), .mv (.t 6), none⟩,
   ⟨(some 12), .bin .neq .int (.t 11) (.c (.int .i64 0)), none⟩]) <|
  .cond (.t 12)
   (.seq (.region [
    ⟨(some 13), .build [(.bool false), .nilSl] [], none⟩,
    ⟨(some 14), .mv (.t 6), none⟩,
    ⟨none, .store 2 (.t 4) (.t 13), none⟩,
    ⟨(some 5), .mv (.t 14), none⟩]) <|
   .ret)
   (.skip)) <|
  .seq (.region [
   ⟨(some 15), .load (some 2) (.t 2), none⟩,
   ⟨(some 16), .load (some 2) (.t 3), none⟩,
   ⟨(some 17), .call (.c (.fn (.func 125) [] [])) [(.t 15), (.t 16)], none⟩,
   ⟨none, .store 2 (.t 4) (.t 17), none⟩,
   ⟨(some 5), .mv (.c (.int .i64 0)), none⟩]) <|
  .ret, none⟩
noncomputable def ffn126 : FFn := ⟨2, 18, [(4, (some (some 2))), (5, none)],
  cSeq (cReg 4 (
   oSeq (oBox 62 g000 0 s002) <|
   oSeq (oBox 62 g001 1 s003) <|
   oSeq (oAlloc 62 [(.bool false), .nilSl] 2 s004) <|
   oMv (kc (.int .i64 0)) s005)) <|
  cSeq (cSeq (cReg 5 (
   oSeq (oLoadN 2 g002 s007) <|
   oSeq (oLoadN 2 g003 s010) <|
   oSeq (oBuildSlice 62 2 [(.bool false), .nilSl, (.bool false), .nilSl] 2 [((0, 2), g007), ((2, 2), g010)] 2 s011) <|
   oSeq (oCallF 124 (fun T => [g011 T]) s012) <|
   oMv g012 s006)) <|
  cSeq (cReg 2 (
   oSeq (oMv g006 s013) <|
   oP (vNeq g013 (kc (.int .i64 0))) s014)) <|
  cCond g014
   (cSeq (cReg 4 (
    oSeq (oP (vBuild [(.bool false), .nilSl] []) s015) <|
    oSeq (oMv g006 s016) <|
    oSeq (oStoreN 2 g004 g015 noPut) <|
    oMv g016 s005)) <|
   cExit 0)
   (cSkip)) <|
  cSeq (cReg 5 (
   oSeq (oLoadN 2 g002 s017) <|
   oSeq (oLoadN 2 g003 s020) <|
   oSeq (oCallF 125 (fun T => [g017 T, g020 T]) s021) <|
   oSeq (oStoreN 2 g004 g021 noPut) <|
   oMv (kc (.int .i64 0)) s005)) <|
  cExit 0⟩
def afn125 : AFn := ⟨2, 54, [(4, (some (some 2)))],
  .seq (.region [
   ⟨(some 2), .box 62 (.t 0), none⟩,
   ⟨(some 3), .box 62 (.t 1), none⟩,
   ⟨(some 4), .alloc 62 [(.bool false), .nilSl], none⟩]) <|
  .seq (.seq (.region [
   ⟨(some 11), .fieldAddr 0 (.t 2), none⟩,
   ⟨(some 12), .load none (.t 11), none⟩,
   ⟨(some 13), .fieldAddr 0 (.t 3), none⟩,
   ⟨(some 14), .load none (.t 13), none⟩,
   ⟨(some 15), .bin .eql .bool (.t 12) (.t 14), none⟩]) <|
  .cond (.t 15)
   (.seq (.region [
    ⟨(some 17), .fieldAddr 1 (.t 2), none⟩,
    ⟨(some 18), .load none (.t 17), none⟩,
    ⟨(some 19), .fieldAddr 1 (.t 3), none⟩,
    ⟨(some 20), .load none (.t 19), none⟩,
    ⟨(some 21), .call (.c (.fn (.func 135) [] [])) [(.t 18), (.t 20)], none⟩,
    ⟨(some 16), .mv (.t 21), none⟩,
    ⟨(some 22), .extract 0 (.t 16), none⟩,
    ⟨(some 23), .extract 1 (.t 16), none⟩,
    ⟨(some 5), .mv (.t 22), none⟩,
    ⟨(some 6), .mv (.t 23), none⟩]) <|
   .seq (.region [
    ⟨(some 24), .fieldAddr 0 (.t 2), none⟩,
    ⟨(some 25), .load none (.t 24), none⟩,
    ⟨(some 26), .mv (.t 5), none⟩,
    ⟨(some 27), .call (.c (.fn (.func 54) [] [])) [(.t 25), (.t 26)], none⟩,
    ⟨none, .store 2 (.t 4) (.t 27), none⟩]) <|
   .ret)
   (.skip)) <|
  .seq (.seq (.region [
   ⟨(some 29), .fieldAddr 1 (.t 2), none⟩,
   ⟨(some 30), .load none (.t 29), none⟩,
   ⟨(some 31), .fieldAddr 1 (.t 3), none⟩,
   ⟨(some 32), .load none (.t 31), none⟩,
   ⟨(some 33), .call (.c (.fn (.func 136) [] [])) [(.t 30), (.t 32)], none⟩,
   ⟨(some 28), .mv (.t 33), none⟩,
   ⟨(some 34), .extract 0 (.t 28), none⟩,
   ⟨(some 35), .extract 1 (.t 28), none⟩,
   ⟨(some 7), .mv (.t 34), none⟩,
   ⟨(some 8), .mv (.t 35), none⟩]) <|
  .seq (.region [
   ⟨(some 36), .mv (.t 8), none⟩,
   ⟨(some 37), .bin .eql .int (.t 36) (.c (.int .i64 0)), none⟩]) <|
  .cond (.t 37)
   (.seq (.region [
    ⟨(some 38), .fieldAddr 0 (.t 2), none⟩,
    ⟨(some 39), .load none (.t 38), none⟩,
    ⟨(some 40), .mv (.t 7), none⟩,
    ⟨(some 41), .call (.c (.fn (.func 54) [] [])) [(.t 39), (.t 40)], none⟩,
    ⟨none, .store 2 (.t 4) (.t 41), none⟩]) <|
   .ret)
   (.skip)) <|
  .seq (.region [
   ⟨(some 43), .fieldAddr 1 (.t 3), none⟩,
   ⟨(some 44), .load none (.t 43), none⟩,
   ⟨(some 45), .fieldAddr 1 (.t 2), none⟩,
   ⟨(some 46), .load none (.t 45), none⟩,
   ⟨(some 47), .call (.c (.fn (.func 136) [] [])) [(.t 44), (.t 46)], none⟩,
   ⟨(some 42), .mv (.t 47), none⟩,
   ⟨(some 48), .extract 0 (.t 42), none⟩,
   ⟨(some 49), .extract 1 (.t 42), none⟩,
   ⟨(some 9), .mv (.t 48), none⟩,
   ⟨(some 10), .mv (.t 49), none⟩]) <|
  .seq (.region [
   ⟨(some 50), .fieldAddr 0 (.t 3), none⟩,
   ⟨(some 51), .load none (.t 50), none⟩,
   ⟨(some 52), .mv (.t 9), none⟩,
   ⟨(some 53), .call (.c (.fn (.func 54) [] [])) [(.t 51), (.t 52)], none⟩,
   ⟨none, .store 2 (.t 4) (.t 53), none⟩]) <|
  .ret, none⟩
noncomputable def ffn125 : FFn := ⟨2, 54, [(4, (some (some 2)))],
  cSeq (cReg 3 (
   oSeq (oBox 62 g000 0 s002) <|
   oSeq (oBox 62 g001 1 s003) <|
   oAlloc 62 [(.bool false), .nilSl] 2 s004)) <|
  cSeq (cSeq (cReg 5 (
   oSeq (oP (vFA 0 g002) s013) <|
   oSeq (oLoad g013 s014) <|
   oSeq (oP (vFA 0 g003) s015) <|
   oSeq (oLoad g015 s016) <|
   oGen (.bin .eql .bool (.t 12) (.t 14)) 4 s017)) <|
  cCond g017
   (cSeq (cReg 10 (
    oSeq (oP (vFA 1 g002) s021) <|
    oSeq (oLoad g021 s022) <|
    oSeq (oP (vFA 1 g003) s023) <|
    oSeq (oLoad g023 s024) <|
    oSeq (oCallF 135 (fun T => [g022 T, g024 T]) s025) <|
    oSeq (oMv g025 s020) <|
    oSeq (oP (vExt 0 g020) s026) <|
    oSeq (oP (vExt 1 g020) s027) <|
    oSeq (oMv g026 s005) <|
    oMv g027 s006)) <|
   cSeq (cReg 5 (
    oSeq (oP (vFA 0 g002) s030) <|
    oSeq (oLoad g030 s031) <|
    oSeq (oMv g005 s032) <|
    oSeq (oCallF 54 (fun T => [g031 T, g032 T]) s033) <|
    oStoreN 2 g004 g033 noPut)) <|
   cExit 0)
   (cSkip)) <|
  cSeq (cSeq (cReg 10 (
   oSeq (oP (vFA 1 g002) s035) <|
   oSeq (oLoad g035 s036) <|
   oSeq (oP (vFA 1 g003) s037) <|
   oSeq (oLoad g037 s040) <|
   oSeq (oCallF 136 (fun T => [g036 T, g040 T]) s041) <|
   oSeq (oMv g041 s034) <|
   oSeq (oP (vExt 0 g034) s042) <|
   oSeq (oP (vExt 1 g034) s043) <|
   oSeq (oMv g042 s007) <|
   oMv g043 s010)) <|
  cSeq (cReg 2 (
   oSeq (oMv g010 s044) <|
   oP (vEql g044 (kc (.int .i64 0))) s045)) <|
  cCond g045
   (cSeq (cReg 5 (
    oSeq (oP (vFA 0 g002) s046) <|
    oSeq (oLoad g046 s047) <|
    oSeq (oMv g007 s050) <|
    oSeq (oCallF 54 (fun T => [g047 T, g050 T]) s051) <|
    oStoreN 2 g004 g051 noPut)) <|
   cExit 0)
   (cSkip)) <|
  cSeq (cReg 10 (
   oSeq (oP (vFA 1 g003) s053) <|
   oSeq (oLoad g053 s054) <|
   oSeq (oP (vFA 1 g002) s055) <|
   oSeq (oLoad g055 s056) <|
   oSeq (oCallF 136 (fun T => [g054 T, g056 T]) s057) <|
   oSeq (oMv g057 s052) <|
   oSeq (oP (vExt 0 g052) s060) <|
   oSeq (oP (vExt 1 g052) s061) <|
   oSeq (oMv g060 s011) <|
   oMv g061 s012)) <|
  cSeq (cReg 5 (
   oSeq (oP (vFA 0 g003) s062) <|
   oSeq (oLoad g062 s063) <|
   oSeq (oMv g011 s064) <|
   oSeq (oCallF 54 (fun T => [g063 T, g064 T]) s065) <|
   oStoreN 2 g004 g065 noPut)) <|
  cExit 0⟩
def afn64 : AFn := ⟨1, 11, [(2, none)],
  .seq (.region [
   ⟨(some 1), .box 62 (.t 0), none⟩,
   ⟨(some 2), .mv (.c (.int .i64 0)), none⟩]) <|
  .seq (.region [
   ⟨(some 6), .load (some 2) (.t 1), none⟩,
   ⟨(some 7), .call (.c (.fn (.func 42) [] [])) [(.t 6)], none⟩,
   ⟨(some 5), .mv (.t 7), none⟩,
   ⟨(some 8), .extract 0 (.t 5), none⟩,
   ⟨(some 9), .extract 1 (.t 5), none⟩,
   ⟨(some 3), .mv (.t 8), none⟩,
   ⟨(some 4), .mv (.t 9), none⟩]) <|
  .seq (.region [
   ⟨(some 10), .mv (.t 3), none⟩,
   ⟨(some 2), .mv (.t 10), none⟩]) <|
  .ret, none⟩
noncomputable def ffn64 : FFn := ⟨1, 11, [(2, none)],
  cSeq (cReg 2 (
   oSeq (oBox 62 g000 0 s001) <|
   oMv (kc (.int .i64 0)) s002)) <|
  cSeq (cReg 7 (
   oSeq (oLoadN 2 g001 s006) <|
   oSeq (oCallF 42 (fun T => [g006 T]) s007) <|
   oSeq (oMv g007 s005) <|
   oSeq (oP (vExt 0 g005) s010) <|
   oSeq (oP (vExt 1 g005) s011) <|
   oSeq (oMv g010 s003) <|
   oMv g011 s004)) <|
  cSeq (cReg 2 (
   oSeq (oMv g003 s012) <|
   oMv g012 s002)) <|
  cExit 0⟩
def afn57 : AFn := ⟨2, 19, [(4, none)],
  .seq (.region [
   ⟨(some 4), .mv (.c (.int .i64 0)), none⟩]) <|
  .seq (.seq (.region [
   ⟨(some 6), .mv (.t 0), none⟩,
   ⟨(some 7), .len (.t 6), none⟩,
   ⟨(some 8), .mv (.c (.int .i64 0)), none⟩]) <|
  .block 0 (.loop (.seq (.region [
     ⟨(some 9), .bin .lss .int (.t 8) (.t 7), none⟩]) <|
    .seq (.cond (.t 9)
     (.skip)
     (.exit 0)) <|
    .seq (.block 1 (.seq (.region [
      ⟨(some 10), .mv (.t 8), none⟩,
      ⟨(some 5), .mv (.t 10), none⟩]) <|
     .seq (.region [
      ⟨(some 11), .mv (.t 1), none⟩,
      ⟨(some 12), .mv (.t 0), none⟩,
      ⟨(some 13), .mv (.t 5), none⟩,
      ⟨(some 14), .indexAddr 1 (.t 12) (.t 13), none⟩,
      ⟨(some 15), .load none (.t 14), none⟩,
      ⟨(some 16), .call (.t 11) [(.t 15)], none⟩]) <|
     .cond (.t 16)
      (.seq (.region [
       ⟨(some 17), .mv (.t 5), none⟩,
       ⟨(some 4), .mv (.t 17), none⟩]) <|
      .ret)
      (.skip))) <|
    .region [
     ⟨(some 18), .bin .add .int (.t 8) (.c (.int .i64 1)), none⟩,
     ⟨(some 8), .mv (.t 18), none⟩]))) <|
  .seq (.region [
   ⟨(some 4), .mv (.c (.int .i64 (-1))), none⟩]) <|
  .ret, none⟩
noncomputable def ffn57 : FFn := ⟨2, 19, [(4, none)],
  cSeq (cReg 1 (
   oMv (kc (.int .i64 0)) s004)) <|
  cSeq (cSeq (cReg 3 (
   oSeq (oMv g000 s006) <|
   oSeq (oP (vLen g006) s007) <|
   oMv (kc (.int .i64 0)) s010)) <|
  cBlock 1 (cLoop 1000000 (cSeq (cReg 1 (
     oP (vLss g010 g007) s011)) <|
    cSeq (cCond g011
     (cSkip)
     (cExit 1)) <|
    cSeq (cBlock 3 (cSeq (cReg 2 (
      oSeq (oMv g010 s012) <|
      oMv g012 s005)) <|
     cSeq (cReg 6 (
      oSeq (oMv g001 s013) <|
      oSeq (oMv g000 s014) <|
      oSeq (oMv g005 s015) <|
      oSeq (oP (vIdx 1 g014 g015) s016) <|
      oSeq (oLoad g016 s017) <|
      oCall g013 (fun T => [g017 T]) s020)) <|
     cCond g020
      (cSeq (cReg 2 (
       oSeq (oMv g005 s021) <|
       oMv g021 s004)) <|
      cExit 0)
      (cSkip))) <|
    cReg 2 (
     oSeq (oP (vAdd g010 (kc (.int .i64 1))) s022) <|
     oMv g022 s010)))) <|
  cSeq (cReg 1 (
   oMv (kc (.int .i64 (-1))) s004)) <|
  cExit 0⟩
def afn66 : AFn := ⟨3, 135, [],
  .seq (.region [
   ⟨(some 19), .mkmap, none⟩,
   ⟨(some 6), .mv (.t 19), none⟩]) <|
  .seq (.region [
   ⟨(some 7), .mv (.c .nilSl), none⟩]) <|
  .seq (.region [
   ⟨(some 8), .mv (.c .nilSl), none⟩]) <|
  .seq (.seq (.region [
   ⟨(some 20), .mv (.t 0), none⟩,
   ⟨(some 21), .nilCheck (.t 20), none⟩,
   ⟨(some 22), .fieldAddr 1 (.t 21), none⟩,
   ⟨(some 23), .load none (.t 22), none⟩,
   ⟨(some 24), .len (.t 23), none⟩,
   ⟨(some 25), .mv (.c (.int .i64 0)), none⟩]) <|
  .block 0 (.loop (.seq (.region [
     ⟨(some 26), .bin .lss .int (.t 25) (.t 24), none⟩]) <|
    .seq (.cond (.t 26)
     (.skip)
     (.exit 0)) <|
    .seq (.block 1 (.seq (.region [
      ⟨(some 27), .mv (.t 25), none⟩,
      ⟨(some 28), .indexAddr 1 (.t 23) (.t 25), none⟩,
      ⟨(some 29), .load none (.t 28), none⟩,
      ⟨(some 9), .mv (.t 27), none⟩,
      ⟨(some 10), .mv (.t 29), none⟩]) <|
     .seq (.region [
      ⟨(some 30), .mv (.t 1), none⟩,
      ⟨(some 31), .mv (.t 10), none⟩,
      ⟨(some 32), .call (.c (.fn (.func 65) [] [])) [(.t 30), (.t 31)], none⟩,
      ⟨(some 11), .alloc 62 [(.bool false), .nilSl], none⟩,
      ⟨none, .store 2 (.t 11) (.t 32), none⟩]) <|
     .seq (.region [
      ⟨(some 33), .mv (.t 8), none⟩,
      ⟨(some 34), .load (some 2) (.t 11), none⟩,
      ⟨(some 35), .buildSlice 62 2 [(.bool false), .nilSl] 1 [((0, 2), (.t 34))], none⟩,
      ⟨(some 36), .append 2 32 62 [(.bool false), .nilSl] (.t 33) (.t 35), none⟩,
      ⟨(some 37), .mv (.t 7), none⟩,
      ⟨(some 38), .mv (.t 0), none⟩,
      ⟨(some 39), .mv (.t 10), none⟩,
      ⟨(some 40), .call (.c (.fn (.func 80) [] [])) [(.t 38), (.t 39)], none⟩,
      ⟨(some 41), .buildSlice 59 1 [.nilSl] 1 [((0, 1), (.t 40))], none⟩,
      ⟨(some 42), .append 1 24 59 [.nilSl] (.t 37) (.t 41), none⟩,
      ⟨(some 8), .mv (.t 36), none⟩,
      ⟨(some 7), .mv (.t 42), none⟩]) <|
     .draw [
      ⟨(some 43), .mv (.t 6), none, [(6, none)], 0, [(0, []), (1, []), (2, []), (3, [])]⟩,
      ⟨(some 44), .load (some 2) (.t 11), none, [(11, none)], 0, [(0, [])]⟩,
      ⟨(some 45), .call (.c (.fn (.func 64) [] [])) [(.t 44)], none, [(44, (some 1))], 2, [(0, [])]⟩,
      ⟨(some 46), .mv (.t 6), none, [(6, none)], 0, [(0, []), (1, []), (2, [])]⟩,
      ⟨(some 47), .load (some 2) (.t 11), none, [(11, none)], 0, [(0, []), (1, [])]⟩,
      ⟨(some 48), .call (.c (.fn (.func 64) [] [])) [(.t 47)], none, [(47, (some 4))], 2, [(1, [])]⟩,
      ⟨(some 49), .lookup .int .nilSl (.t 46) (.t 48) false, none, [(46, (some 3)), (48, (some 5))], 0, [(2, [])]⟩,
      ⟨(some 50), .mv (.t 9), none, [(9, none)], 0, [(0, []), (1, []), (2, [])]⟩,
      ⟨(some 51), .buildSlice 3 1 [(.int .i64 0)] 1 [((0, 1), (.t 50))], none, [(50, (some 7))], 1, [(0, []), (1, []), (2, [])]⟩,
      ⟨(some 52), .append 1 8 3 [(.int .i64 0)] (.t 49) (.t 51), none, [(49, (some 6)), (51, (some 8))], 2, [(2, [8])]⟩,
      ⟨none, .mapUpd .int (.t 43) (.t 45) (.t 52), none, [(43, (some 0)), (45, (some 2)), (52, (some 9))], 2, [(3, [])]⟩] [])) <|
    .region [
     ⟨(some 53), .bin .add .int (.t 25) (.c (.int .i64 1)), none⟩,
     ⟨(some 25), .mv (.t 53), none⟩]))) <|
  .seq (.region [
   ⟨(some 12), .mv (.c .nilSl), none⟩]) <|
  .seq (.seq (.region [
   ⟨(some 54), .mv (.t 6), none⟩,
   ⟨(some 55), .lookup .int .nilSl (.t 54) (.c (.int .i64 0)) false, none⟩,
   ⟨(some 56), .len (.t 55), none⟩,
   ⟨(some 57), .mv (.c (.int .i64 0)), none⟩]) <|
  .block 2 (.loop (.seq (.region [
     ⟨(some 58), .bin .lss .int (.t 57) (.t 56), none⟩]) <|
    .seq (.cond (.t 58)
     (.skip)
     (.exit 2)) <|
    .seq (.block 3 (.seq (.region [
      ⟨(some 59), .indexAddr 1 (.t 55) (.t 57), none⟩,
      ⟨(some 60), .load none (.t 59), none⟩,
      ⟨(some 14), .mv (.t 60), none⟩]) <|
     .region [
      ⟨(some 61), .mv (.t 12), none⟩,
      ⟨(some 62), .mv (.t 0), none⟩,
      ⟨(some 63), .nilCheck (.t 62), none⟩,
      ⟨(some 64), .fieldAddr 1 (.t 63), none⟩,
      ⟨(some 65), .load none (.t 64), none⟩,
      ⟨(some 66), .mv (.t 14), none⟩,
      ⟨(some 67), .indexAddr 1 (.t 65) (.t 66), none⟩,
      ⟨(some 68), .load none (.t 67), none⟩,
      ⟨(some 69), .buildSlice 27 1 [.nilSl] 1 [((0, 1), (.t 68))], none⟩,
      ⟨(some 70), .append 1 24 27 [.nilSl] (.t 61) (.t 69), none⟩,
      ⟨(some 12), .mv (.t 70), none⟩])) <|
    .region [
     ⟨(some 71), .bin .add .int (.t 57) (.c (.int .i64 1)), none⟩,
     ⟨(some 57), .mv (.t 71), none⟩]))) <|
  .seq (.seq (.region [
   ⟨(some 72), .mv (.t 6), none⟩,
   ⟨(some 73), .lookup .int .nilSl (.t 72) (.c (.int .i64 1)) false, none⟩,
   ⟨(some 74), .len (.t 73), none⟩,
   ⟨(some 75), .mv (.c (.int .i64 0)), none⟩]) <|
  .block 4 (.loop (.seq (.region [
     ⟨(some 76), .bin .lss .int (.t 75) (.t 74), none⟩]) <|
    .seq (.cond (.t 76)
     (.skip)
     (.exit 4)) <|
    .seq (.block 5 (.seq (.region [
      ⟨(some 77), .indexAddr 1 (.t 73) (.t 75), none⟩,
      ⟨(some 78), .load none (.t 77), none⟩,
      ⟨(some 16), .mv (.t 78), none⟩]) <|
     .seq (.seq (.region [
      ⟨(some 79), .mv (.t 2), none⟩,
      ⟨(some 80), .un .not (.t 79), none⟩]) <|
     .cond (.t 80)
      (.region [
       ⟨(some 81), .mv (.t 12), none⟩,
       ⟨(some 82), .mv (.t 0), none⟩,
       ⟨(some 83), .nilCheck (.t 82), none⟩,
       ⟨(some 84), .fieldAddr 1 (.t 83), none⟩,
       ⟨(some 85), .load none (.t 84), none⟩,
       ⟨(some 86), .mv (.t 16), none⟩,
       ⟨(some 87), .indexAddr 1 (.t 85) (.t 86), none⟩,
       ⟨(some 88), .load none (.t 87), none⟩,
       ⟨(some 89), .buildSlice 27 1 [.nilSl] 1 [((0, 1), (.t 88))], none⟩,
       ⟨(some 90), .append 1 24 27 [.nilSl] (.t 81) (.t 89), none⟩,
       ⟨(some 12), .mv (.t 90), none⟩])
      (.skip)) <|
     .seq (.region [
      ⟨(some 91), .mv (.t 6), none⟩,
      ⟨(some 92), .lookup .int .nilSl (.t 91) (.c (.int .i64 (-1))) false, none⟩,
      ⟨(some 93), .len (.t 92), none⟩,
      ⟨(some 94), .mv (.c (.int .i64 0)), none⟩]) <|
     .block 6 (.loop (.seq (.region [
        ⟨(some 95), .bin .lss .int (.t 94) (.t 93), none⟩]) <|
       .seq (.cond (.t 95)
        (.skip)
        (.exit 6)) <|
       .seq (.block 7 (.seq (.region [
         ⟨(some 96), .indexAddr 1 (.t 92) (.t 94), none⟩,
         ⟨(some 97), .load none (.t 96), none⟩,
         ⟨(some 18), .mv (.t 97), none⟩]) <|
        .seq (.region [
         ⟨(some 98), .mv (.t 7), none⟩,
         ⟨(some 99), .mv (.t 16), none⟩,
         ⟨(some 100), .mv (.t 18), none⟩,
         ⟨(some 101), .call (.c (.fn (.func 81) [] [])) [(.t 98), (.t 99), (.t 100)], none⟩]) <|
        .cond (.t 101)
         (.draw [
          ⟨(some 102), .mv (.t 12), none, [(12, none)], 0, [(0, []), (1, []), (2, [])]⟩,
          ⟨(some 103), .mv (.t 8), none, [(8, none)], 0, [(0, [])]⟩,
          ⟨(some 104), .mv (.t 18), none, [(18, none)], 0, [(0, [])]⟩,
          ⟨(some 105), .indexAddr 2 (.t 103) (.t 104), none, [(103, (some 1)), (104, (some 2))], 0, [(0, [])]⟩,
          ⟨(some 106), .load (some 2) (.t 105), none, [(105, (some 3))], 0, [(0, [])]⟩,
          ⟨(some 107), .call (.c (.fn (.func 83) [] [])) [(.t 106)], none, [(106, (some 4))], 2, [(0, [])]⟩,
          ⟨(some 108), .mv (.t 0), none, [(0, none)], 0, [(0, []), (1, [])]⟩,
          ⟨(some 109), .nilCheck (.t 108), none, [(108, (some 6))], 0, [(0, []), (1, [])]⟩,
          ⟨(some 110), .fieldAddr 1 (.t 109), none, [(109, (some 7))], 0, [(0, []), (1, [])]⟩,
          ⟨(some 111), .load none (.t 110), none, [(110, (some 8))], 0, [(0, []), (1, [])]⟩,
          ⟨(some 112), .mv (.t 16), none, [(16, none)], 0, [(0, []), (1, [])]⟩,
          ⟨(some 113), .indexAddr 1 (.t 111) (.t 112), none, [(111, (some 9)), (112, (some 10))], 0, [(0, []), (1, [])]⟩,
          ⟨(some 114), .load none (.t 113), none, [(113, (some 11))], 0, [(0, []), (1, [])]⟩,
          ⟨(some 115), .mv (.t 8), none, [(8, none)], 0, [(0, []), (1, [])]⟩,
          ⟨(some 116), .mv (.t 16), none, [(16, none)], 0, [(0, []), (1, [])]⟩,
          ⟨(some 117), .indexAddr 2 (.t 115) (.t 116), none, [(115, (some 13)), (116, (some 14))], 0, [(0, []), (1, [])]⟩,
          ⟨(some 118), .load (some 2) (.t 117), none, [(117, (some 15))], 0, [(0, []), (1, [])]⟩,
          ⟨(some 119), .mv (.t 0), none, [(0, none)], 0, [(0, []), (1, [])]⟩,
          ⟨(some 120), .nilCheck (.t 119), none, [(119, (some 17))], 0, [(0, []), (1, [])]⟩,
          ⟨(some 121), .fieldAddr 1 (.t 120), none, [(120, (some 18))], 0, [(0, []), (1, [])]⟩,
          ⟨(some 122), .load none (.t 121), none, [(121, (some 19))], 0, [(0, []), (1, [])]⟩,
          ⟨(some 123), .mv (.t 18), none, [(18, none)], 0, [(0, []), (1, [])]⟩,
          ⟨(some 124), .indexAddr 1 (.t 122) (.t 123), none, [(122, (some 20)), (123, (some 21))], 0, [(0, []), (1, [])]⟩,
          ⟨(some 125), .load none (.t 124), none, [(124, (some 22))], 0, [(0, []), (1, [])]⟩,
          ⟨(some 126), .call (.c (.fn (.func 82) [] [])) [(.t 107), (.t 114), (.t 118), (.t 125)], none, [(107, (some 5)), (114, (some 12)), (118, (some 16)), (125, (some 23))], 2, [(1, [])]⟩,
          ⟨(some 127), .buildSlice 27 1 [.nilSl] 1 [((0, 1), (.t 126))], none, [(126, (some 24))], 1, [(2, [])]⟩,
          ⟨(some 128), .append 1 24 27 [.nilSl] (.t 102) (.t 127), none, [(102, (some 0)), (127, (some 25))], 2, [(2, [25])]⟩,
          ⟨(some 12), .mv (.t 128), none, [(128, (some 26))], 0, [(3, [])]⟩] [])
         (.skip))) <|
       .region [
        ⟨(some 129), .bin .add .int (.t 94) (.c (.int .i64 1)), none⟩,
        ⟨(some 94), .mv (.t 129), none⟩])))) <|
    .region [
     ⟨(some 130), .bin .add .int (.t 75) (.c (.int .i64 1)), none⟩,
     ⟨(some 75), .mv (.t 130), none⟩]))) <|
  .region [
   ⟨(some 131), .mv (.t 0), none⟩,
   ⟨(some 132), .mv (.t 12), none⟩,
   ⟨(some 133), .nilCheck (.t 131), none⟩,
   ⟨(some 134), .fieldAddr 1 (.t 133), none⟩,
   ⟨none, .store 1 (.t 134) (.t 132), none⟩], none⟩
noncomputable def ffn66 : FFn := ⟨3, 135, [],
  cSeq (cReg 2 (
   oSeq (oGen (.mkmap) 0 s023) <|
   oMv g023 s006)) <|
  cSeq (cReg 1 (
   oMv (kc .nilSl) s007)) <|
  cSeq (cReg 1 (
   oMv (kc .nilSl) s010)) <|
  cSeq (cSeq (cReg 6 (
   oSeq (oMv g000 s024) <|
   oSeq (oGen (.nilCheck (.t 20)) 1 s025) <|
   oSeq (oP (vFA 1 g025) s026) <|
   oSeq (oLoad g026 s027) <|
   oSeq (oP (vLen g027) s030) <|
   oMv (kc (.int .i64 0)) s031)) <|
  cBlock 1 (cLoop 1000000 (cSeq (cReg 1 (
     oP (vLss g031 g030) s032)) <|
    cSeq (cCond g032
     (cSkip)
     (cExit 1)) <|
    cSeq (cBlock 3 (cSeq (cReg 5 (
      oSeq (oMv g031 s033) <|
      oSeq (oP (vIdx 1 g027 g031) s034) <|
      oSeq (oLoad g034 s035) <|
      oSeq (oMv g033 s011) <|
      oMv g035 s012)) <|
     cSeq (cReg 5 (
      oSeq (oMv g001 s036) <|
      oSeq (oMv g012 s037) <|
      oSeq (oCallF 65 (fun T => [g036 T, g037 T]) s040) <|
      oSeq (oAlloc 62 [(.bool false), .nilSl] 3 s013) <|
      oStoreN 2 g013 g040 noPut)) <|
     cSeq (cReg 12 (
      oSeq (oMv g010 s041) <|
      oSeq (oLoadN 2 g013 s042) <|
      oSeq (oBuildSlice 62 2 [(.bool false), .nilSl] 1 [((0, 2), g042)] 2 s043) <|
      oSeq (oGen (.append 2 32 62 [(.bool false), .nilSl] (.t 33) (.t 35)) 3 s044) <|
      oSeq (oMv g007 s045) <|
      oSeq (oMv g000 s046) <|
      oSeq (oMv g012 s047) <|
      oSeq (oCallF 80 (fun T => [g046 T, g047 T]) s050) <|
      oSeq (oBuildSlice 59 1 [.nilSl] 1 [((0, 1), g050)] 8 s051) <|
      oSeq (oGen (.append 1 24 59 [.nilSl] (.t 37) (.t 41)) 9 s052) <|
      oSeq (oMv g044 s010) <|
      oMv g052 s007)) <|
     cDrw 11 (
      dSeq (dLook 0 [] (oMv g006 s053)) <|
      dSeq (dLook 0 [] (oLoadN 2 g013 s054)) <|
      dSeq (dAct 0 [] (oCallF 64 (fun T => [g054 T]) s055)) <|
      dSeq (dLook 0 [] (oMv g006 s056)) <|
      dSeq (dLook 1 [] (oLoadN 2 g013 s057)) <|
      dSeq (dAct 0 [] (oCallF 64 (fun T => [g057 T]) s060)) <|
      dSeq (dLook 0 [] (oGen (.lookup .int .nilSl (.t 46) (.t 48) false) 6 s061)) <|
      dSeq (dLook 0 [] (oMv g011 s062)) <|
      dSeq (dMake 8 (oBuildSlice 3 1 [(.int .i64 0)] 1 [((0, 1), g062)] 8 s063)) <|
      dSeq (dAct 0 [(8, 0)] (oGen (.append 1 8 3 [(.int .i64 0)] (.t 49) (.t 51)) 9 s064)) <|
      dSeq (dAct 0 [] (oGen (.mapUpd .int (.t 43) (.t 45) (.t 52)) 10 noPut)) <|
      dNop)
      (ckSeq (ckOne g057 3 [] (oLoadN 2 g013 s057)) <|
     ckNop) [])) <|
    cReg 2 (
     oSeq (oP (vAdd g031 (kc (.int .i64 1))) s065) <|
     oMv g065 s031)))) <|
  cSeq (cReg 1 (
   oMv (kc .nilSl) s014)) <|
  cSeq (cSeq (cReg 4 (
   oSeq (oMv g006 s066) <|
   oSeq (oGen (.lookup .int .nilSl (.t 54) (.c (.int .i64 0)) false) 1 s067) <|
   oSeq (oP (vLen g067) s070) <|
   oMv (kc (.int .i64 0)) s071)) <|
  cBlock 5 (cLoop 1000000 (cSeq (cReg 1 (
     oP (vLss g071 g070) s072)) <|
    cSeq (cCond g072
     (cSkip)
     (cExit 5)) <|
    cSeq (cBlock 7 (cSeq (cReg 3 (
      oSeq (oP (vIdx 1 g067 g071) s073) <|
      oSeq (oLoad g073 s074) <|
      oMv g074 s016)) <|
     cReg 11 (
      oSeq (oMv g014 s075) <|
      oSeq (oMv g000 s076) <|
      oSeq (oGen (.nilCheck (.t 62)) 2 s077) <|
      oSeq (oP (vFA 1 g077) s100) <|
      oSeq (oLoad g100 s101) <|
      oSeq (oMv g016 s102) <|
      oSeq (oP (vIdx 1 g101 g102) s103) <|
      oSeq (oLoad g103 s104) <|
      oSeq (oBuildSlice 27 1 [.nilSl] 1 [((0, 1), g104)] 8 s105) <|
      oSeq (oGen (.append 1 24 27 [.nilSl] (.t 61) (.t 69)) 9 s106) <|
      oMv g106 s014))) <|
    cReg 2 (
     oSeq (oP (vAdd g071 (kc (.int .i64 1))) s107) <|
     oMv g107 s071)))) <|
  cSeq (cSeq (cReg 4 (
   oSeq (oMv g006 s110) <|
   oSeq (oGen (.lookup .int .nilSl (.t 72) (.c (.int .i64 1)) false) 1 s111) <|
   oSeq (oP (vLen g111) s112) <|
   oMv (kc (.int .i64 0)) s113)) <|
  cBlock 9 (cLoop 1000000 (cSeq (cReg 1 (
     oP (vLss g113 g112) s114)) <|
    cSeq (cCond g114
     (cSkip)
     (cExit 9)) <|
    cSeq (cBlock 11 (cSeq (cReg 3 (
      oSeq (oP (vIdx 1 g111 g113) s115) <|
      oSeq (oLoad g115 s116) <|
      oMv g116 s020)) <|
     cSeq (cSeq (cReg 2 (
      oSeq (oMv g002 s117) <|
      oGen (.un .not (.t 79)) 1 s120)) <|
     cCond g120
      (cReg 11 (
       oSeq (oMv g014 s121) <|
       oSeq (oMv g000 s122) <|
       oSeq (oGen (.nilCheck (.t 82)) 2 s123) <|
       oSeq (oP (vFA 1 g123) s124) <|
       oSeq (oLoad g124 s125) <|
       oSeq (oMv g020 s126) <|
       oSeq (oP (vIdx 1 g125 g126) s127) <|
       oSeq (oLoad g127 s130) <|
       oSeq (oBuildSlice 27 1 [.nilSl] 1 [((0, 1), g130)] 8 s131) <|
       oSeq (oGen (.append 1 24 27 [.nilSl] (.t 81) (.t 89)) 9 s132) <|
       oMv g132 s014))
      (cSkip)) <|
     cSeq (cReg 4 (
      oSeq (oMv g006 s133) <|
      oSeq (oGen (.lookup .int .nilSl (.t 91) (.c (.int .i64 (-1))) false) 1 s134) <|
      oSeq (oP (vLen g134) s135) <|
      oMv (kc (.int .i64 0)) s136)) <|
     cBlock 13 (cLoop 1000000 (cSeq (cReg 1 (
        oP (vLss g136 g135) s137)) <|
       cSeq (cCond g137
        (cSkip)
        (cExit 13)) <|
       cSeq (cBlock 15 (cSeq (cReg 3 (
         oSeq (oP (vIdx 1 g134 g136) s140) <|
         oSeq (oLoad g140 s141) <|
         oMv g141 s022)) <|
        cSeq (cReg 4 (
         oSeq (oMv g007 s142) <|
         oSeq (oMv g020 s143) <|
         oSeq (oMv g022 s144) <|
         oCallF 81 (fun T => [g142 T, g143 T, g144 T]) s145)) <|
        cCond g145
         (cDrw 28 (
          dSeq (dLook 0 [] (oMv g014 s146)) <|
          dSeq (dLook 0 [] (oMv g010 s147)) <|
          dSeq (dLook 0 [] (oMv g022 s150)) <|
          dSeq (dLook 0 [] (oP (vIdx 2 g147 g150) s151)) <|
          dSeq (dLook 0 [] (oLoadN 2 g151 s152)) <|
          dSeq (dAct 0 [] (oCallF 83 (fun T => [g152 T]) s153)) <|
          dSeq (dLook 0 [] (oMv g000 s154)) <|
          dSeq (dLook 0 [] (oGen (.nilCheck (.t 108)) 7 s155)) <|
          dSeq (dLook 0 [] (oP (vFA 1 g155) s156)) <|
          dSeq (dLook 1 [] (oLoad g156 s157)) <|
          dSeq (dLook 0 [] (oMv g020 s160)) <|
          dSeq (dLook 0 [] (oP (vIdx 1 g157 g160) s161)) <|
          dSeq (dLook 1 [] (oLoad g161 s162)) <|
          dSeq (dLook 0 [] (oMv g010 s163)) <|
          dSeq (dLook 0 [] (oMv g020 s164)) <|
          dSeq (dLook 0 [] (oP (vIdx 2 g163 g164) s165)) <|
          dSeq (dLook 1 [] (oLoadN 2 g165 s166)) <|
          dSeq (dLook 0 [] (oMv g000 s167)) <|
          dSeq (dLook 0 [] (oGen (.nilCheck (.t 119)) 18 s170)) <|
          dSeq (dLook 0 [] (oP (vFA 1 g170) s171)) <|
          dSeq (dLook 1 [] (oLoad g171 s172)) <|
          dSeq (dLook 0 [] (oMv g022 s173)) <|
          dSeq (dLook 0 [] (oP (vIdx 1 g172 g173) s174)) <|
          dSeq (dLook 1 [] (oLoad g174 s175)) <|
          dSeq (dAct 0 [] (oCallF 82 (fun T => [g153 T, g162 T, g166 T, g175 T]) s176)) <|
          dSeq (dMake 25 (oBuildSlice 27 1 [.nilSl] 1 [((0, 1), g176)] 25 s177)) <|
          dSeq (dAct 0 [(25, 0)] (oGen (.append 1 24 27 [.nilSl] (.t 102) (.t 127)) 26 s200)) <|
          dSeq (dLook 0 [] (oMv g200 s014)) <|
          dNop)
          (ckSeq (ckOne g157 2 [] (oLoad g156 s157)) <|
         ckSeq (ckOne g162 2 [] (oLoad g161 s162)) <|
         ckSeq (ckOne g166 2 [] (oLoadN 2 g165 s166)) <|
         ckSeq (ckOne g172 2 [] (oLoad g171 s172)) <|
         ckSeq (ckOne g175 2 [] (oLoad g174 s175)) <|
         ckNop) [])
         (cSkip))) <|
       cReg 2 (
        oSeq (oP (vAdd g136 (kc (.int .i64 1))) s201) <|
        oMv g201 s136))))) <|
    cReg 2 (
     oSeq (oP (vAdd g113 (kc (.int .i64 1))) s202) <|
     oMv g202 s113)))) <|
  cReg 5 (
   oSeq (oMv g000 s203) <|
   oSeq (oMv g014 s204) <|
   oSeq (oGen (.nilCheck (.t 131)) 2 s205) <|
   oSeq (oP (vFA 1 g205) s206) <|
   oStore g206 g204 noPut)⟩
def afn80 : AFn := ⟨2, 48, [(4, none)],
  .seq (.region [
   ⟨(some 4), .mv (.c .nilSl), none⟩]) <|
  .seq (.region [
   ⟨(some 10), .mv (.t 0), none⟩,
   ⟨(some 11), .nilCheck (.t 10), none⟩,
   ⟨(some 12), .fieldAddr 2 (.t 11), none⟩,
   ⟨(some 13), .load none (.t 12), none⟩,
   ⟨(some 14), .len (.t 13), none⟩,
   ⟨(some 15), .bin .quo .int (.t 14) (.c (.int .i64 64)), none⟩,
   ⟨(some 16), .bin .add .int (.t 15) (.c (.int .i64 1)), none⟩,
   ⟨(some 17), .mksl 91 1 8 [(.int .u64 0)] (.t 16) (.t 16), none⟩,
   ⟨(some 5), .mv (.t 17), none⟩]) <|
  .seq (.region [
   ⟨(some 19), .mv (.t 1), none⟩,
   ⟨(some 20), .mv (.t 0), none⟩,
   ⟨(some 21), .nilCheck (.t 20), none⟩,
   ⟨(some 22), .fieldAddr 2 (.t 21), none⟩,
   ⟨(some 23), .load none (.t 22), none⟩,
   ⟨(some 24), .call (.c (.fn (.func 108) [] [])) [(.t 19), (.t 23)], none⟩,
   ⟨(some 18), .mv (.t 24), none⟩,
   ⟨(some 25), .extract 0 (.t 18), none⟩,
   ⟨(some 26), .extract 1 (.t 18), none⟩,
   ⟨(some 6), .mv (.t 25), none⟩,
   ⟨(some 7), .mv (.t 26), none⟩]) <|
  .seq (.seq (.region [
   ⟨(some 27), .mv (.t 6), none⟩,
   ⟨(some 28), .len (.t 27), none⟩,
   ⟨(some 29), .mv (.c (.int .i64 0)), none⟩]) <|
  .block 0 (.loop (.seq (.region [
     ⟨(some 30), .bin .lss .int (.t 29) (.t 28), none⟩]) <|
    .seq (.cond (.t 30)
     (.skip)
     (.exit 0)) <|
    .seq (.block 1 (.seq (.region [
      ⟨(some 31), .mv (.t 29), none⟩,
      ⟨(some 32), .indexAddr 1 (.t 27) (.t 29), none⟩,
      ⟨(some 33), .load none (.t 32), none⟩,
      ⟨(some 8), .mv (.t 31), none⟩,
      ⟨(some 9), .mv (.t 33), none⟩]) <|
     .seq (.region [
      ⟨(some 34), .mv (.t 9), none⟩,
      ⟨(some 35), .bin .eql .int (.t 34) (.c (.int .i64 0)), none⟩]) <|
     .cond (.t 35)
      (.draw [
       ⟨(some 36), .mv (.t 5), none, [(5, none)], 0, [(0, [])]⟩,
       ⟨(some 37), .mv (.t 8), none, [(8, none)], 0, [(0, [])]⟩,
       ⟨(some 38), .bin .quo .int (.t 37) (.c (.int .i64 64)), none, [(37, (some 1))], 0, [(0, [])]⟩,
       ⟨(some 39), .indexAddr 1 (.t 36) (.t 38), none, [(36, (some 0)), (38, (some 2))], 0, [(0, [])]⟩,
       ⟨(some 40), .load none (.t 39), none, [(39, (some 3))], 0, [(0, [])]⟩,
       ⟨(some 41), .mv (.t 8), none, [(8, none)], 0, [(0, [])]⟩,
       ⟨(some 42), .bin .rem .int (.t 41) (.c (.int .i64 64)), none, [(41, (some 5))], 0, [(0, [])]⟩,
       ⟨(some 43), .bin .shl .int (.c (.int .u64 1)) (.t 42), none, [(42, (some 6))], 0, [(0, [])]⟩,
       ⟨(some 44), .bin .or .int (.t 40) (.t 43), none, [(40, (some 4)), (43, (some 7))], 0, [(0, [])]⟩,
       ⟨(some 45), .indexAddr 1 (.t 36) (.t 38), none, [(36, (some 0)), (38, (some 2))], 0, [(0, [])]⟩,
       ⟨none, .store 1 (.t 45) (.t 44), none, [(45, (some 9)), (44, (some 8))], 2, [(0, [])]⟩] [])
      (.skip))) <|
    .region [
     ⟨(some 46), .bin .add .int (.t 29) (.c (.int .i64 1)), none⟩,
     ⟨(some 29), .mv (.t 46), none⟩]))) <|
  .seq (.region [
   ⟨(some 47), .mv (.t 5), none⟩,
   ⟨(some 4), .mv (.t 47), none⟩]) <|
  .ret, none⟩
noncomputable def ffn80 : FFn := ⟨2, 48, [(4, none)],
  cSeq (cReg 1 (
   oMv (kc .nilSl) s004)) <|
  cSeq (cReg 9 (
   oSeq (oMv g000 s012) <|
   oSeq (oGen (.nilCheck (.t 10)) 1 s013) <|
   oSeq (oP (vFA 2 g013) s014) <|
   oSeq (oLoad g014 s015) <|
   oSeq (oP (vLen g015) s016) <|
   oSeq (oGen (.bin .quo .int (.t 14) (.c (.int .i64 64))) 5 s017) <|
   oSeq (oP (vAdd g017 (kc (.int .i64 1))) s020) <|
   oSeq (oGen (.mksl 91 1 8 [(.int .u64 0)] (.t 16) (.t 16)) 7 s021) <|
   oMv g021 s005)) <|
  cSeq (cReg 11 (
   oSeq (oMv g001 s023) <|
   oSeq (oMv g000 s024) <|
   oSeq (oGen (.nilCheck (.t 20)) 2 s025) <|
   oSeq (oP (vFA 2 g025) s026) <|
   oSeq (oLoad g026 s027) <|
   oSeq (oCallF 108 (fun T => [g023 T, g027 T]) s030) <|
   oSeq (oMv g030 s022) <|
   oSeq (oP (vExt 0 g022) s031) <|
   oSeq (oP (vExt 1 g022) s032) <|
   oSeq (oMv g031 s006) <|
   oMv g032 s007)) <|
  cSeq (cSeq (cReg 3 (
   oSeq (oMv g006 s033) <|
   oSeq (oP (vLen g033) s034) <|
   oMv (kc (.int .i64 0)) s035)) <|
  cBlock 1 (cLoop 1000000 (cSeq (cReg 1 (
     oP (vLss g035 g034) s036)) <|
    cSeq (cCond g036
     (cSkip)
     (cExit 1)) <|
    cSeq (cBlock 3 (cSeq (cReg 5 (
      oSeq (oMv g035 s037) <|
      oSeq (oP (vIdx 1 g033 g035) s040) <|
      oSeq (oLoad g040 s041) <|
      oSeq (oMv g037 s010) <|
      oMv g041 s011)) <|
     cSeq (cReg 2 (
      oSeq (oMv g011 s042) <|
      oP (vEql g042 (kc (.int .i64 0))) s043)) <|
     cCond g043
      (cDrw 11 (
       dSeq (dLook 0 [] (oMv g005 s044)) <|
       dSeq (dLook 0 [] (oMv g010 s045)) <|
       dSeq (dLook 0 [] (oGen (.bin .quo .int (.t 37) (.c (.int .i64 64))) 2 s046)) <|
       dSeq (dLook 0 [] (oP (vIdx 1 g044 g046) s047)) <|
       dSeq (dLook 0 [] (oLoad g047 s050)) <|
       dSeq (dLook 0 [] (oMv g010 s051)) <|
       dSeq (dLook 0 [] (oGen (.bin .rem .int (.t 41) (.c (.int .i64 64))) 6 s052)) <|
       dSeq (dLook 0 [] (oGen (.bin .shl .int (.c (.int .u64 1)) (.t 42)) 7 s053)) <|
       dSeq (dLook 0 [] (oGen (.bin .or .int (.t 40) (.t 43)) 8 s054)) <|
       dSeq (dLook 0 [] (oP (vIdx 1 g044 g046) s055)) <|
       dSeq (dAct 0 [] (oStore g055 g054 noPut)) <|
       dNop)
       (ckNop) [])
      (cSkip))) <|
    cReg 2 (
     oSeq (oP (vAdd g035 (kc (.int .i64 1))) s056) <|
     oMv g056 s035)))) <|
  cSeq (cReg 2 (
   oSeq (oMv g005 s057) <|
   oMv g057 s004)) <|
  cExit 0⟩
def afn108 : AFn := ⟨2, 55, [(4, none), (5, none)],
  .seq (.region [
   ⟨(some 4), .mv (.c .nilSl), none⟩,
   ⟨(some 5), .mv (.c (.int .i64 0)), none⟩]) <|
  .seq (.seq (.region [
   ⟨(some 12), .mv (.t 1), none⟩,
   ⟨(some 13), .call (.c (.fn (.func 62) [] [])) [(.t 12)], none⟩,
   ⟨(some 5), .mv (.t 13), none⟩]) <|
  .seq (.region [
   ⟨(some 14), .mv (.t 5), none⟩,
   ⟨(some 15), .bin .neq .int (.t 14) (.c (.int .i64 0)), none⟩]) <|
  .cond (.t 15)
   (.ret)
   (.skip)) <|
  .seq (.block 0 (.seq (.region [
    ⟨(some 17), .mv (.t 0), none⟩,
    ⟨(some 18), .call (.c (.fn (.func 25) [] [])) [(.t 17)], none⟩,
    ⟨(some 19), .bin .neq .int (.t 18) (.c (.int .i64 0)), none⟩,
    ⟨(some 16), .mv (.t 19), none⟩]) <|
   .cond (.t 16)
    (.seq (.region [
     ⟨(some 4), .mv (.c .nilSl), none⟩,
     ⟨(some 5), .mv (.c (.int .i64 8)), none⟩]) <|
    .ret)
    (.seq (.region [
     ⟨(some 21), .mv (.t 1), none⟩,
     ⟨(some 22), .len (.t 21), none⟩,
     ⟨(some 23), .bin .gtr .int (.t 22) (.c (.int .i64 0)), none⟩,
     ⟨(some 24), .mv (.t 23), none⟩,
     ⟨(some 25), .mv (.t 1), (some (24, true))⟩,
     ⟨(some 26), .indexAddr 1 (.t 25) (.c (.int .i64 0)), (some (24, true))⟩,
     ⟨(some 27), .load none (.t 26), (some (24, true))⟩,
     ⟨(some 28), .len (.t 27), (some (24, true))⟩,
     ⟨(some 29), .mv (.t 0), (some (24, true))⟩,
     ⟨(some 30), .len (.t 29), (some (24, true))⟩,
     ⟨(some 31), .bin .neq .int (.t 28) (.t 30), (some (24, true))⟩,
     ⟨(some 32), .pick (.t 24) (.t 31) (.c (.bool false)), none⟩,
     ⟨(some 20), .mv (.t 32), none⟩]) <|
    .cond (.t 20)
     (.seq (.region [
      ⟨(some 4), .mv (.c .nilSl), none⟩,
      ⟨(some 5), .mv (.c (.int .i64 70)), none⟩]) <|
     .ret)
     (.skip)))) <|
  .seq (.seq (.region [
   ⟨(some 33), .mv (.t 1), none⟩,
   ⟨(some 34), .len (.t 33), none⟩,
   ⟨(some 35), .mv (.c (.int .i64 0)), none⟩]) <|
  .block 1 (.loop (.seq (.region [
     ⟨(some 36), .bin .lss .int (.t 35) (.t 34), none⟩]) <|
    .seq (.cond (.t 36)
     (.skip)
     (.exit 1)) <|
    .seq (.block 2 (.seq (.region [
      ⟨(some 37), .indexAddr 1 (.t 33) (.t 35), none⟩,
      ⟨(some 38), .load none (.t 37), none⟩,
      ⟨(some 7), .mv (.t 38), none⟩]) <|
     .seq (.region [
      ⟨(some 40), .mv (.t 0), none⟩,
      ⟨(some 41), .mv (.t 7), none⟩,
      ⟨(some 42), .call (.c (.fn (.func 79) [] [])) [(.t 40), (.t 41)], none⟩,
      ⟨(some 39), .mv (.t 42), none⟩,
      ⟨(some 43), .extract 0 (.t 39), none⟩,
      ⟨(some 44), .extract 1 (.t 39), none⟩,
      ⟨(some 8), .alloc 62 [(.bool false), .nilSl], none⟩,
      ⟨none, .store 2 (.t 8) (.t 43), none⟩,
      ⟨(some 9), .mv (.t 44), none⟩]) <|
     .seq (.region [
      ⟨(some 46), .load (some 2) (.t 8), none⟩,
      ⟨(some 47), .call (.c (.fn (.func 42) [] [])) [(.t 46)], none⟩,
      ⟨(some 45), .mv (.t 47), none⟩,
      ⟨(some 48), .extract 0 (.t 45), none⟩,
      ⟨(some 49), .extract 1 (.t 45), none⟩,
      ⟨(some 10), .mv (.t 48), none⟩,
      ⟨(some 11), .mv (.t 49), none⟩]) <|
     .region [
      ⟨(some 50), .mv (.t 4), none⟩,
      ⟨(some 51), .mv (.t 10), none⟩,
      ⟨(some 52), .buildSlice 3 1 [(.int .i64 0)] 1 [((0, 1), (.t 51))], none⟩,
      ⟨(some 53), .append 1 8 3 [(.int .i64 0)] (.t 50) (.t 52), none⟩,
      ⟨(some 4), .mv (.t 53), none⟩])) <|
    .region [
     ⟨(some 54), .bin .add .int (.t 35) (.c (.int .i64 1)), none⟩,
     ⟨(some 35), .mv (.t 54), none⟩]))) <|
  .ret, none⟩
noncomputable def ffn108 : FFn := ⟨2, 55, [(4, none), (5, none)],
  cSeq (cReg 2 (
   oSeq (oMv (kc .nilSl) s004) <|
   oMv (kc (.int .i64 0)) s005)) <|
  cSeq (cSeq (cReg 3 (
   oSeq (oMv g001 s014) <|
   oSeq (oCallF 62 (fun T => [g014 T]) s015) <|
   oMv g015 s005)) <|
  cSeq (cReg 2 (
   oSeq (oMv g005 s016) <|
   oP (vNeq g016 (kc (.int .i64 0))) s017)) <|
  cCond g017
   (cExit 0)
   (cSkip)) <|
  cSeq (cBlock 1 (cSeq (cReg 4 (
    oSeq (oMv g000 s021) <|
    oSeq (oCallF 25 (fun T => [g021 T]) s022) <|
    oSeq (oP (vNeq g022 (kc (.int .i64 0))) s023) <|
    oMv g023 s020)) <|
   cCond g020
    (cSeq (cReg 2 (
     oSeq (oMv (kc .nilSl) s004) <|
     oMv (kc (.int .i64 8)) s005)) <|
    cExit 0)
    (cSeq (cReg 13 (
     oSeq (oMv g001 s025) <|
     oSeq (oP (vLen g025) s026) <|
     oSeq (oP (vGtr g026 (kc (.int .i64 0))) s027) <|
     oSeq (oMv g027 s030) <|
     oSeq (oGuard g030 true s031 (oMv g001 s031)) <|
     oSeq (oGuard g030 true s032 (oP (vIdx 1 g031 (kc (.int .i64 0))) s032)) <|
     oSeq (oGuard g030 true s033 (oLoad g032 s033)) <|
     oSeq (oGuard g030 true s034 (oP (vLen g033) s034)) <|
     oSeq (oGuard g030 true s035 (oMv g000 s035)) <|
     oSeq (oGuard g030 true s036 (oP (vLen g035) s036)) <|
     oSeq (oGuard g030 true s037 (oP (vNeq g034 g036) s037)) <|
     oSeq (oP (vPick g030 g037 (kc (.bool false))) s040) <|
     oMv g040 s024)) <|
    cCond g024
     (cSeq (cReg 2 (
      oSeq (oMv (kc .nilSl) s004) <|
      oMv (kc (.int .i64 70)) s005)) <|
     cExit 0)
     (cSkip)))) <|
  cSeq (cSeq (cReg 3 (
   oSeq (oMv g001 s041) <|
   oSeq (oP (vLen g041) s042) <|
   oMv (kc (.int .i64 0)) s043)) <|
  cBlock 3 (cLoop 1000000 (cSeq (cReg 1 (
     oP (vLss g043 g042) s044)) <|
    cSeq (cCond g044
     (cSkip)
     (cExit 3)) <|
    cSeq (cBlock 5 (cSeq (cReg 3 (
      oSeq (oP (vIdx 1 g041 g043) s045) <|
      oSeq (oLoad g045 s046) <|
      oMv g046 s007)) <|
     cSeq (cReg 9 (
      oSeq (oMv g000 s050) <|
      oSeq (oMv g007 s051) <|
      oSeq (oCallF 79 (fun T => [g050 T, g051 T]) s052) <|
      oSeq (oMv g052 s047) <|
      oSeq (oP (vExt 0 g047) s053) <|
      oSeq (oP (vExt 1 g047) s054) <|
      oSeq (oAlloc 62 [(.bool false), .nilSl] 6 s010) <|
      oSeq (oStoreN 2 g010 g053 noPut) <|
      oMv g054 s011)) <|
     cSeq (cReg 7 (
      oSeq (oLoadN 2 g010 s056) <|
      oSeq (oCallF 42 (fun T => [g056 T]) s057) <|
      oSeq (oMv g057 s055) <|
      oSeq (oP (vExt 0 g055) s060) <|
      oSeq (oP (vExt 1 g055) s061) <|
      oSeq (oMv g060 s012) <|
      oMv g061 s013)) <|
     cReg 5 (
      oSeq (oMv g004 s062) <|
      oSeq (oMv g012 s063) <|
      oSeq (oBuildSlice 3 1 [(.int .i64 0)] 1 [((0, 1), g063)] 2 s064) <|
      oSeq (oGen (.append 1 8 3 [(.int .i64 0)] (.t 50) (.t 52)) 3 s065) <|
      oMv g065 s004))) <|
    cReg 2 (
     oSeq (oP (vAdd g043 (kc (.int .i64 1))) s066) <|
     oMv g066 s043)))) <|
  cExit 0⟩
def afn81 : AFn := ⟨3, 37, [(6, none)],
  .seq (.region [
   ⟨(some 6), .mv (.c (.bool false)), none⟩]) <|
  .seq (.seq (.region [
   ⟨(some 9), .mv (.t 0), none⟩,
   ⟨(some 10), .len (.t 9), none⟩,
   ⟨(some 11), .mv (.c (.int .i64 0)), none⟩]) <|
  .block 0 (.loop (.seq (.region [
     ⟨(some 12), .bin .lss .int (.t 11) (.t 10), none⟩]) <|
    .seq (.cond (.t 12)
     (.skip)
     (.exit 0)) <|
    .seq (.block 1 (.seq (.region [
      ⟨(some 13), .mv (.t 11), none⟩,
      ⟨(some 14), .indexAddr 1 (.t 9) (.t 11), none⟩,
      ⟨(some 15), .load none (.t 14), none⟩,
      ⟨(some 7), .mv (.t 13), none⟩,
      ⟨(some 8), .mv (.t 15), none⟩]) <|
     .seq (.draw [
      ⟨(some 16), .mv (.t 7), none, [(7, none)], 0, [(0, [])]⟩,
      ⟨(some 17), .mv (.t 1), none, [(1, none)], 0, [(0, [])]⟩,
      ⟨(some 18), .bin .neq .int (.t 16) (.t 17), none, [(16, (some 0)), (17, (some 1))], 0, [(0, [])]⟩,
      ⟨(some 19), .mv (.t 18), none, [(18, (some 2))], 0, [(0, [])]⟩,
      ⟨(some 20), .mv (.t 7), (some (19, true)), [(7, none), (19, (some 3))], 0, [(0, [])]⟩,
      ⟨(some 21), .mv (.t 2), (some (19, true)), [(2, none), (19, (some 3))], 0, [(0, [])]⟩,
      ⟨(some 22), .bin .neq .int (.t 20) (.t 21), (some (19, true)), [(20, (some 4)), (21, (some 5)), (19, (some 3))], 0, [(0, [])]⟩,
      ⟨(some 23), .pick (.t 19) (.t 22) (.c (.bool false)), none, [(19, (some 3)), (22, (some 6))], 0, [(0, [])]⟩,
      ⟨(some 24), .mv (.t 23), none, [(23, (some 7))], 0, [(0, [])]⟩,
      ⟨(some 25), .mv (.t 8), (some (24, true)), [(8, none), (24, (some 8))], 0, [(0, [])]⟩,
      ⟨(some 26), .mv (.t 0), (some (24, true)), [(0, none), (24, (some 8))], 0, [(0, [])]⟩,
      ⟨(some 27), .mv (.t 1), (some (24, true)), [(1, none), (24, (some 8))], 0, [(0, [])]⟩,
      ⟨(some 28), .indexAddr 1 (.t 26) (.t 27), (some (24, true)), [(26, (some 10)), (27, (some 11)), (24, (some 8))], 0, [(0, [])]⟩,
      ⟨(some 29), .load none (.t 28), (some (24, true)), [(28, (some 12)), (24, (some 8))], 0, [(0, [])]⟩,
      ⟨(some 30), .mv (.t 0), (some (24, true)), [(0, none), (24, (some 8))], 0, [(0, [])]⟩,
      ⟨(some 31), .mv (.t 2), (some (24, true)), [(2, none), (24, (some 8))], 0, [(0, [])]⟩,
      ⟨(some 32), .indexAddr 1 (.t 30) (.t 31), (some (24, true)), [(30, (some 14)), (31, (some 15)), (24, (some 8))], 0, [(0, [])]⟩,
      ⟨(some 33), .load none (.t 32), (some (24, true)), [(32, (some 16)), (24, (some 8))], 0, [(0, [])]⟩,
      ⟨(some 34), .call (.c (.fn (.func 109) [] [])) [(.t 25), (.t 29), (.t 33)], (some (24, true)), [(25, (some 9)), (29, (some 13)), (33, (some 17)), (24, (some 8))], 2, [(0, [])]⟩,
      ⟨(some 35), .pick (.t 24) (.t 34) (.c (.bool false)), none, [(24, (some 8)), (34, (some 18))], 0, [(1, [])]⟩] []) <|
     .cond (.t 35)
      (.seq (.region [
       ⟨(some 6), .mv (.c (.bool false)), none⟩]) <|
      .ret)
      (.skip))) <|
    .region [
     ⟨(some 36), .bin .add .int (.t 11) (.c (.int .i64 1)), none⟩,
     ⟨(some 11), .mv (.t 36), none⟩]))) <|
  .seq (.region [
   ⟨(some 6), .mv (.c (.bool true)), none⟩]) <|
  .ret, none⟩
noncomputable def ffn81 : FFn := ⟨3, 37, [(6, none)],
  cSeq (cReg 1 (
   oMv (kc (.bool false)) s006)) <|
  cSeq (cSeq (cReg 3 (
   oSeq (oMv g000 s011) <|
   oSeq (oP (vLen g011) s012) <|
   oMv (kc (.int .i64 0)) s013)) <|
  cBlock 1 (cLoop 1000000 (cSeq (cReg 1 (
     oP (vLss g013 g012) s014)) <|
    cSeq (cCond g014
     (cSkip)
     (cExit 1)) <|
    cSeq (cBlock 3 (cSeq (cReg 5 (
      oSeq (oMv g013 s015) <|
      oSeq (oP (vIdx 1 g011 g013) s016) <|
      oSeq (oLoad g016 s017) <|
      oSeq (oMv g015 s007) <|
      oMv g017 s010)) <|
     cSeq (cDrw 20 (
      dSeq (dLook 0 [] (oMv g007 s020)) <|
      dSeq (dLook 0 [] (oMv g001 s021)) <|
      dSeq (dLook 0 [] (oP (vNeq g020 g021) s022)) <|
      dSeq (dLook 0 [] (oMv g022 s023)) <|
      dSeq (dLook 0 [] (oGuard g023 true s024 (oMv g007 s024))) <|
      dSeq (dLook 0 [] (oGuard g023 true s025 (oMv g002 s025))) <|
      dSeq (dLook 0 [] (oGuard g023 true s026 (oP (vNeq g024 g025) s026))) <|
      dSeq (dLook 0 [] (oP (vPick g023 g026 (kc (.bool false))) s027)) <|
      dSeq (dLook 0 [] (oMv g027 s030)) <|
      dSeq (dLook 0 [] (oGuard g030 true s031 (oMv g010 s031))) <|
      dSeq (dLook 0 [] (oGuard g030 true s032 (oMv g000 s032))) <|
      dSeq (dLook 0 [] (oGuard g030 true s033 (oMv g001 s033))) <|
      dSeq (dLook 0 [] (oGuard g030 true s034 (oP (vIdx 1 g032 g033) s034))) <|
      dSeq (dLook 0 [] (oGuard g030 true s035 (oLoad g034 s035))) <|
      dSeq (dLook 0 [] (oGuard g030 true s036 (oMv g000 s036))) <|
      dSeq (dLook 0 [] (oGuard g030 true s037 (oMv g002 s037))) <|
      dSeq (dLook 0 [] (oGuard g030 true s040 (oP (vIdx 1 g036 g037) s040))) <|
      dSeq (dLook 0 [] (oGuard g030 true s041 (oLoad g040 s041))) <|
      dSeq (dAct 0 [] (oGuard g030 true s042 (oCallF 109 (fun T => [g031 T, g035 T, g041 T]) s042))) <|
      dSeq (dLook 0 [] (oP (vPick g030 g042 (kc (.bool false))) s043)) <|
      dNop)
      (ckNop) []) <|
     cCond g043
      (cSeq (cReg 1 (
       oMv (kc (.bool false)) s006)) <|
      cExit 0)
      (cSkip))) <|
    cReg 2 (
     oSeq (oP (vAdd g013 (kc (.int .i64 1))) s044) <|
     oMv g044 s013)))) <|
  cSeq (cReg 1 (
   oMv (kc (.bool true)) s006)) <|
  cExit 0⟩
def afn109 : AFn := ⟨3, 29, [(6, none)],
  .seq (.region [
   ⟨(some 6), .mv (.c (.bool false)), none⟩]) <|
  .seq (.seq (.region [
   ⟨(some 9), .mv (.t 0), none⟩,
   ⟨(some 10), .len (.t 9), none⟩,
   ⟨(some 11), .mv (.c (.int .i64 0)), none⟩]) <|
  .block 0 (.loop (.seq (.region [
     ⟨(some 12), .bin .lss .int (.t 11) (.t 10), none⟩]) <|
    .seq (.cond (.t 12)
     (.skip)
     (.exit 0)) <|
    .seq (.block 1 (.seq (.region [
      ⟨(some 13), .mv (.t 11), none⟩,
      ⟨(some 14), .indexAddr 1 (.t 9) (.t 11), none⟩,
      ⟨(some 15), .load none (.t 14), none⟩,
      ⟨(some 7), .mv (.t 13), none⟩,
      ⟨(some 8), .mv (.t 15), none⟩]) <|
     .seq (.draw [
      ⟨(some 16), .mv (.t 1), none, [(1, none)], 0, [(0, [])]⟩,
      ⟨(some 17), .mv (.t 7), none, [(7, none)], 0, [(0, [])]⟩,
      ⟨(some 18), .indexAddr 1 (.t 16) (.t 17), none, [(16, (some 0)), (17, (some 1))], 0, [(0, [])]⟩,
      ⟨(some 19), .load none (.t 18), none, [(18, (some 2))], 0, [(0, [])]⟩,
      ⟨(some 20), .mv (.t 2), none, [(2, none)], 0, [(0, [])]⟩,
      ⟨(some 21), .mv (.t 7), none, [(7, none)], 0, [(0, [])]⟩,
      ⟨(some 22), .indexAddr 1 (.t 20) (.t 21), none, [(20, (some 4)), (21, (some 5))], 0, [(0, [])]⟩,
      ⟨(some 23), .load none (.t 22), none, [(22, (some 6))], 0, [(0, [])]⟩,
      ⟨(some 24), .bin .and .int (.t 19) (.t 23), none, [(19, (some 3)), (23, (some 7))], 0, [(0, [])]⟩,
      ⟨(some 25), .mv (.t 8), none, [(8, none)], 0, [(0, [])]⟩,
      ⟨(some 26), .bin .andNot .int (.t 24) (.t 25), none, [(24, (some 8)), (25, (some 9))], 0, [(0, [])]⟩,
      ⟨(some 27), .bin .neq .int (.t 26) (.c (.int .u64 0)), none, [(26, (some 10))], 0, [(0, [])]⟩] []) <|
     .cond (.t 27)
      (.seq (.region [
       ⟨(some 6), .mv (.c (.bool false)), none⟩]) <|
      .ret)
      (.skip))) <|
    .region [
     ⟨(some 28), .bin .add .int (.t 11) (.c (.int .i64 1)), none⟩,
     ⟨(some 11), .mv (.t 28), none⟩]))) <|
  .seq (.region [
   ⟨(some 6), .mv (.c (.bool true)), none⟩]) <|
  .ret, none⟩
noncomputable def ffn109 : FFn := ⟨3, 29, [(6, none)],
  cSeq (cReg 1 (
   oMv (kc (.bool false)) s006)) <|
  cSeq (cSeq (cReg 3 (
   oSeq (oMv g000 s011) <|
   oSeq (oP (vLen g011) s012) <|
   oMv (kc (.int .i64 0)) s013)) <|
  cBlock 1 (cLoop 1000000 (cSeq (cReg 1 (
     oP (vLss g013 g012) s014)) <|
    cSeq (cCond g014
     (cSkip)
     (cExit 1)) <|
    cSeq (cBlock 3 (cSeq (cReg 5 (
      oSeq (oMv g013 s015) <|
      oSeq (oP (vIdx 1 g011 g013) s016) <|
      oSeq (oLoad g016 s017) <|
      oSeq (oMv g015 s007) <|
      oMv g017 s010)) <|
     cSeq (cDrw 12 (
      dSeq (dLook 0 [] (oMv g001 s020)) <|
      dSeq (dLook 0 [] (oMv g007 s021)) <|
      dSeq (dLook 0 [] (oP (vIdx 1 g020 g021) s022)) <|
      dSeq (dLook 0 [] (oLoad g022 s023)) <|
      dSeq (dLook 0 [] (oMv g002 s024)) <|
      dSeq (dLook 0 [] (oMv g007 s025)) <|
      dSeq (dLook 0 [] (oP (vIdx 1 g024 g025) s026)) <|
      dSeq (dLook 0 [] (oLoad g026 s027)) <|
      dSeq (dLook 0 [] (oGen (.bin .and .int (.t 19) (.t 23)) 8 s030)) <|
      dSeq (dLook 0 [] (oMv g010 s031)) <|
      dSeq (dLook 0 [] (oGen (.bin .andNot .int (.t 24) (.t 25)) 10 s032)) <|
      dSeq (dLook 0 [] (oP (vNeq g032 (kc (.int .u64 0))) s033)) <|
      dNop)
      (ckNop) []) <|
     cCond g033
      (cSeq (cReg 1 (
       oMv (kc (.bool false)) s006)) <|
      cExit 0)
      (cSkip))) <|
    cReg 2 (
     oSeq (oP (vAdd g013 (kc (.int .i64 1))) s034) <|
     oMv g034 s013)))) <|
  cSeq (cReg 1 (
   oMv (kc (.bool true)) s006)) <|
  cExit 0⟩
def afn83 : AFn := ⟨1, 11, [(2, (some (some 2)))],
  .seq (.region [
   ⟨(some 1), .box 62 (.t 0), none⟩,
   ⟨(some 2), .alloc 62 [(.bool false), .nilSl], none⟩]) <|
  .seq (.region [
   ⟨(some 6), .load (some 2) (.t 1), none⟩,
   ⟨(some 7), .call (.c (.fn (.func 111) [] [])) [(.t 6)], none⟩,
   ⟨(some 5), .mv (.t 7), none⟩,
   ⟨(some 8), .extract 0 (.t 5), none⟩,
   ⟨(some 9), .extract 1 (.t 5), none⟩,
   ⟨(some 3), .alloc 62 [(.bool false), .nilSl], none⟩,
   ⟨none, .store 2 (.t 3) (.t 8), none⟩,
   ⟨(some 4), .mv (.t 9), none⟩]) <|
  .seq (.region [
   ⟨(some 10), .load (some 2) (.t 3), none⟩,
   ⟨none, .store 2 (.t 2) (.t 10), none⟩]) <|
  .ret, none⟩
noncomputable def ffn83 : FFn := ⟨1, 11, [(2, (some (some 2)))],
  cSeq (cReg 2 (
   oSeq (oBox 62 g000 0 s001) <|
   oAlloc 62 [(.bool false), .nilSl] 1 s002)) <|
  cSeq (cReg 8 (
   oSeq (oLoadN 2 g001 s006) <|
   oSeq (oCallF 111 (fun T => [g006 T]) s007) <|
   oSeq (oMv g007 s005) <|
   oSeq (oP (vExt 0 g005) s010) <|
   oSeq (oP (vExt 1 g005) s011) <|
   oSeq (oAlloc 62 [(.bool false), .nilSl] 5 s003) <|
   oSeq (oStoreN 2 g003 g010 noPut) <|
   oMv g011 s004)) <|
  cSeq (cReg 2 (
   oSeq (oLoadN 2 g003 s012) <|
   oStoreN 2 g002 g012 noPut)) <|
  cExit 0⟩
def afn111 : AFn := ⟨1, 18, [(2, (some (some 2))), (3, none)],
  .seq (.region [
   ⟨(some 1), .box 62 (.t 0), none⟩,
   ⟨(some 2), .alloc 62 [(.bool false), .nilSl], none⟩,
   ⟨(some 3), .mv (.c (.int .i64 0)), none⟩]) <|
  .seq (.seq (.region [
   ⟨(some 5), .load (some 2) (.t 1), none⟩,
   ⟨(some 6), .call (.c (.fn (.func 41) [] [])) [(.t 5)], none⟩,
   ⟨(some 4), .mv (.t 6), none⟩]) <|
  .seq (.region [
   ⟨(some 7), .mv (.t 4), none⟩,
   ⟨(some 8), .bin .neq .int (.t 7) (.c (.int .i64 0)), none⟩]) <|
  .cond (.t 8)
   (.seq (.region [
    ⟨(some 9), .build [(.bool false), .nilSl] [], none⟩,
    ⟨(some 10), .mv (.t 4), none⟩,
    ⟨none, .store 2 (.t 2) (.t 9), none⟩,
    ⟨(some 3), .mv (.t 10), none⟩]) <|
   .ret)
   (.skip)) <|
  .seq (.draw [
   ⟨(some 11), .fieldAddr 0 (.t 1), none, [(1, none)], 0, [(0, []), (1, [])]⟩,
   ⟨(some 12), .load none (.t 11), none, [(11, (some 0))], 0, [(0, []), (1, [])]⟩,
   ⟨(some 13), .un .not (.t 12), none, [(12, (some 1))], 0, [(0, []), (1, [])]⟩,
   ⟨(some 14), .fieldAddr 1 (.t 1), none, [(1, none)], 0, [(0, [])]⟩,
   ⟨(some 15), .load none (.t 14), none, [(14, (some 3))], 0, [(0, [])]⟩,
   ⟨(some 16), .call (.c (.fn (.func 90) [] [])) [(.t 15)], none, [(15, (some 4))], 2, [(0, [])]⟩,
   ⟨(some 17), .call (.c (.fn (.func 54) [] [])) [(.t 13), (.t 16)], none, [(13, (some 2)), (16, (some 5))], 2, [(1, [])]⟩,
   ⟨none, .store 2 (.t 2) (.t 17), none, [(2, none), (17, (some 6))], 2, [(2, [])]⟩,
   ⟨(some 3), .mv (.c (.int .i64 0)), none, [], 0, [(3, [])]⟩] []) <|
  .ret, none⟩
noncomputable def ffn111 : FFn := ⟨1, 18, [(2, (some (some 2))), (3, none)],
  cSeq (cReg 3 (
   oSeq (oBox 62 g000 0 s001) <|
   oSeq (oAlloc 62 [(.bool false), .nilSl] 1 s002) <|
   oMv (kc (.int .i64 0)) s003)) <|
  cSeq (cSeq (cReg 3 (
   oSeq (oLoadN 2 g001 s005) <|
   oSeq (oCallF 41 (fun T => [g005 T]) s006) <|
   oMv g006 s004)) <|
  cSeq (cReg 2 (
   oSeq (oMv g004 s007) <|
   oP (vNeq g007 (kc (.int .i64 0))) s010)) <|
  cCond g010
   (cSeq (cReg 4 (
    oSeq (oP (vBuild [(.bool false), .nilSl] []) s011) <|
    oSeq (oMv g004 s012) <|
    oSeq (oStoreN 2 g002 g011 noPut) <|
    oMv g012 s003)) <|
   cExit 0)
   (cSkip)) <|
  cSeq (cDrw 9 (
   dSeq (dLook 0 [] (oP (vFA 0 g001) s013)) <|
   dSeq (dLook 0 [] (oLoad g013 s014)) <|
   dSeq (dLook 0 [] (oGen (.un .not (.t 12)) 2 s015)) <|
   dSeq (dLook 0 [] (oP (vFA 1 g001) s016)) <|
   dSeq (dLook 0 [] (oLoad g016 s017)) <|
   dSeq (dAct 0 [] (oCallF 90 (fun T => [g017 T]) s020)) <|
   dSeq (dAct 0 [] (oCallF 54 (fun T => [g015 T, g020 T]) s021)) <|
   dSeq (dAct 0 [] (oStoreN 2 g002 g021 noPut)) <|
   dSeq (dLook 0 [] (oMv (kc (.int .i64 0)) s003)) <|
   dNop)
   (ckSeq (ckOne g014 2 [] (oLoad g013 s014)) <|
  ckNop) []) <|
  cExit 0⟩
def afn90 : AFn := ⟨1, 8, [(2, none)],
  .seq (.region [
   ⟨(some 2), .mv (.c .nilSl), none⟩]) <|
  .seq (.seq (.region [
   ⟨(some 3), .mv (.t 0), none⟩,
   ⟨(some 4), .bin .eql .sl (.t 3) (.c .nilSl), none⟩]) <|
  .cond (.t 4)
   (.seq (.region [
    ⟨(some 2), .mv (.c .nilSl), none⟩]) <|
   .ret)
   (.skip)) <|
  .seq (.region [
   ⟨(some 5), .buildSlice 91 1 [] 0 [], none⟩,
   ⟨(some 6), .mv (.t 0), none⟩,
   ⟨(some 7), .append 1 8 91 [(.int .u64 0)] (.t 5) (.t 6), none⟩,
   ⟨(some 2), .mv (.t 7), none⟩]) <|
  .ret, none⟩
noncomputable def ffn90 : FFn := ⟨1, 8, [(2, none)],
  cSeq (cReg 1 (
   oMv (kc .nilSl) s002)) <|
  cSeq (cSeq (cReg 2 (
   oSeq (oMv g000 s003) <|
   oGen (.bin .eql .sl (.t 3) (.c .nilSl)) 1 s004)) <|
  cCond g004
   (cSeq (cReg 1 (
    oMv (kc .nilSl) s002)) <|
   cExit 0)
   (cSkip)) <|
  cSeq (cReg 4 (
   oSeq (oBuildSlice 91 1 [] 0 [] 0 s005) <|
   oSeq (oMv g000 s006) <|
   oSeq (oGen (.append 1 8 91 [(.int .u64 0)] (.t 5) (.t 6)) 2 s007) <|
   oMv g007 s002)) <|
  cExit 0⟩
def afn82 : AFn := ⟨4, 25, [(8, none)],
  .seq (.region [
   ⟨(some 4), .box 62 (.t 0), none⟩,
   ⟨(some 6), .box 62 (.t 2), none⟩,
   ⟨(some 8), .mv (.c .nilSl), none⟩]) <|
  .seq (.region [
   ⟨(some 12), .load (some 2) (.t 4), none⟩,
   ⟨(some 13), .mv (.t 1), none⟩,
   ⟨(some 14), .load (some 2) (.t 6), none⟩,
   ⟨(some 15), .mv (.t 3), none⟩,
   ⟨(some 16), .call (.c (.fn (.func 110) [] [])) [(.t 12), (.t 13), (.t 14), (.t 15)], none⟩,
   ⟨(some 11), .mv (.t 16), none⟩,
   ⟨(some 17), .extract 0 (.t 11), none⟩,
   ⟨(some 18), .extract 1 (.t 11), none⟩,
   ⟨(some 9), .mv (.t 17), none⟩,
   ⟨(some 10), .mv (.t 18), none⟩]) <|
  .seq (.region [
   ⟨(some 20), .mv (.t 9), none⟩,
   ⟨(some 21), .call (.c (.fn (.func 91) [] [])) [(.t 20)], none⟩,
   ⟨(some 19), .mv (.t 21), none⟩,
   ⟨(some 22), .extract 0 (.t 19), none⟩,
   ⟨(some 23), .extract 1 (.t 19), none⟩,
   ⟨(some 9), .mv (.t 22), none⟩]) <|
  .seq (.region [
   ⟨(some 24), .mv (.t 9), none⟩,
   ⟨(some 8), .mv (.t 24), none⟩]) <|
  .ret, none⟩
noncomputable def ffn82 : FFn := ⟨4, 25, [(8, none)],
  cSeq (cReg 3 (
   oSeq (oBox 62 g000 0 s004) <|
   oSeq (oBox 62 g002 1 s006) <|
   oMv (kc .nilSl) s010)) <|
  cSeq (cReg 10 (
   oSeq (oLoadN 2 g004 s014) <|
   oSeq (oMv g001 s015) <|
   oSeq (oLoadN 2 g006 s016) <|
   oSeq (oMv g003 s017) <|
   oSeq (oCallF 110 (fun T => [g014 T, g015 T, g016 T, g017 T]) s020) <|
   oSeq (oMv g020 s013) <|
   oSeq (oP (vExt 0 g013) s021) <|
   oSeq (oP (vExt 1 g013) s022) <|
   oSeq (oMv g021 s011) <|
   oMv g022 s012)) <|
  cSeq (cReg 6 (
   oSeq (oMv g011 s024) <|
   oSeq (oCallF 91 (fun T => [g024 T]) s025) <|
   oSeq (oMv g025 s023) <|
   oSeq (oP (vExt 0 g023) s026) <|
   oSeq (oP (vExt 1 g023) s027) <|
   oMv g026 s011)) <|
  cSeq (cReg 2 (
   oSeq (oMv g011 s030) <|
   oMv g030 s010)) <|
  cExit 0⟩
def afn110 : AFn := ⟨4, 29, [(8, none), (9, none)],
  .seq (.region [
   ⟨(some 4), .box 62 (.t 0), none⟩,
   ⟨(some 6), .box 62 (.t 2), none⟩,
   ⟨(some 7), .box 27 (.t 3), none⟩,
   ⟨(some 8), .mv (.c .nilSl), none⟩,
   ⟨(some 9), .mv (.c (.int .i64 0)), none⟩]) <|
  .seq (.seq (.region [
   ⟨(some 11), .load (some 2) (.t 4), none⟩,
   ⟨(some 12), .call (.c (.fn (.func 41) [] [])) [(.t 11)], none⟩,
   ⟨(some 13), .bin .neq .int (.t 12) (.c (.int .i64 0)), none⟩,
   ⟨(some 14), .mv (.t 13), none⟩,
   ⟨(some 15), .load (some 2) (.t 6), (some (14, false))⟩,
   ⟨(some 16), .call (.c (.fn (.func 41) [] [])) [(.t 15)], (some (14, false))⟩,
   ⟨(some 17), .bin .neq .int (.t 16) (.c (.int .i64 0)), (some (14, false))⟩,
   ⟨(some 18), .pick (.t 14) (.c (.bool true)) (.t 17), none⟩]) <|
  .cond (.t 18)
   (.seq (.region [
    ⟨(some 8), .mv (.c .nilSl), none⟩,
    ⟨(some 9), .mv (.c (.int .i64 8)), none⟩]) <|
   .ret)
   (.skip)) <|
  .seq (.seq (.region [
   ⟨(some 19), .mv (.t 1), none⟩,
   ⟨(some 20), .load none (.t 7), none⟩,
   ⟨(some 21), .buildSlice 27 1 [.nilSl, .nilSl] 2 [((0, 1), (.t 19)), ((1, 1), (.t 20))], none⟩,
   ⟨(some 22), .call (.c (.fn (.func 73) [] [])) [(.t 21)], none⟩,
   ⟨(some 10), .mv (.t 22), none⟩]) <|
  .seq (.region [
   ⟨(some 23), .mv (.t 10), none⟩,
   ⟨(some 24), .bin .neq .int (.t 23) (.c (.int .i64 0)), none⟩]) <|
  .cond (.t 24)
   (.seq (.region [
    ⟨(some 25), .mv (.t 10), none⟩,
    ⟨(some 8), .mv (.c .nilSl), none⟩,
    ⟨(some 9), .mv (.t 25), none⟩]) <|
   .ret)
   (.skip)) <|
  .seq (.region [
   ⟨(some 26), .mv (.t 1), none⟩,
   ⟨(some 27), .mkfn (.func 128) [] [(.t 4), (.t 6), (.t 7)], none⟩,
   ⟨(some 28), .call (.c (.fn (.func 88) [] [])) [(.t 26), (.t 27)], none⟩,
   ⟨(some 8), .mv (.t 28), none⟩,
   ⟨(some 9), .mv (.c (.int .i64 0)), none⟩]) <|
  .ret, none⟩
noncomputable def ffn110 : FFn := ⟨4, 29, [(8, none), (9, none)],
  cSeq (cReg 5 (
   oSeq (oBox 62 g000 0 s004) <|
   oSeq (oBox 62 g002 1 s006) <|
   oSeq (oBox 27 g003 2 s007) <|
   oSeq (oMv (kc .nilSl) s010) <|
   oMv (kc (.int .i64 0)) s011)) <|
  cSeq (cSeq (cReg 8 (
   oSeq (oLoadN 2 g004 s013) <|
   oSeq (oCallF 41 (fun T => [g013 T]) s014) <|
   oSeq (oP (vNeq g014 (kc (.int .i64 0))) s015) <|
   oSeq (oMv g015 s016) <|
   oSeq (oGuard g016 false s017 (oLoadN 2 g006 s017)) <|
   oSeq (oGuard g016 false s020 (oCallF 41 (fun T => [g017 T]) s020)) <|
   oSeq (oGuard g016 false s021 (oP (vNeq g020 (kc (.int .i64 0))) s021)) <|
   oP (vPick g016 (kc (.bool true)) g021) s022)) <|
  cCond g022
   (cSeq (cReg 2 (
    oSeq (oMv (kc .nilSl) s010) <|
    oMv (kc (.int .i64 8)) s011)) <|
   cExit 0)
   (cSkip)) <|
  cSeq (cSeq (cReg 5 (
   oSeq (oMv g001 s023) <|
   oSeq (oLoad g007 s024) <|
   oSeq (oBuildSlice 27 1 [.nilSl, .nilSl] 2 [((0, 1), g023), ((1, 1), g024)] 2 s025) <|
   oSeq (oCallF 73 (fun T => [g025 T]) s026) <|
   oMv g026 s012)) <|
  cSeq (cReg 2 (
   oSeq (oMv g012 s027) <|
   oP (vNeq g027 (kc (.int .i64 0))) s030)) <|
  cCond g030
   (cSeq (cReg 3 (
    oSeq (oMv g012 s031) <|
    oSeq (oMv (kc .nilSl) s010) <|
    oMv g031 s011)) <|
   cExit 0)
   (cSkip)) <|
  cSeq (cReg 5 (
   oSeq (oMv g001 s032) <|
   oSeq (oGen (.mkfn (.func 128) [] [(.t 4), (.t 6), (.t 7)]) 1 s033) <|
   oSeq (oCallF 88 (fun T => [g032 T, g033 T]) s034) <|
   oSeq (oMv g034 s010) <|
   oMv (kc (.int .i64 0)) s011)) <|
  cExit 0⟩
def afn128 : AFn := ⟨5, 18, [(7, (some (some 2)))],
  .seq (.region [
   ⟨(some 6), .box 62 (.t 1), none⟩,
   ⟨(some 7), .alloc 62 [(.bool false), .nilSl], none⟩]) <|
  .seq (.draw [
   ⟨(some 8), .load (some 2) (.t 2), none, [(2, none)], 0, [(0, [])]⟩,
   ⟨(some 9), .load (some 2) (.t 6), none, [(6, none)], 0, [(0, [])]⟩,
   ⟨(some 10), .call (.c (.fn (.func 107) [] [])) [(.t 8), (.t 9)], none, [(8, (some 0)), (9, (some 1))], 2, [(0, [])]⟩,
   ⟨(some 11), .load (some 2) (.t 3), none, [(3, none)], 0, [(0, []), (1, [])]⟩,
   ⟨(some 12), .load none (.t 4), none, [(4, none)], 0, [(0, []), (1, [])]⟩,
   ⟨(some 13), .mv (.t 0), none, [(0, none)], 0, [(0, []), (1, [])]⟩,
   ⟨(some 14), .indexAddr 2 (.t 12) (.t 13), none, [(12, (some 4)), (13, (some 5))], 0, [(0, []), (1, [])]⟩,
   ⟨(some 15), .load (some 2) (.t 14), none, [(14, (some 6))], 0, [(0, []), (1, [])]⟩,
   ⟨(some 16), .call (.c (.fn (.func 107) [] [])) [(.t 11), (.t 15)], none, [(11, (some 3)), (15, (some 7))], 2, [(1, [])]⟩,
   ⟨(some 17), .call (.c (.fn (.func 106) [] [])) [(.t 10), (.t 16)], none, [(10, (some 2)), (16, (some 8))], 2, [(2, [])]⟩,
   ⟨none, .store 2 (.t 7) (.t 17), none, [(7, none), (17, (some 9))], 2, [(3, [])]⟩] []) <|
  .ret, none⟩
noncomputable def ffn128 : FFn := ⟨5, 18, [(7, (some (some 2)))],
  cSeq (cReg 2 (
   oSeq (oBox 62 g001 0 s006) <|
   oAlloc 62 [(.bool false), .nilSl] 1 s007)) <|
  cSeq (cDrw 11 (
   dSeq (dLook 0 [] (oLoadN 2 g002 s010)) <|
   dSeq (dLook 0 [] (oLoadN 2 g006 s011)) <|
   dSeq (dAct 0 [] (oCallF 107 (fun T => [g010 T, g011 T]) s012)) <|
   dSeq (dLook 1 [] (oLoadN 2 g003 s013)) <|
   dSeq (dLook 1 [] (oLoad g004 s014)) <|
   dSeq (dLook 0 [] (oMv g000 s015)) <|
   dSeq (dLook 0 [] (oP (vIdx 2 g014 g015) s016)) <|
   dSeq (dLook 1 [] (oLoadN 2 g016 s017)) <|
   dSeq (dAct 0 [] (oCallF 107 (fun T => [g013 T, g017 T]) s020)) <|
   dSeq (dAct 0 [] (oCallF 106 (fun T => [g012 T, g020 T]) s021)) <|
   dSeq (dAct 0 [] (oStoreN 2 g007 g021 noPut)) <|
   dNop)
   (ckSeq (ckOne g013 3 [] (oLoadN 2 g003 s013)) <|
  ckSeq (ckOne g014 3 [] (oLoad g004 s014)) <|
  ckSeq (ckOne g017 3 [] (oLoadN 2 g016 s017)) <|
  ckNop) []) <|
  cExit 0⟩
def afn88 : AFn := ⟨2, 27, [(4, none)],
  .seq (.region [
   ⟨(some 4), .mv (.c .nilSl), none⟩]) <|
  .seq (.region [
   ⟨(some 8), .mv (.t 0), none⟩,
   ⟨(some 9), .len (.t 8), none⟩,
   ⟨(some 10), .mksl 62 2 32 [(.bool false), .nilSl] (.t 9) (.t 9), none⟩,
   ⟨(some 5), .mv (.t 10), none⟩]) <|
  .seq (.seq (.region [
   ⟨(some 11), .mv (.t 0), none⟩,
   ⟨(some 12), .len (.t 11), none⟩,
   ⟨(some 13), .mv (.c (.int .i64 0)), none⟩]) <|
  .block 0 (.loop (.seq (.region [
     ⟨(some 14), .bin .lss .int (.t 13) (.t 12), none⟩]) <|
    .seq (.cond (.t 14)
     (.skip)
     (.exit 0)) <|
    .seq (.block 1 (.seq (.region [
      ⟨(some 15), .mv (.t 13), none⟩,
      ⟨(some 16), .indexAddr 2 (.t 11) (.t 13), none⟩,
      ⟨(some 17), .load (some 2) (.t 16), none⟩,
      ⟨(some 7), .alloc 62 [(.bool false), .nilSl], none⟩,
      ⟨(some 6), .mv (.t 15), none⟩,
      ⟨none, .store 2 (.t 7) (.t 17), none⟩]) <|
     .region [
      ⟨(some 18), .mv (.t 5), none⟩,
      ⟨(some 19), .mv (.t 6), none⟩,
      ⟨(some 20), .mv (.t 1), none⟩,
      ⟨(some 21), .mv (.t 6), none⟩,
      ⟨(some 22), .load (some 2) (.t 7), none⟩,
      ⟨(some 23), .call (.t 20) [(.t 21), (.t 22)], none⟩,
      ⟨(some 24), .indexAddr 2 (.t 18) (.t 19), none⟩,
      ⟨none, .store 2 (.t 24) (.t 23), none⟩])) <|
    .region [
     ⟨(some 25), .bin .add .int (.t 13) (.c (.int .i64 1)), none⟩,
     ⟨(some 13), .mv (.t 25), none⟩]))) <|
  .seq (.region [
   ⟨(some 26), .mv (.t 5), none⟩,
   ⟨(some 4), .mv (.t 26), none⟩]) <|
  .ret, none⟩
noncomputable def ffn88 : FFn := ⟨2, 27, [(4, none)],
  cSeq (cReg 1 (
   oMv (kc .nilSl) s004)) <|
  cSeq (cReg 4 (
   oSeq (oMv g000 s010) <|
   oSeq (oP (vLen g010) s011) <|
   oSeq (oGen (.mksl 62 2 32 [(.bool false), .nilSl] (.t 9) (.t 9)) 2 s012) <|
   oMv g012 s005)) <|
  cSeq (cSeq (cReg 3 (
   oSeq (oMv g000 s013) <|
   oSeq (oP (vLen g013) s014) <|
   oMv (kc (.int .i64 0)) s015)) <|
  cBlock 1 (cLoop 1000000 (cSeq (cReg 1 (
     oP (vLss g015 g014) s016)) <|
    cSeq (cCond g016
     (cSkip)
     (cExit 1)) <|
    cSeq (cBlock 3 (cSeq (cReg 6 (
      oSeq (oMv g015 s017) <|
      oSeq (oP (vIdx 2 g013 g015) s020) <|
      oSeq (oLoadN 2 g020 s021) <|
      oSeq (oAlloc 62 [(.bool false), .nilSl] 3 s007) <|
      oSeq (oMv g017 s006) <|
      oStoreN 2 g007 g021 noPut)) <|
     cReg 8 (
      oSeq (oMv g005 s022) <|
      oSeq (oMv g006 s023) <|
      oSeq (oMv g001 s024) <|
      oSeq (oMv g006 s025) <|
      oSeq (oLoadN 2 g007 s026) <|
      oSeq (oCall g024 (fun T => [g025 T, g026 T]) s027) <|
      oSeq (oP (vIdx 2 g022 g023) s030) <|
      oStoreN 2 g030 g027 noPut))) <|
    cReg 2 (
     oSeq (oP (vAdd g015 (kc (.int .i64 1))) s031) <|
     oMv g031 s015)))) <|
  cSeq (cReg 2 (
   oSeq (oMv g005 s032) <|
   oMv g032 s004)) <|
  cExit 0⟩
def afn91 : AFn := ⟨1, 24, [(2, none), (3, none)],
  .seq (.region [
   ⟨(some 2), .mv (.c .nilSl), none⟩,
   ⟨(some 3), .mv (.c (.int .i64 0)), none⟩]) <|
  .seq (.region [
   ⟨(some 7), .mv (.t 0), none⟩,
   ⟨(some 8), .call (.c (.fn (.func 115) [] [])) [(.t 7)], none⟩,
   ⟨(some 6), .mv (.t 8), none⟩,
   ⟨(some 9), .extract 0 (.t 6), none⟩,
   ⟨(some 10), .extract 1 (.t 6), none⟩,
   ⟨(some 4), .alloc 60 [.nilSl], none⟩,
   ⟨none, .store 1 (.t 4) (.t 9), none⟩,
   ⟨(some 5), .mv (.t 10), none⟩]) <|
  .seq (.block 0 (.seq (.region [
    ⟨(some 12), .mv (.t 5), none⟩,
    ⟨(some 13), .bin .neq .int (.t 12) (.c (.int .i64 0)), none⟩,
    ⟨(some 11), .mv (.t 13), none⟩]) <|
   .cond (.t 11)
    (.seq (.region [
     ⟨(some 14), .mv (.t 5), none⟩,
     ⟨(some 2), .mv (.c .nilSl), none⟩,
     ⟨(some 3), .mv (.t 14), none⟩]) <|
    .ret)
    (.seq (.region [
     ⟨(some 16), .load none (.t 4), none⟩,
     ⟨(some 17), .len (.t 16), none⟩,
     ⟨(some 18), .bin .eql .int (.t 17) (.c (.int .i64 0)), none⟩,
     ⟨(some 15), .mv (.t 18), none⟩]) <|
    .cond (.t 15)
     (.seq (.region [
      ⟨(some 19), .mv (.t 0), none⟩,
      ⟨(some 20), .call (.c (.fn (.func 69) [] [])) [(.t 19)], none⟩,
      ⟨(some 2), .mv (.t 20), none⟩,
      ⟨(some 3), .mv (.c (.int .i64 0)), none⟩]) <|
     .ret)
     (.skip)))) <|
  .seq (.region [
   ⟨(some 21), .mv (.t 0), none⟩,
   ⟨(some 22), .mkfn (.func 116) [] [(.t 4)], none⟩,
   ⟨(some 23), .call (.c (.fn (.func 88) [] [])) [(.t 21), (.t 22)], none⟩,
   ⟨(some 2), .mv (.t 23), none⟩,
   ⟨(some 3), .mv (.c (.int .i64 0)), none⟩]) <|
  .ret, none⟩
noncomputable def ffn91 : FFn := ⟨1, 24, [(2, none), (3, none)],
  cSeq (cReg 2 (
   oSeq (oMv (kc .nilSl) s002) <|
   oMv (kc (.int .i64 0)) s003)) <|
  cSeq (cReg 8 (
   oSeq (oMv g000 s007) <|
   oSeq (oCallF 115 (fun T => [g007 T]) s010) <|
   oSeq (oMv g010 s006) <|
   oSeq (oP (vExt 0 g006) s011) <|
   oSeq (oP (vExt 1 g006) s012) <|
   oSeq (oAlloc 60 [.nilSl] 5 s004) <|
   oSeq (oStore g004 g011 noPut) <|
   oMv g012 s005)) <|
  cSeq (cBlock 1 (cSeq (cReg 3 (
    oSeq (oMv g005 s014) <|
    oSeq (oP (vNeq g014 (kc (.int .i64 0))) s015) <|
    oMv g015 s013)) <|
   cCond g013
    (cSeq (cReg 3 (
     oSeq (oMv g005 s016) <|
     oSeq (oMv (kc .nilSl) s002) <|
     oMv g016 s003)) <|
    cExit 0)
    (cSeq (cReg 4 (
     oSeq (oLoad g004 s020) <|
     oSeq (oP (vLen g020) s021) <|
     oSeq (oP (vEql g021 (kc (.int .i64 0))) s022) <|
     oMv g022 s017)) <|
    cCond g017
     (cSeq (cReg 4 (
      oSeq (oMv g000 s023) <|
      oSeq (oCallF 69 (fun T => [g023 T]) s024) <|
      oSeq (oMv g024 s002) <|
      oMv (kc (.int .i64 0)) s003)) <|
     cExit 0)
     (cSkip)))) <|
  cSeq (cReg 5 (
   oSeq (oMv g000 s025) <|
   oSeq (oGen (.mkfn (.func 116) [] [(.t 4)]) 1 s026) <|
   oSeq (oCallF 88 (fun T => [g025 T, g026 T]) s027) <|
   oSeq (oMv g027 s002) <|
   oMv (kc (.int .i64 0)) s003)) <|
  cExit 0⟩
def afn115 : AFn := ⟨1, 25, [(2, none), (3, none)],
  .seq (.region [
   ⟨(some 2), .mv (.c .nilSl), none⟩,
   ⟨(some 3), .mv (.c (.int .i64 0)), none⟩]) <|
  .seq (.seq (.region [
   ⟨(some 6), .mv (.t 0), none⟩,
   ⟨(some 7), .buildSlice 27 1 [.nilSl] 1 [((0, 1), (.t 6))], none⟩,
   ⟨(some 8), .call (.c (.fn (.func 73) [] [])) [(.t 7)], none⟩,
   ⟨(some 3), .mv (.t 8), none⟩]) <|
  .seq (.region [
   ⟨(some 9), .mv (.t 3), none⟩,
   ⟨(some 10), .bin .neq .int (.t 9) (.c (.int .i64 0)), none⟩]) <|
  .cond (.t 10)
   (.ret)
   (.skip)) <|
  .seq (.seq (.region [
   ⟨(some 11), .mv (.t 0), none⟩,
   ⟨(some 12), .len (.t 11), none⟩,
   ⟨(some 13), .mv (.c (.int .i64 0)), none⟩]) <|
  .block 0 (.loop (.seq (.region [
     ⟨(some 14), .bin .lss .int (.t 13) (.t 12), none⟩]) <|
    .seq (.cond (.t 14)
     (.skip)
     (.exit 0)) <|
    .seq (.block 1 (.seq (.region [
      ⟨(some 15), .indexAddr 2 (.t 11) (.t 13), none⟩,
      ⟨(some 16), .load (some 2) (.t 15), none⟩,
      ⟨(some 5), .alloc 62 [(.bool false), .nilSl], none⟩,
      ⟨none, .store 2 (.t 5) (.t 16), none⟩]) <|
     .region [
      ⟨(some 18), .mv (.t 2), none⟩,
      ⟨(some 19), .fieldAddr 1 (.t 5), none⟩,
      ⟨(some 20), .load none (.t 19), none⟩,
      ⟨(some 21), .call (.c (.fn (.func 131) [] [])) [(.t 18), (.t 20)], none⟩,
      ⟨(some 17), .mv (.t 21), none⟩,
      ⟨(some 22), .extract 0 (.t 17), none⟩,
      ⟨(some 23), .extract 1 (.t 17), none⟩,
      ⟨(some 2), .mv (.t 22), none⟩])) <|
    .region [
     ⟨(some 24), .bin .add .int (.t 13) (.c (.int .i64 1)), none⟩,
     ⟨(some 13), .mv (.t 24), none⟩]))) <|
  .ret, none⟩
noncomputable def ffn115 : FFn := ⟨1, 25, [(2, none), (3, none)],
  cSeq (cReg 2 (
   oSeq (oMv (kc .nilSl) s002) <|
   oMv (kc (.int .i64 0)) s003)) <|
  cSeq (cSeq (cReg 4 (
   oSeq (oMv g000 s006) <|
   oSeq (oBuildSlice 27 1 [.nilSl] 1 [((0, 1), g006)] 1 s007) <|
   oSeq (oCallF 73 (fun T => [g007 T]) s010) <|
   oMv g010 s003)) <|
  cSeq (cReg 2 (
   oSeq (oMv g003 s011) <|
   oP (vNeq g011 (kc (.int .i64 0))) s012)) <|
  cCond g012
   (cExit 0)
   (cSkip)) <|
  cSeq (cSeq (cReg 3 (
   oSeq (oMv g000 s013) <|
   oSeq (oP (vLen g013) s014) <|
   oMv (kc (.int .i64 0)) s015)) <|
  cBlock 1 (cLoop 1000000 (cSeq (cReg 1 (
     oP (vLss g015 g014) s016)) <|
    cSeq (cCond g016
     (cSkip)
     (cExit 1)) <|
    cSeq (cBlock 3 (cSeq (cReg 4 (
      oSeq (oP (vIdx 2 g013 g015) s017) <|
      oSeq (oLoadN 2 g017 s020) <|
      oSeq (oAlloc 62 [(.bool false), .nilSl] 2 s005) <|
      oStoreN 2 g005 g020 noPut)) <|
     cReg 8 (
      oSeq (oMv g002 s022) <|
      oSeq (oP (vFA 1 g005) s023) <|
      oSeq (oLoad g023 s024) <|
      oSeq (oCallF 131 (fun T => [g022 T, g024 T]) s025) <|
      oSeq (oMv g025 s021) <|
      oSeq (oP (vExt 0 g021) s026) <|
      oSeq (oP (vExt 1 g021) s027) <|
      oMv g026 s002))) <|
    cReg 2 (
     oSeq (oP (vAdd g015 (kc (.int .i64 1))) s030) <|
     oMv g030 s015)))) <|
  cExit 0⟩
def afn131 : AFn := ⟨2, 31, [(4, none), (5, none)],
  .seq (.region [
   ⟨(some 4), .mv (.c .nilSl), none⟩,
   ⟨(some 5), .mv (.c (.int .i64 0)), none⟩]) <|
  .seq (.seq (.region [
   ⟨(some 10), .mv (.t 0), none⟩,
   ⟨(some 11), .mv (.t 1), none⟩,
   ⟨(some 12), .buildSlice 60 1 [.nilSl, .nilSl] 2 [((0, 1), (.t 10)), ((1, 1), (.t 11))], none⟩,
   ⟨(some 13), .call (.c (.fn (.func 139) [] [])) [(.t 12)], none⟩,
   ⟨(some 6), .mv (.t 13), none⟩]) <|
  .seq (.region [
   ⟨(some 14), .mv (.t 6), none⟩,
   ⟨(some 15), .bin .neq .int (.t 14) (.c (.int .i64 0)), none⟩]) <|
  .cond (.t 15)
   (.seq (.region [
    ⟨(some 16), .mv (.t 6), none⟩,
    ⟨(some 4), .mv (.c .nilSl), none⟩,
    ⟨(some 5), .mv (.t 16), none⟩]) <|
   .ret)
   (.skip)) <|
  .seq (.block 0 (.loop (.seq (.seq (.region [
     ⟨(some 17), .mv (.t 1), none⟩,
     ⟨(some 18), .len (.t 17), none⟩,
     ⟨(some 19), .bin .gtr .int (.t 18) (.c (.int .i64 0)), none⟩]) <|
    .cond (.t 19)
     (.skip)
     (.exit 0)) <|
    .block 1 (.seq (.region [
      ⟨(some 21), .mv (.t 0), none⟩,
      ⟨(some 22), .mv (.t 1), none⟩,
      ⟨(some 23), .call (.c (.fn (.func 140) [] [])) [(.t 21), (.t 22)], none⟩,
      ⟨(some 20), .mv (.t 23), none⟩,
      ⟨(some 24), .extract 0 (.t 20), none⟩,
      ⟨(some 25), .extract 1 (.t 20), none⟩,
      ⟨(some 26), .extract 2 (.t 20), none⟩,
      ⟨(some 7), .mv (.t 24), none⟩,
      ⟨(some 8), .mv (.t 25), none⟩,
      ⟨(some 9), .mv (.t 26), none⟩]) <|
     .region [
      ⟨(some 27), .mv (.t 1), none⟩,
      ⟨(some 28), .mv (.t 8), none⟩,
      ⟨(some 0), .mv (.t 27), none⟩,
      ⟨(some 1), .mv (.t 28), none⟩])))) <|
  .seq (.region [
   ⟨(some 29), .mv (.t 0), none⟩,
   ⟨(some 30), .append 1 8 91 [(.int .u64 0)] (.c .nilSl) (.t 29), none⟩,
   ⟨(some 4), .mv (.t 30), none⟩,
   ⟨(some 5), .mv (.c (.int .i64 0)), none⟩]) <|
  .ret, none⟩
noncomputable def ffn131 : FFn := ⟨2, 31, [(4, none), (5, none)],
  cSeq (cReg 2 (
   oSeq (oMv (kc .nilSl) s004) <|
   oMv (kc (.int .i64 0)) s005)) <|
  cSeq (cSeq (cReg 5 (
   oSeq (oMv g000 s012) <|
   oSeq (oMv g001 s013) <|
   oSeq (oBuildSlice 60 1 [.nilSl, .nilSl] 2 [((0, 1), g012), ((1, 1), g013)] 2 s014) <|
   oSeq (oCallF 139 (fun T => [g014 T]) s015) <|
   oMv g015 s006)) <|
  cSeq (cReg 2 (
   oSeq (oMv g006 s016) <|
   oP (vNeq g016 (kc (.int .i64 0))) s017)) <|
  cCond g017
   (cSeq (cReg 3 (
    oSeq (oMv g006 s020) <|
    oSeq (oMv (kc .nilSl) s004) <|
    oMv g020 s005)) <|
   cExit 0)
   (cSkip)) <|
  cSeq (cBlock 1 (cLoop 1000000 (cSeq (cSeq (cReg 3 (
     oSeq (oMv g001 s021) <|
     oSeq (oP (vLen g021) s022) <|
     oP (vGtr g022 (kc (.int .i64 0))) s023)) <|
    cCond g023
     (cSkip)
     (cExit 1)) <|
    cBlock 3 (cSeq (cReg 10 (
      oSeq (oMv g000 s025) <|
      oSeq (oMv g001 s026) <|
      oSeq (oCallF 140 (fun T => [g025 T, g026 T]) s027) <|
      oSeq (oMv g027 s024) <|
      oSeq (oP (vExt 0 g024) s030) <|
      oSeq (oP (vExt 1 g024) s031) <|
      oSeq (oP (vExt 2 g024) s032) <|
      oSeq (oMv g030 s007) <|
      oSeq (oMv g031 s010) <|
      oMv g032 s011)) <|
     cReg 4 (
      oSeq (oMv g001 s033) <|
      oSeq (oMv g010 s034) <|
      oSeq (oMv g033 s000) <|
      oMv g034 s001))))) <|
  cSeq (cReg 4 (
   oSeq (oMv g000 s035) <|
   oSeq (oGen (.append 1 8 91 [(.int .u64 0)] (.c .nilSl) (.t 29)) 1 s036) <|
   oSeq (oMv g036 s004) <|
   oMv (kc (.int .i64 0)) s005)) <|
  cExit 0⟩
def afn139 : AFn := ⟨1, 18, [(2, none)],
  .seq (.region [
   ⟨(some 2), .mv (.c (.int .i64 0)), none⟩]) <|
  .seq (.seq (.region [
   ⟨(some 6), .mv (.t 0), none⟩,
   ⟨(some 7), .len (.t 6), none⟩,
   ⟨(some 8), .mv (.c (.int .i64 0)), none⟩]) <|
  .block 0 (.loop (.seq (.region [
     ⟨(some 9), .bin .lss .int (.t 8) (.t 7), none⟩]) <|
    .seq (.cond (.t 9)
     (.skip)
     (.exit 0)) <|
    .seq (.block 1 (.seq (.region [
      ⟨(some 10), .indexAddr 1 (.t 6) (.t 8), none⟩,
      ⟨(some 11), .load none (.t 10), none⟩,
      ⟨(some 4), .mv (.t 11), none⟩]) <|
     .seq (.region [
      ⟨(some 12), .mv (.t 4), none⟩,
      ⟨(some 13), .call (.c (.fn (.func 60) [] [])) [(.t 12)], none⟩,
      ⟨(some 5), .mv (.t 13), none⟩]) <|
     .seq (.region [
      ⟨(some 14), .mv (.t 5), none⟩,
      ⟨(some 15), .bin .neq .int (.t 14) (.c (.int .i64 0)), none⟩]) <|
     .cond (.t 15)
      (.seq (.region [
       ⟨(some 16), .mv (.t 5), none⟩,
       ⟨(some 2), .mv (.t 16), none⟩]) <|
      .ret)
      (.skip))) <|
    .region [
     ⟨(some 17), .bin .add .int (.t 8) (.c (.int .i64 1)), none⟩,
     ⟨(some 8), .mv (.t 17), none⟩]))) <|
  .seq (.region [
   ⟨(some 2), .mv (.c (.int .i64 0)), none⟩]) <|
  .ret, none⟩
noncomputable def ffn139 : FFn := ⟨1, 18, [(2, none)],
  cSeq (cReg 1 (
   oMv (kc (.int .i64 0)) s002)) <|
  cSeq (cSeq (cReg 3 (
   oSeq (oMv g000 s006) <|
   oSeq (oP (vLen g006) s007) <|
   oMv (kc (.int .i64 0)) s010)) <|
  cBlock 1 (cLoop 1000000 (cSeq (cReg 1 (
     oP (vLss g010 g007) s011)) <|
    cSeq (cCond g011
     (cSkip)
     (cExit 1)) <|
    cSeq (cBlock 3 (cSeq (cReg 3 (
      oSeq (oP (vIdx 1 g006 g010) s012) <|
      oSeq (oLoad g012 s013) <|
      oMv g013 s004)) <|
     cSeq (cReg 3 (
      oSeq (oMv g004 s014) <|
      oSeq (oCallF 60 (fun T => [g014 T]) s015) <|
      oMv g015 s005)) <|
     cSeq (cReg 2 (
      oSeq (oMv g005 s016) <|
      oP (vNeq g016 (kc (.int .i64 0))) s017)) <|
     cCond g017
      (cSeq (cReg 2 (
       oSeq (oMv g005 s020) <|
       oMv g020 s002)) <|
      cExit 0)
      (cSkip))) <|
    cReg 2 (
     oSeq (oP (vAdd g010 (kc (.int .i64 1))) s021) <|
     oMv g021 s010)))) <|
  cSeq (cReg 1 (
   oMv (kc (.int .i64 0)) s002)) <|
  cExit 0⟩
def afn140 : AFn := ⟨2, 123, [(4, none), (5, none), (6, none)],
  .seq (.region [
   ⟨(some 4), .mv (.c .nilSl), none⟩,
   ⟨(some 5), .mv (.c .nilSl), none⟩,
   ⟨(some 6), .mv (.c (.int .i64 0)), none⟩]) <|
  .seq (.seq (.region [
   ⟨(some 19), .mv (.t 0), none⟩,
   ⟨(some 20), .mv (.t 1), none⟩,
   ⟨(some 21), .call (.c (.fn (.func 148) [] [])) [(.t 19), (.t 20)], none⟩,
   ⟨(some 6), .mv (.t 21), none⟩]) <|
  .seq (.region [
   ⟨(some 22), .mv (.t 6), none⟩,
   ⟨(some 23), .bin .neq .int (.t 22) (.c (.int .i64 0)), none⟩]) <|
  .cond (.t 23)
   (.ret)
   (.skip)) <|
  .seq (.seq (.region [
   ⟨(some 24), .mv (.t 1), none⟩,
   ⟨(some 25), .len (.t 24), none⟩,
   ⟨(some 26), .bin .eql .int (.t 25) (.c (.int .i64 1)), none⟩]) <|
  .cond (.t 26)
   (.seq (.region [
    ⟨(some 28), .mv (.t 0), none⟩,
    ⟨(some 29), .mv (.t 1), none⟩,
    ⟨(some 30), .indexAddr 1 (.t 29) (.c (.int .i64 0)), none⟩,
    ⟨(some 31), .load none (.t 30), none⟩,
    ⟨(some 32), .call (.c (.fn (.func 149) [] [])) [(.t 28), (.t 31)], none⟩,
    ⟨(some 27), .mv (.t 32), none⟩,
    ⟨(some 33), .extract 0 (.t 27), none⟩,
    ⟨(some 34), .extract 1 (.t 27), none⟩,
    ⟨(some 35), .extract 2 (.t 27), none⟩,
    ⟨(some 7), .mv (.t 33), none⟩,
    ⟨(some 8), .mv (.t 34), none⟩,
    ⟨(some 9), .mv (.t 35), none⟩]) <|
   .seq (.region [
    ⟨(some 36), .mv (.t 7), none⟩,
    ⟨(some 37), .mv (.t 8), none⟩,
    ⟨(some 38), .call (.c (.fn (.func 55) [] [])) [(.t 37)], none⟩,
    ⟨(some 39), .mv (.t 9), none⟩,
    ⟨(some 4), .mv (.t 36), none⟩,
    ⟨(some 5), .mv (.t 38), none⟩,
    ⟨(some 6), .mv (.t 39), none⟩]) <|
   .ret)
   (.skip)) <|
  .seq (.seq (.region [
   ⟨(some 40), .mv (.t 0), none⟩,
   ⟨(some 41), .len (.t 40), none⟩,
   ⟨(some 42), .mv (.t 1), none⟩,
   ⟨(some 43), .len (.t 42), none⟩,
   ⟨(some 44), .bin .lss .int (.t 41) (.t 43), none⟩]) <|
  .cond (.t 44)
   (.seq (.region [
    ⟨(some 45), .mv (.t 0), none⟩,
    ⟨(some 46), .call (.c (.fn (.func 90) [] [])) [(.t 45)], none⟩,
    ⟨(some 4), .mv (.c .nilSl), none⟩,
    ⟨(some 5), .mv (.t 46), none⟩,
    ⟨(some 6), .mv (.c (.int .i64 0)), none⟩]) <|
   .ret)
   (.skip)) <|
  .seq (.region [
   ⟨(some 47), .mv (.t 1), none⟩,
   ⟨(some 48), .mv (.t 1), none⟩,
   ⟨(some 49), .len (.t 48), none⟩,
   ⟨(some 50), .bin .sub .int (.t 49) (.c (.int .i64 1)), none⟩,
   ⟨(some 51), .indexAddr 1 (.t 47) (.t 50), none⟩,
   ⟨(some 52), .load none (.t 51), none⟩,
   ⟨(some 53), .call (.c (.fn (.func 150) [] [])) [(.t 52)], none⟩,
   ⟨(some 10), .mv (.t 53), none⟩]) <|
  .seq (.region [
   ⟨(some 55), .mv (.t 0), none⟩,
   ⟨(some 56), .mv (.t 10), none⟩,
   ⟨(some 57), .call (.c (.fn (.func 151) [] [])) [(.t 55), (.t 56)], none⟩,
   ⟨(some 54), .mv (.t 57), none⟩,
   ⟨(some 58), .extract 0 (.t 54), none⟩,
   ⟨(some 59), .extract 1 (.t 54), none⟩,
   ⟨(some 11), .mv (.t 58), none⟩,
   ⟨(some 12), .mv (.t 59), none⟩]) <|
  .seq (.region [
   ⟨(some 61), .mv (.t 1), none⟩,
   ⟨(some 62), .mv (.t 10), none⟩,
   ⟨(some 63), .call (.c (.fn (.func 151) [] [])) [(.t 61), (.t 62)], none⟩,
   ⟨(some 60), .mv (.t 63), none⟩,
   ⟨(some 64), .extract 0 (.t 60), none⟩,
   ⟨(some 65), .extract 1 (.t 60), none⟩,
   ⟨(some 13), .mv (.t 64), none⟩,
   ⟨(some 14), .mv (.t 65), none⟩]) <|
  .seq (.region [
   ⟨(some 66), .mv (.t 11), none⟩,
   ⟨(some 67), .mv (.t 0), none⟩,
   ⟨(some 68), .len (.t 67), none⟩,
   ⟨(some 69), .bin .add .int (.t 68) (.c (.int .i64 1)), none⟩,
   ⟨(some 70), .mv (.t 11), none⟩,
   ⟨(some 71), .len (.t 70), none⟩,
   ⟨(some 72), .bin .sub .int (.t 69) (.t 71), none⟩,
   ⟨(some 73), .bad, none⟩,
   ⟨(some 74), .mv (.t 13), none⟩,
   ⟨(some 75), .build [.nilSl, .nilSl] [((0, 1), (.t 73)), ((1, 1), (.t 74))], none⟩,
   ⟨(some 76), .box 193 (.t 75), none⟩,
   ⟨(some 15), .mv (.t 76), none⟩]) <|
  .seq (.region [
   ⟨(some 77), .mv (.t 0), none⟩,
   ⟨(some 78), .len (.t 77), none⟩,
   ⟨(some 79), .mv (.t 1), none⟩,
   ⟨(some 80), .len (.t 79), none⟩,
   ⟨(some 81), .bin .sub .int (.t 78) (.t 80), none⟩,
   ⟨(some 82), .bin .add .int (.t 81) (.c (.int .i64 1)), none⟩,
   ⟨(some 83), .mksl 91 1 8 [(.int .u64 0)] (.t 82) (.t 82), none⟩,
   ⟨(some 4), .mv (.t 83), none⟩]) <|
  .seq (.seq (.region [
   ⟨(some 84), .mv (.t 4), none⟩,
   ⟨(some 85), .len (.t 84), none⟩,
   ⟨(some 86), .bin .sub .int (.t 85) (.c (.int .i64 1)), none⟩,
   ⟨(some 16), .mv (.t 86), none⟩]) <|
  .block 0 (.loop (.seq (.seq (.region [
     ⟨(some 87), .mv (.t 16), none⟩,
     ⟨(some 88), .bin .geq .int (.t 87) (.c (.int .i64 0)), none⟩]) <|
    .cond (.t 88)
     (.skip)
     (.exit 0)) <|
    .seq (.block 1 (.seq (.region [
      ⟨(some 91), .mv (.t 15), none⟩,
      ⟨(some 92), .mv (.t 16), none⟩,
      ⟨(some 93), .call (.c (.fn (.func 152) [] [])) [(.t 91), (.t 92)], none⟩,
      ⟨(some 17), .mv (.t 93), none⟩]) <|
     .seq (.seq (.region [
      ⟨(some 94), .mv (.t 15), none⟩,
      ⟨(some 95), .mv (.t 17), none⟩,
      ⟨(some 96), .mv (.t 16), none⟩,
      ⟨(some 97), .call (.c (.fn (.func 153) [] [])) [(.t 94), (.t 95), (.t 96)], none⟩,
      ⟨(some 18), .mv (.t 97), none⟩]) <|
     .block 2 (.loop (.seq (.seq (.region [
        ⟨(some 98), .mv (.t 18), none⟩]) <|
       .cond (.t 98)
        (.skip)
        (.exit 2)) <|
       .seq (.block 3 (.region [
         ⟨(some 103), .mv (.t 17), none⟩,
         ⟨(some 104), .bin .sub .int (.t 103) (.c (.int .u64 1)), none⟩,
         ⟨(some 17), .mv (.t 104), none⟩])) <|
       .region [
        ⟨(some 99), .mv (.t 15), none⟩,
        ⟨(some 100), .mv (.t 16), none⟩,
        ⟨(some 101), .call (.c (.fn (.func 154) [] [])) [(.t 99), (.t 100)], none⟩,
        ⟨(some 102), .un .not (.t 101), none⟩,
        ⟨(some 18), .mv (.t 102), none⟩]))) <|
     .region [
      ⟨(some 105), .mv (.t 4), none⟩,
      ⟨(some 106), .mv (.t 16), none⟩,
      ⟨(some 107), .mv (.t 17), none⟩,
      ⟨(some 108), .indexAddr 1 (.t 105) (.t 106), none⟩,
      ⟨none, .store 1 (.t 108) (.t 107), none⟩])) <|
    .region [
     ⟨(some 89), .mv (.t 16), none⟩,
     ⟨(some 90), .bin .sub .int (.t 89) (.c (.int .i64 1)), none⟩,
     ⟨(some 16), .mv (.t 90), none⟩]))) <|
  .seq (.region [
   ⟨(some 110), .mv (.t 15), none⟩,
   ⟨(some 111), .nilCheck (.t 110), none⟩,
   ⟨(some 112), .fieldAddr 0 (.t 111), none⟩,
   ⟨(some 113), .load none (.t 112), none⟩,
   ⟨(some 114), .call (.c (.fn (.func 156) [] [])) [(.t 113)], none⟩,
   ⟨(some 115), .mv (.t 10), none⟩,
   ⟨(some 116), .call (.c (.fn (.func 155) [] [])) [(.t 114), (.t 115)], none⟩,
   ⟨(some 109), .mv (.t 116), none⟩,
   ⟨(some 117), .extract 0 (.t 109), none⟩,
   ⟨(some 118), .extract 1 (.t 109), none⟩,
   ⟨(some 5), .mv (.t 117), none⟩,
   ⟨(some 6), .mv (.t 118), none⟩]) <|
  .seq (.region [
   ⟨(some 119), .mv (.t 4), none⟩,
   ⟨(some 120), .call (.c (.fn (.func 156) [] [])) [(.t 119)], none⟩,
   ⟨(some 121), .mv (.t 5), none⟩,
   ⟨(some 122), .mv (.t 6), none⟩,
   ⟨(some 4), .mv (.t 120), none⟩,
   ⟨(some 5), .mv (.t 121), none⟩,
   ⟨(some 6), .mv (.t 122), none⟩]) <|
  .ret, none⟩
noncomputable def ffn140 : FFn := ⟨2, 123, [(4, none), (5, none), (6, none)],
  cSeq (cReg 3 (
   oSeq (oMv (kc .nilSl) s004) <|
   oSeq (oMv (kc .nilSl) s005) <|
   oMv (kc (.int .i64 0)) s006)) <|
  cSeq (cSeq (cReg 4 (
   oSeq (oMv g000 s023) <|
   oSeq (oMv g001 s024) <|
   oSeq (oCallF 148 (fun T => [g023 T, g024 T]) s025) <|
   oMv g025 s006)) <|
  cSeq (cReg 2 (
   oSeq (oMv g006 s026) <|
   oP (vNeq g026 (kc (.int .i64 0))) s027)) <|
  cCond g027
   (cExit 0)
   (cSkip)) <|
  cSeq (cSeq (cReg 3 (
   oSeq (oMv g001 s030) <|
   oSeq (oP (vLen g030) s031) <|
   oP (vEql g031 (kc (.int .i64 1))) s032)) <|
  cCond g032
   (cSeq (cReg 12 (
    oSeq (oMv g000 s034) <|
    oSeq (oMv g001 s035) <|
    oSeq (oP (vIdx 1 g035 (kc (.int .i64 0))) s036) <|
    oSeq (oLoad g036 s037) <|
    oSeq (oCallF 149 (fun T => [g034 T, g037 T]) s040) <|
    oSeq (oMv g040 s033) <|
    oSeq (oP (vExt 0 g033) s041) <|
    oSeq (oP (vExt 1 g033) s042) <|
    oSeq (oP (vExt 2 g033) s043) <|
    oSeq (oMv g041 s007) <|
    oSeq (oMv g042 s010) <|
    oMv g043 s011)) <|
   cSeq (cReg 7 (
    oSeq (oMv g007 s044) <|
    oSeq (oMv g010 s045) <|
    oSeq (oCallF 55 (fun T => [g045 T]) s046) <|
    oSeq (oMv g011 s047) <|
    oSeq (oMv g044 s004) <|
    oSeq (oMv g046 s005) <|
    oMv g047 s006)) <|
   cExit 0)
   (cSkip)) <|
  cSeq (cSeq (cReg 5 (
   oSeq (oMv g000 s050) <|
   oSeq (oP (vLen g050) s051) <|
   oSeq (oMv g001 s052) <|
   oSeq (oP (vLen g052) s053) <|
   oP (vLss g051 g053) s054)) <|
  cCond g054
   (cSeq (cReg 5 (
    oSeq (oMv g000 s055) <|
    oSeq (oCallF 90 (fun T => [g055 T]) s056) <|
    oSeq (oMv (kc .nilSl) s004) <|
    oSeq (oMv g056 s005) <|
    oMv (kc (.int .i64 0)) s006)) <|
   cExit 0)
   (cSkip)) <|
  cSeq (cReg 8 (
   oSeq (oMv g001 s057) <|
   oSeq (oMv g001 s060) <|
   oSeq (oP (vLen g060) s061) <|
   oSeq (oP (vSub g061 (kc (.int .i64 1))) s062) <|
   oSeq (oP (vIdx 1 g057 g062) s063) <|
   oSeq (oLoad g063 s064) <|
   oSeq (oCallF 150 (fun T => [g064 T]) s065) <|
   oMv g065 s012)) <|
  cSeq (cReg 8 (
   oSeq (oMv g000 s067) <|
   oSeq (oMv g012 s070) <|
   oSeq (oCallF 151 (fun T => [g067 T, g070 T]) s071) <|
   oSeq (oMv g071 s066) <|
   oSeq (oP (vExt 0 g066) s072) <|
   oSeq (oP (vExt 1 g066) s073) <|
   oSeq (oMv g072 s013) <|
   oMv g073 s014)) <|
  cSeq (cReg 8 (
   oSeq (oMv g001 s075) <|
   oSeq (oMv g012 s076) <|
   oSeq (oCallF 151 (fun T => [g075 T, g076 T]) s077) <|
   oSeq (oMv g077 s074) <|
   oSeq (oP (vExt 0 g074) s100) <|
   oSeq (oP (vExt 1 g074) s101) <|
   oSeq (oMv g100 s015) <|
   oMv g101 s016)) <|
  cSeq (cReg 12 (
   oSeq (oMv g013 s102) <|
   oSeq (oMv g000 s103) <|
   oSeq (oP (vLen g103) s104) <|
   oSeq (oP (vAdd g104 (kc (.int .i64 1))) s105) <|
   oSeq (oMv g013 s106) <|
   oSeq (oP (vLen g106) s107) <|
   oSeq (oP (vSub g105 g107) s110) <|
   oSeq (oGen (.bad) 7 s111) <|
   oSeq (oMv g015 s112) <|
   oSeq (oP (vBuild [.nilSl, .nilSl] [((0, 1), g111), ((1, 1), g112)]) s113) <|
   oSeq (oBox 193 g113 10 s114) <|
   oMv g114 s017)) <|
  cSeq (cReg 8 (
   oSeq (oMv g000 s115) <|
   oSeq (oP (vLen g115) s116) <|
   oSeq (oMv g001 s117) <|
   oSeq (oP (vLen g117) s120) <|
   oSeq (oP (vSub g116 g120) s121) <|
   oSeq (oP (vAdd g121 (kc (.int .i64 1))) s122) <|
   oSeq (oGen (.mksl 91 1 8 [(.int .u64 0)] (.t 82) (.t 82)) 6 s123) <|
   oMv g123 s004)) <|
  cSeq (cSeq (cReg 4 (
   oSeq (oMv g004 s124) <|
   oSeq (oP (vLen g124) s125) <|
   oSeq (oP (vSub g125 (kc (.int .i64 1))) s126) <|
   oMv g126 s020)) <|
  cBlock 1 (cLoop 1000000 (cSeq (cSeq (cReg 2 (
     oSeq (oMv g020 s127) <|
     oP (vGeq g127 (kc (.int .i64 0))) s130)) <|
    cCond g130
     (cSkip)
     (cExit 1)) <|
    cSeq (cBlock 3 (cSeq (cReg 4 (
      oSeq (oMv g017 s133) <|
      oSeq (oMv g020 s134) <|
      oSeq (oCallF 152 (fun T => [g133 T, g134 T]) s135) <|
      oMv g135 s021)) <|
     cSeq (cSeq (cReg 5 (
      oSeq (oMv g017 s136) <|
      oSeq (oMv g021 s137) <|
      oSeq (oMv g020 s140) <|
      oSeq (oCallF 153 (fun T => [g136 T, g137 T, g140 T]) s141) <|
      oMv g141 s022)) <|
     cBlock 5 (cLoop 1000000 (cSeq (cSeq (cReg 1 (
        oMv g022 s142)) <|
       cCond g142
        (cSkip)
        (cExit 5)) <|
       cSeq (cBlock 7 (cReg 3 (
         oSeq (oMv g021 s147) <|
         oSeq (oP (vSub g147 (kc (.int .u64 1))) s150) <|
         oMv g150 s021))) <|
       cReg 5 (
        oSeq (oMv g017 s143) <|
        oSeq (oMv g020 s144) <|
        oSeq (oCallF 154 (fun T => [g143 T, g144 T]) s145) <|
        oSeq (oGen (.un .not (.t 101)) 3 s146) <|
        oMv g146 s022)))) <|
     cReg 5 (
      oSeq (oMv g004 s151) <|
      oSeq (oMv g020 s152) <|
      oSeq (oMv g021 s153) <|
      oSeq (oP (vIdx 1 g151 g152) s154) <|
      oStore g154 g153 noPut))) <|
    cReg 3 (
     oSeq (oMv g020 s131) <|
     oSeq (oP (vSub g131 (kc (.int .i64 1))) s132) <|
     oMv g132 s020)))) <|
  cSeq (cReg 12 (
   oSeq (oMv g017 s156) <|
   oSeq (oGen (.nilCheck (.t 110)) 1 s157) <|
   oSeq (oP (vFA 0 g157) s160) <|
   oSeq (oLoad g160 s161) <|
   oSeq (oCallF 156 (fun T => [g161 T]) s162) <|
   oSeq (oMv g012 s163) <|
   oSeq (oCallF 155 (fun T => [g162 T, g163 T]) s164) <|
   oSeq (oMv g164 s155) <|
   oSeq (oP (vExt 0 g155) s165) <|
   oSeq (oP (vExt 1 g155) s166) <|
   oSeq (oMv g165 s005) <|
   oMv g166 s006)) <|
  cSeq (cReg 7 (
   oSeq (oMv g004 s167) <|
   oSeq (oCallF 156 (fun T => [g167 T]) s170) <|
   oSeq (oMv g005 s171) <|
   oSeq (oMv g006 s172) <|
   oSeq (oMv g170 s004) <|
   oSeq (oMv g171 s005) <|
   oMv g172 s006)) <|
  cExit 0⟩
def afn148 : AFn := ⟨2, 18, [(4, none)],
  .seq (.region [
   ⟨(some 4), .mv (.c (.int .i64 0)), none⟩]) <|
  .seq (.block 0 (.seq (.region [
    ⟨(some 6), .mv (.t 0), none⟩,
    ⟨(some 7), .call (.c (.fn (.func 60) [] [])) [(.t 6)], none⟩,
    ⟨(some 8), .bin .neq .int (.t 7) (.c (.int .i64 0)), none⟩,
    ⟨(some 9), .mv (.t 8), none⟩,
    ⟨(some 10), .mv (.t 1), (some (9, false))⟩,
    ⟨(some 11), .call (.c (.fn (.func 60) [] [])) [(.t 10)], (some (9, false))⟩,
    ⟨(some 12), .bin .neq .int (.t 11) (.c (.int .i64 0)), (some (9, false))⟩,
    ⟨(some 13), .pick (.t 9) (.c (.bool true)) (.t 12), none⟩,
    ⟨(some 5), .mv (.t 13), none⟩]) <|
   .cond (.t 5)
    (.seq (.region [
     ⟨(some 4), .mv (.c (.int .i64 8)), none⟩]) <|
    .ret)
    (.seq (.region [
     ⟨(some 15), .mv (.t 1), none⟩,
     ⟨(some 16), .len (.t 15), none⟩,
     ⟨(some 17), .bin .eql .int (.t 16) (.c (.int .i64 0)), none⟩,
     ⟨(some 14), .mv (.t 17), none⟩]) <|
    .cond (.t 14)
     (.seq (.region [
      ⟨(some 4), .mv (.c (.int .i64 30)), none⟩]) <|
     .ret)
     (.skip)))) <|
  .seq (.region [
   ⟨(some 4), .mv (.c (.int .i64 0)), none⟩]) <|
  .ret, none⟩
noncomputable def ffn148 : FFn := ⟨2, 18, [(4, none)],
  cSeq (cReg 1 (
   oMv (kc (.int .i64 0)) s004)) <|
  cSeq (cBlock 1 (cSeq (cReg 9 (
    oSeq (oMv g000 s006) <|
    oSeq (oCallF 60 (fun T => [g006 T]) s007) <|
    oSeq (oP (vNeq g007 (kc (.int .i64 0))) s010) <|
    oSeq (oMv g010 s011) <|
    oSeq (oGuard g011 false s012 (oMv g001 s012)) <|
    oSeq (oGuard g011 false s013 (oCallF 60 (fun T => [g012 T]) s013)) <|
    oSeq (oGuard g011 false s014 (oP (vNeq g013 (kc (.int .i64 0))) s014)) <|
    oSeq (oP (vPick g011 (kc (.bool true)) g014) s015) <|
    oMv g015 s005)) <|
   cCond g005
    (cSeq (cReg 1 (
     oMv (kc (.int .i64 8)) s004)) <|
    cExit 0)
    (cSeq (cReg 4 (
     oSeq (oMv g001 s017) <|
     oSeq (oP (vLen g017) s020) <|
     oSeq (oP (vEql g020 (kc (.int .i64 0))) s021) <|
     oMv g021 s016)) <|
    cCond g016
     (cSeq (cReg 1 (
      oMv (kc (.int .i64 30)) s004)) <|
     cExit 0)
     (cSkip)))) <|
  cSeq (cReg 1 (
   oMv (kc (.int .i64 0)) s004)) <|
  cExit 0⟩
def afn149 : AFn := ⟨2, 36, [(4, (some none)), (5, (some none)), (6, none)],
  .seq (.region [
   ⟨(some 3), .box 91 (.t 1), none⟩,
   ⟨(some 4), .alloc 60 [.nilSl], none⟩,
   ⟨(some 5), .alloc 91 [(.int .u64 0)], none⟩,
   ⟨(some 6), .mv (.c (.int .i64 0)), none⟩]) <|
  .seq (.block 0 (.seq (.region [
    ⟨(some 10), .mv (.t 0), none⟩,
    ⟨(some 11), .call (.c (.fn (.func 60) [] [])) [(.t 10)], none⟩,
    ⟨(some 12), .bin .neq .int (.t 11) (.c (.int .i64 0)), none⟩,
    ⟨(some 9), .mv (.t 12), none⟩]) <|
   .cond (.t 9)
    (.seq (.region [
     ⟨none, .store 1 (.t 4) (.c .nilSl), none⟩,
     ⟨none, .store 1 (.t 5) (.c (.int .u64 0)), none⟩,
     ⟨(some 6), .mv (.c (.int .i64 8)), none⟩]) <|
    .ret)
    (.seq (.region [
     ⟨(some 14), .load none (.t 3), none⟩,
     ⟨(some 15), .bin .eql .int (.t 14) (.c (.int .u64 0)), none⟩,
     ⟨(some 13), .mv (.t 15), none⟩]) <|
    .cond (.t 13)
     (.seq (.region [
      ⟨none, .store 1 (.t 4) (.c .nilSl), none⟩,
      ⟨none, .store 1 (.t 5) (.c (.int .u64 0)), none⟩,
      ⟨(some 6), .mv (.c (.int .i64 30)), none⟩]) <|
     .ret)
     (.skip)))) <|
  .seq (.region [
   ⟨(some 16), .mv (.t 0), none⟩,
   ⟨(some 17), .len (.t 16), none⟩,
   ⟨(some 18), .mksl 91 1 8 [(.int .u64 0)] (.t 17) (.t 17), none⟩,
   ⟨none, .store 1 (.t 4) (.t 18), none⟩]) <|
  .seq (.seq (.region [
   ⟨(some 19), .mv (.t 0), none⟩,
   ⟨(some 20), .call (.c (.fn (.func 163) [] [])) [(.t 19)], none⟩]) <|
  .block 1 (.rangeFunc (.t 20) [21, 22] (.seq (.region [
    ⟨(some 7), .mv (.t 21), none⟩]) <|
   .region [
    ⟨(some 8), .mv (.t 22), none⟩]) (.block 2 (.draw [
      ⟨(some 24), .load none (.t 4), none, [(4, none)], 0, [(0, []), (1, [])]⟩,
      ⟨(some 25), .mv (.t 7), none, [(7, none)], 0, [(0, []), (1, [])]⟩,
      ⟨(some 26), .load none (.t 5), none, [(5, none)], 0, [(0, [])]⟩,
      ⟨(some 27), .mv (.t 8), none, [(8, none)], 0, [(0, [])]⟩,
      ⟨(some 28), .load none (.t 3), none, [(3, none)], 0, [(0, [])]⟩,
      ⟨(some 29), .call (.c (.fn (.func 164) [] [])) [(.t 26), (.t 27), (.t 28)], none, [(26, (some 2)), (27, (some 3)), (28, (some 4))], 2, [(0, [])]⟩,
      ⟨(some 23), .mv (.t 29), none, [(29, (some 5))], 0, [(1, [])]⟩,
      ⟨(some 30), .extract 0 (.t 23), none, [(23, (some 6))], 0, [(1, [])]⟩,
      ⟨(some 31), .extract 1 (.t 23), none, [(23, (some 6))], 0, [(1, []), (2, [])]⟩,
      ⟨(some 32), .indexAddr 1 (.t 24) (.t 25), none, [(24, (some 0)), (25, (some 1))], 0, [(1, [])]⟩,
      ⟨none, .store 1 (.t 32) (.t 30), none, [(32, (some 9)), (30, (some 7))], 2, [(1, [])]⟩,
      ⟨none, .store 1 (.t 5) (.t 31), none, [(5, none), (31, (some 8))], 2, [(2, [])]⟩] [])))) <|
  .seq (.draw [
   ⟨(some 33), .load none (.t 4), none, [(4, none)], 0, [(0, [])]⟩,
   ⟨(some 34), .call (.c (.fn (.func 156) [] [])) [(.t 33)], none, [(33, (some 0))], 2, [(0, [])]⟩,
   ⟨(some 35), .load none (.t 5), none, [(5, none)], 0, [(0, []), (1, []), (2, [])]⟩,
   ⟨none, .store 1 (.t 4) (.t 34), none, [(4, none), (34, (some 1))], 2, [(1, [])]⟩,
   ⟨none, .store 1 (.t 5) (.t 35), none, [(5, none), (35, (some 2))], 2, [(2, [])]⟩,
   ⟨(some 6), .mv (.c (.int .i64 0)), none, [], 0, [(3, [])]⟩] []) <|
  .ret, none⟩
noncomputable def ffn149 : FFn := ⟨2, 36, [(4, (some none)), (5, (some none)), (6, none)],
  cSeq (cReg 4 (
   oSeq (oBox 91 g001 0 s003) <|
   oSeq (oAlloc 60 [.nilSl] 1 s004) <|
   oSeq (oAlloc 91 [(.int .u64 0)] 2 s005) <|
   oMv (kc (.int .i64 0)) s006)) <|
  cSeq (cBlock 1 (cSeq (cReg 4 (
    oSeq (oMv g000 s012) <|
    oSeq (oCallF 60 (fun T => [g012 T]) s013) <|
    oSeq (oP (vNeq g013 (kc (.int .i64 0))) s014) <|
    oMv g014 s011)) <|
   cCond g011
    (cSeq (cReg 3 (
     oSeq (oStore g004 (kc .nilSl) noPut) <|
     oSeq (oStore g005 (kc (.int .u64 0)) noPut) <|
     oMv (kc (.int .i64 8)) s006)) <|
    cExit 0)
    (cSeq (cReg 3 (
     oSeq (oLoad g003 s016) <|
     oSeq (oP (vEql g016 (kc (.int .u64 0))) s017) <|
     oMv g017 s015)) <|
    cCond g015
     (cSeq (cReg 3 (
      oSeq (oStore g004 (kc .nilSl) noPut) <|
      oSeq (oStore g005 (kc (.int .u64 0)) noPut) <|
      oMv (kc (.int .i64 30)) s006)) <|
     cExit 0)
     (cSkip)))) <|
  cSeq (cReg 4 (
   oSeq (oMv g000 s020) <|
   oSeq (oP (vLen g020) s021) <|
   oSeq (oGen (.mksl 91 1 8 [(.int .u64 0)] (.t 17) (.t 17)) 2 s022) <|
   oStore g004 g022 noPut)) <|
  cSeq (cSeq (cReg 2 (
   oSeq (oMv g000 s023) <|
   oCallF 163 (fun T => [g023 T]) s024)) <|
  cBlock 3 (cSlow 1000000 false 36 (.rangeFunc (.t 20) [21, 22] (.seq (.region [
    ⟨(some 7), .mv (.t 21), none⟩]) <|
   .region [
    ⟨(some 8), .mv (.t 22), none⟩]) (.block 2 (.draw [
      ⟨(some 24), .load none (.t 4), none, [(4, none)], 0, [(0, []), (1, [])]⟩,
      ⟨(some 25), .mv (.t 7), none, [(7, none)], 0, [(0, []), (1, [])]⟩,
      ⟨(some 26), .load none (.t 5), none, [(5, none)], 0, [(0, [])]⟩,
      ⟨(some 27), .mv (.t 8), none, [(8, none)], 0, [(0, [])]⟩,
      ⟨(some 28), .load none (.t 3), none, [(3, none)], 0, [(0, [])]⟩,
      ⟨(some 29), .call (.c (.fn (.func 164) [] [])) [(.t 26), (.t 27), (.t 28)], none, [(26, (some 2)), (27, (some 3)), (28, (some 4))], 2, [(0, [])]⟩,
      ⟨(some 23), .mv (.t 29), none, [(29, (some 5))], 0, [(1, [])]⟩,
      ⟨(some 30), .extract 0 (.t 23), none, [(23, (some 6))], 0, [(1, [])]⟩,
      ⟨(some 31), .extract 1 (.t 23), none, [(23, (some 6))], 0, [(1, []), (2, [])]⟩,
      ⟨(some 32), .indexAddr 1 (.t 24) (.t 25), none, [(24, (some 0)), (25, (some 1))], 0, [(1, [])]⟩,
      ⟨none, .store 1 (.t 32) (.t 30), none, [(32, (some 9)), (30, (some 7))], 2, [(1, [])]⟩,
      ⟨none, .store 1 (.t 5) (.t 31), none, [(5, none), (31, (some 8))], 2, [(2, [])]⟩] []))))) <|
  cSeq (cDrw 6 (
   dSeq (dLook 0 [] (oLoad g004 s041)) <|
   dSeq (dAct 0 [] (oCallF 156 (fun T => [g041 T]) s042)) <|
   dSeq (dLook 1 [] (oLoad g005 s043)) <|
   dSeq (dAct 0 [] (oStore g004 g042 noPut)) <|
   dSeq (dAct 0 [] (oStore g005 g043 noPut)) <|
   dSeq (dLook 0 [] (oMv (kc (.int .i64 0)) s006)) <|
   dNop)
   (ckSeq (ckOne g043 2 [] (oLoad g005 s043)) <|
  ckSeq (ckOne g043 1 [] (oLoad g005 s043)) <|
  ckNop) []) <|
  cExit 0⟩
def afn163 : AFn := ⟨1, 4, [(2, none)],
  .seq (.region [
   ⟨(some 1), .box 60 (.t 0), none⟩,
   ⟨(some 2), .mv (.c .nilFn), none⟩]) <|
  .seq (.region [
   ⟨(some 3), .mkfn (.func 169) [] [(.t 1)], none⟩,
   ⟨(some 2), .mv (.t 3), none⟩]) <|
  .ret, none⟩
noncomputable def ffn163 : FFn := ⟨1, 4, [(2, none)],
  cSeq (cReg 2 (
   oSeq (oBox 60 g000 0 s001) <|
   oMv (kc .nilFn) s002)) <|
  cSeq (cReg 2 (
   oSeq (oGen (.mkfn (.func 169) [] [(.t 1)]) 0 s003) <|
   oMv g003 s002)) <|
  cExit 0⟩
def afn169 : AFn := ⟨2, 19, [],
  .seq (.region [
   ⟨(some 4), .load none (.t 1), none⟩,
   ⟨(some 5), .len (.t 4), none⟩,
   ⟨(some 6), .bin .sub .int (.t 5) (.c (.int .i64 1)), none⟩,
   ⟨(some 3), .mv (.t 6), none⟩]) <|
  .block 0 (.loop (.seq (.seq (.region [
     ⟨(some 7), .mv (.t 3), none⟩,
     ⟨(some 8), .bin .geq .int (.t 7) (.c (.int .i64 0)), none⟩]) <|
    .cond (.t 8)
     (.skip)
     (.exit 0)) <|
    .seq (.block 1 (.seq (.region [
      ⟨(some 11), .mv (.t 0), none⟩,
      ⟨(some 12), .mv (.t 3), none⟩,
      ⟨(some 13), .load none (.t 1), none⟩,
      ⟨(some 14), .mv (.t 3), none⟩,
      ⟨(some 15), .indexAddr 1 (.t 13) (.t 14), none⟩,
      ⟨(some 16), .load none (.t 15), none⟩,
      ⟨(some 17), .call (.t 11) [(.t 12), (.t 16)], none⟩,
      ⟨(some 18), .un .not (.t 17), none⟩]) <|
     .cond (.t 18)
      (.ret)
      (.skip))) <|
    .region [
     ⟨(some 9), .mv (.t 3), none⟩,
     ⟨(some 10), .bin .sub .int (.t 9) (.c (.int .i64 1)), none⟩,
     ⟨(some 3), .mv (.t 10), none⟩])), none⟩
noncomputable def ffn169 : FFn := ⟨2, 19, [],
  cSeq (cReg 4 (
   oSeq (oLoad g001 s004) <|
   oSeq (oP (vLen g004) s005) <|
   oSeq (oP (vSub g005 (kc (.int .i64 1))) s006) <|
   oMv g006 s003)) <|
  cBlock 1 (cLoop 1000000 (cSeq (cSeq (cReg 2 (
     oSeq (oMv g003 s007) <|
     oP (vGeq g007 (kc (.int .i64 0))) s010)) <|
    cCond g010
     (cSkip)
     (cExit 1)) <|
    cSeq (cBlock 3 (cSeq (cReg 8 (
      oSeq (oMv g000 s013) <|
      oSeq (oMv g003 s014) <|
      oSeq (oLoad g001 s015) <|
      oSeq (oMv g003 s016) <|
      oSeq (oP (vIdx 1 g015 g016) s017) <|
      oSeq (oLoad g017 s020) <|
      oSeq (oCall g013 (fun T => [g014 T, g020 T]) s021) <|
      oGen (.un .not (.t 17)) 7 s022)) <|
     cCond g022
      (cExit 0)
      (cSkip))) <|
    cReg 3 (
     oSeq (oMv g003 s011) <|
     oSeq (oP (vSub g011 (kc (.int .i64 1))) s012) <|
     oMv g012 s003)))⟩
def afn164 : AFn := ⟨3, 135, [(6, none), (7, none)],
  .seq (.region [
   ⟨(some 6), .mv (.c (.int .u64 0)), none⟩,
   ⟨(some 7), .mv (.c (.int .u64 0)), none⟩]) <|
  .seq (.seq (.region [
   ⟨(some 19), .mv (.t 2), none⟩,
   ⟨(some 20), .bin .eql .int (.t 19) (.c (.int .u64 0)), none⟩]) <|
  .cond (.t 20)
   (.region [
    ⟨(some 21), .bad, none⟩,
    ⟨none, .panic (.t 21), none⟩])
   (.skip)) <|
  .seq (.seq (.region [
   ⟨(some 22), .mv (.t 2), none⟩,
   ⟨(some 23), .mv (.t 0), none⟩,
   ⟨(some 24), .bin .leq .int (.t 22) (.t 23), none⟩]) <|
  .cond (.t 24)
   (.region [
    ⟨(some 25), .bad, none⟩,
    ⟨none, .panic (.t 25), none⟩])
   (.skip)) <|
  .seq (.seq (.region [
   ⟨(some 26), .mv (.t 0), none⟩,
   ⟨(some 27), .bin .eql .int (.t 26) (.c (.int .u64 0)), none⟩]) <|
  .cond (.t 27)
   (.seq (.draw [
    ⟨(some 28), .mv (.t 1), none, [(1, none)], 0, [(0, [])]⟩,
    ⟨(some 29), .mv (.t 2), none, [(2, none)], 0, [(0, [])]⟩,
    ⟨(some 30), .bin .quo .int (.t 28) (.t 29), none, [(28, (some 0)), (29, (some 1))], 0, [(0, [])]⟩,
    ⟨(some 31), .mv (.t 1), none, [(1, none)], 0, [(0, [])]⟩,
    ⟨(some 32), .mv (.t 2), none, [(2, none)], 0, [(0, [])]⟩,
    ⟨(some 33), .bin .rem .int (.t 31) (.t 32), none, [(31, (some 3)), (32, (some 4))], 0, [(0, [])]⟩,
    ⟨(some 6), .mv (.t 30), none, [(30, (some 2))], 0, [(0, [])]⟩,
    ⟨(some 7), .mv (.t 33), none, [(33, (some 5))], 0, [(0, [])]⟩] []) <|
   .ret)
   (.skip)) <|
  .seq (.region [
   ⟨(some 34), .mv (.t 2), none⟩,
   ⟨(some 35), .call (.c (.fn (.func 150) [] [])) [(.t 34)], none⟩,
   ⟨(some 36), .conv .u64 (.t 35), none⟩,
   ⟨(some 8), .mv (.t 36), none⟩]) <|
  .seq (.region [
   ⟨(some 37), .mv (.t 2), none⟩,
   ⟨(some 38), .mv (.t 8), none⟩,
   ⟨(some 39), .bin .shl .int (.t 37) (.t 38), none⟩,
   ⟨(some 2), .mv (.t 39), none⟩]) <|
  .seq (.region [
   ⟨(some 40), .mv (.t 2), none⟩,
   ⟨(some 41), .bin .shr .int (.t 40) (.c (.int .u64 32)), none⟩,
   ⟨(some 9), .mv (.t 41), none⟩]) <|
  .seq (.region [
   ⟨(some 42), .mv (.t 2), none⟩,
   ⟨(some 43), .bin .and .int (.t 42) (.c (.int .u64 4294967295)), none⟩,
   ⟨(some 10), .mv (.t 43), none⟩]) <|
  .seq (.region [
   ⟨(some 44), .mv (.t 0), none⟩,
   ⟨(some 45), .mv (.t 8), none⟩,
   ⟨(some 46), .bin .shl .int (.t 44) (.t 45), none⟩,
   ⟨(some 47), .mv (.t 1), none⟩,
   ⟨(some 48), .mv (.t 8), none⟩,
   ⟨(some 49), .bin .sub .int (.c (.int .u64 64)) (.t 48), none⟩,
   ⟨(some 50), .bin .shr .int (.t 47) (.t 49), none⟩,
   ⟨(some 51), .bin .or .int (.t 46) (.t 50), none⟩,
   ⟨(some 11), .mv (.t 51), none⟩]) <|
  .seq (.region [
   ⟨(some 52), .mv (.t 1), none⟩,
   ⟨(some 53), .mv (.t 8), none⟩,
   ⟨(some 54), .bin .shl .int (.t 52) (.t 53), none⟩,
   ⟨(some 12), .mv (.t 54), none⟩]) <|
  .seq (.region [
   ⟨(some 55), .mv (.t 12), none⟩,
   ⟨(some 56), .bin .shr .int (.t 55) (.c (.int .u64 32)), none⟩,
   ⟨(some 13), .mv (.t 56), none⟩]) <|
  .seq (.region [
   ⟨(some 57), .mv (.t 12), none⟩,
   ⟨(some 58), .bin .and .int (.t 57) (.c (.int .u64 4294967295)), none⟩,
   ⟨(some 14), .mv (.t 58), none⟩]) <|
  .seq (.region [
   ⟨(some 59), .mv (.t 11), none⟩,
   ⟨(some 60), .mv (.t 9), none⟩,
   ⟨(some 61), .bin .quo .int (.t 59) (.t 60), none⟩,
   ⟨(some 15), .mv (.t 61), none⟩]) <|
  .seq (.region [
   ⟨(some 62), .mv (.t 11), none⟩,
   ⟨(some 63), .mv (.t 15), none⟩,
   ⟨(some 64), .mv (.t 9), none⟩,
   ⟨(some 65), .bin .mul .int (.t 63) (.t 64), none⟩,
   ⟨(some 66), .bin .sub .int (.t 62) (.t 65), none⟩,
   ⟨(some 16), .mv (.t 66), none⟩]) <|
  .seq (.block 0 (.loop (.seq (.seq (.region [
     ⟨(some 67), .mv (.t 15), none⟩,
     ⟨(some 68), .bin .geq .int (.t 67) (.c (.int .u64 4294967296)), none⟩,
     ⟨(some 69), .mv (.t 68), none⟩,
     ⟨(some 70), .mv (.t 15), (some (69, false))⟩,
     ⟨(some 71), .mv (.t 10), (some (69, false))⟩,
     ⟨(some 72), .bin .mul .int (.t 70) (.t 71), (some (69, false))⟩,
     ⟨(some 73), .mv (.t 16), (some (69, false))⟩,
     ⟨(some 74), .bin .mul .int (.c (.int .u64 4294967296)) (.t 73), (some (69, false))⟩,
     ⟨(some 75), .mv (.t 13), (some (69, false))⟩,
     ⟨(some 76), .bin .add .int (.t 74) (.t 75), (some (69, false))⟩,
     ⟨(some 77), .bin .gtr .int (.t 72) (.t 76), (some (69, false))⟩,
     ⟨(some 78), .pick (.t 69) (.c (.bool true)) (.t 77), none⟩]) <|
    .cond (.t 78)
     (.skip)
     (.exit 0)) <|
    .block 1 (.seq (.region [
      ⟨(some 79), .mv (.t 15), none⟩,
      ⟨(some 80), .bin .sub .int (.t 79) (.c (.int .u64 1)), none⟩,
      ⟨(some 15), .mv (.t 80), none⟩]) <|
     .seq (.region [
      ⟨(some 81), .mv (.t 16), none⟩,
      ⟨(some 82), .mv (.t 9), none⟩,
      ⟨(some 83), .bin .add .int (.t 81) (.t 82), none⟩,
      ⟨(some 16), .mv (.t 83), none⟩]) <|
     .seq (.region [
      ⟨(some 84), .mv (.t 16), none⟩,
      ⟨(some 85), .bin .geq .int (.t 84) (.c (.int .u64 4294967296)), none⟩]) <|
     .cond (.t 85)
      (.exit 0)
      (.skip))))) <|
  .seq (.region [
   ⟨(some 86), .mv (.t 11), none⟩,
   ⟨(some 87), .bin .mul .int (.t 86) (.c (.int .u64 4294967296)), none⟩,
   ⟨(some 88), .mv (.t 13), none⟩,
   ⟨(some 89), .bin .add .int (.t 87) (.t 88), none⟩,
   ⟨(some 90), .mv (.t 15), none⟩,
   ⟨(some 91), .mv (.t 2), none⟩,
   ⟨(some 92), .bin .mul .int (.t 90) (.t 91), none⟩,
   ⟨(some 93), .bin .sub .int (.t 89) (.t 92), none⟩,
   ⟨(some 17), .mv (.t 93), none⟩]) <|
  .seq (.region [
   ⟨(some 94), .mv (.t 17), none⟩,
   ⟨(some 95), .mv (.t 9), none⟩,
   ⟨(some 96), .bin .quo .int (.t 94) (.t 95), none⟩,
   ⟨(some 18), .mv (.t 96), none⟩]) <|
  .seq (.region [
   ⟨(some 97), .mv (.t 17), none⟩,
   ⟨(some 98), .mv (.t 18), none⟩,
   ⟨(some 99), .mv (.t 9), none⟩,
   ⟨(some 100), .bin .mul .int (.t 98) (.t 99), none⟩,
   ⟨(some 101), .bin .sub .int (.t 97) (.t 100), none⟩,
   ⟨(some 16), .mv (.t 101), none⟩]) <|
  .seq (.block 2 (.loop (.seq (.seq (.region [
     ⟨(some 102), .mv (.t 18), none⟩,
     ⟨(some 103), .bin .geq .int (.t 102) (.c (.int .u64 4294967296)), none⟩,
     ⟨(some 104), .mv (.t 103), none⟩,
     ⟨(some 105), .mv (.t 18), (some (104, false))⟩,
     ⟨(some 106), .mv (.t 10), (some (104, false))⟩,
     ⟨(some 107), .bin .mul .int (.t 105) (.t 106), (some (104, false))⟩,
     ⟨(some 108), .mv (.t 16), (some (104, false))⟩,
     ⟨(some 109), .bin .mul .int (.c (.int .u64 4294967296)) (.t 108), (some (104, false))⟩,
     ⟨(some 110), .mv (.t 14), (some (104, false))⟩,
     ⟨(some 111), .bin .add .int (.t 109) (.t 110), (some (104, false))⟩,
     ⟨(some 112), .bin .gtr .int (.t 107) (.t 111), (some (104, false))⟩,
     ⟨(some 113), .pick (.t 104) (.c (.bool true)) (.t 112), none⟩]) <|
    .cond (.t 113)
     (.skip)
     (.exit 2)) <|
    .block 3 (.seq (.region [
      ⟨(some 114), .mv (.t 18), none⟩,
      ⟨(some 115), .bin .sub .int (.t 114) (.c (.int .u64 1)), none⟩,
      ⟨(some 18), .mv (.t 115), none⟩]) <|
     .seq (.region [
      ⟨(some 116), .mv (.t 16), none⟩,
      ⟨(some 117), .mv (.t 9), none⟩,
      ⟨(some 118), .bin .add .int (.t 116) (.t 117), none⟩,
      ⟨(some 16), .mv (.t 118), none⟩]) <|
     .seq (.region [
      ⟨(some 119), .mv (.t 16), none⟩,
      ⟨(some 120), .bin .geq .int (.t 119) (.c (.int .u64 4294967296)), none⟩]) <|
     .cond (.t 120)
      (.exit 2)
      (.skip))))) <|
  .seq (.region [
   ⟨(some 121), .mv (.t 15), none⟩,
   ⟨(some 122), .bin .mul .int (.t 121) (.c (.int .u64 4294967296)), none⟩,
   ⟨(some 123), .mv (.t 18), none⟩,
   ⟨(some 124), .bin .add .int (.t 122) (.t 123), none⟩,
   ⟨(some 125), .mv (.t 17), none⟩,
   ⟨(some 126), .bin .mul .int (.t 125) (.c (.int .u64 4294967296)), none⟩,
   ⟨(some 127), .mv (.t 14), none⟩,
   ⟨(some 128), .bin .add .int (.t 126) (.t 127), none⟩,
   ⟨(some 129), .mv (.t 18), none⟩,
   ⟨(some 130), .mv (.t 2), none⟩,
   ⟨(some 131), .bin .mul .int (.t 129) (.t 130), none⟩,
   ⟨(some 132), .bin .sub .int (.t 128) (.t 131), none⟩,
   ⟨(some 133), .mv (.t 8), none⟩,
   ⟨(some 134), .bin .shr .int (.t 132) (.t 133), none⟩,
   ⟨(some 6), .mv (.t 124), none⟩,
   ⟨(some 7), .mv (.t 134), none⟩]) <|
  .ret, none⟩
noncomputable def ffn164 : FFn := ⟨3, 135, [(6, none), (7, none)],
  cSeq (cReg 2 (
   oSeq (oMv (kc (.int .u64 0)) s006) <|
   oMv (kc (.int .u64 0)) s007)) <|
  cSeq (cSeq (cReg 2 (
   oSeq (oMv g002 s023) <|
   oP (vEql g023 (kc (.int .u64 0))) s024)) <|
  cCond g024
   (cReg 2 (
    oSeq (oGen (.bad) 0 s025) <|
    oGen (.panic (.t 21)) 1 noPut))
   (cSkip)) <|
  cSeq (cSeq (cReg 3 (
   oSeq (oMv g002 s026) <|
   oSeq (oMv g000 s027) <|
   oP (vLeq g026 g027) s030)) <|
  cCond g030
   (cReg 2 (
    oSeq (oGen (.bad) 0 s031) <|
    oGen (.panic (.t 25)) 1 noPut))
   (cSkip)) <|
  cSeq (cSeq (cReg 2 (
   oSeq (oMv g000 s032) <|
   oP (vEql g032 (kc (.int .u64 0))) s033)) <|
  cCond g033
   (cSeq (cDrw 8 (
    dSeq (dLook 0 [] (oMv g001 s034)) <|
    dSeq (dLook 0 [] (oMv g002 s035)) <|
    dSeq (dLook 0 [] (oGen (.bin .quo .int (.t 28) (.t 29)) 2 s036)) <|
    dSeq (dLook 0 [] (oMv g001 s037)) <|
    dSeq (dLook 0 [] (oMv g002 s040)) <|
    dSeq (dLook 0 [] (oGen (.bin .rem .int (.t 31) (.t 32)) 5 s041)) <|
    dSeq (dLook 0 [] (oMv g036 s006)) <|
    dSeq (dLook 0 [] (oMv g041 s007)) <|
    dNop)
    (ckNop) []) <|
   cExit 0)
   (cSkip)) <|
  cSeq (cReg 4 (
   oSeq (oMv g002 s042) <|
   oSeq (oCallF 150 (fun T => [g042 T]) s043) <|
   oSeq (oGen (.conv .u64 (.t 35)) 2 s044) <|
   oMv g044 s010)) <|
  cSeq (cReg 4 (
   oSeq (oMv g002 s045) <|
   oSeq (oMv g010 s046) <|
   oSeq (oGen (.bin .shl .int (.t 37) (.t 38)) 2 s047) <|
   oMv g047 s002)) <|
  cSeq (cReg 3 (
   oSeq (oMv g002 s050) <|
   oSeq (oGen (.bin .shr .int (.t 40) (.c (.int .u64 32))) 1 s051) <|
   oMv g051 s011)) <|
  cSeq (cReg 3 (
   oSeq (oMv g002 s052) <|
   oSeq (oGen (.bin .and .int (.t 42) (.c (.int .u64 4294967295))) 1 s053) <|
   oMv g053 s012)) <|
  cSeq (cReg 9 (
   oSeq (oMv g000 s054) <|
   oSeq (oMv g010 s055) <|
   oSeq (oGen (.bin .shl .int (.t 44) (.t 45)) 2 s056) <|
   oSeq (oMv g001 s057) <|
   oSeq (oMv g010 s060) <|
   oSeq (oP (vSub (kc (.int .u64 64)) g060) s061) <|
   oSeq (oGen (.bin .shr .int (.t 47) (.t 49)) 6 s062) <|
   oSeq (oGen (.bin .or .int (.t 46) (.t 50)) 7 s063) <|
   oMv g063 s013)) <|
  cSeq (cReg 4 (
   oSeq (oMv g001 s064) <|
   oSeq (oMv g010 s065) <|
   oSeq (oGen (.bin .shl .int (.t 52) (.t 53)) 2 s066) <|
   oMv g066 s014)) <|
  cSeq (cReg 3 (
   oSeq (oMv g014 s067) <|
   oSeq (oGen (.bin .shr .int (.t 55) (.c (.int .u64 32))) 1 s070) <|
   oMv g070 s015)) <|
  cSeq (cReg 3 (
   oSeq (oMv g014 s071) <|
   oSeq (oGen (.bin .and .int (.t 57) (.c (.int .u64 4294967295))) 1 s072) <|
   oMv g072 s016)) <|
  cSeq (cReg 4 (
   oSeq (oMv g013 s073) <|
   oSeq (oMv g011 s074) <|
   oSeq (oGen (.bin .quo .int (.t 59) (.t 60)) 2 s075) <|
   oMv g075 s017)) <|
  cSeq (cReg 6 (
   oSeq (oMv g013 s076) <|
   oSeq (oMv g017 s077) <|
   oSeq (oMv g011 s100) <|
   oSeq (oP (vMul g077 g100) s101) <|
   oSeq (oP (vSub g076 g101) s102) <|
   oMv g102 s020)) <|
  cSeq (cBlock 1 (cLoop 1000000 (cSeq (cSeq (cReg 12 (
     oSeq (oMv g017 s103) <|
     oSeq (oP (vGeq g103 (kc (.int .u64 4294967296))) s104) <|
     oSeq (oMv g104 s105) <|
     oSeq (oGuard g105 false s106 (oMv g017 s106)) <|
     oSeq (oGuard g105 false s107 (oMv g012 s107)) <|
     oSeq (oGuard g105 false s110 (oP (vMul g106 g107) s110)) <|
     oSeq (oGuard g105 false s111 (oMv g020 s111)) <|
     oSeq (oGuard g105 false s112 (oP (vMul (kc (.int .u64 4294967296)) g111) s112)) <|
     oSeq (oGuard g105 false s113 (oMv g015 s113)) <|
     oSeq (oGuard g105 false s114 (oP (vAdd g112 g113) s114)) <|
     oSeq (oGuard g105 false s115 (oP (vGtr g110 g114) s115)) <|
     oP (vPick g105 (kc (.bool true)) g115) s116)) <|
    cCond g116
     (cSkip)
     (cExit 1)) <|
    cBlock 3 (cSeq (cReg 3 (
      oSeq (oMv g017 s117) <|
      oSeq (oP (vSub g117 (kc (.int .u64 1))) s120) <|
      oMv g120 s017)) <|
     cSeq (cReg 4 (
      oSeq (oMv g020 s121) <|
      oSeq (oMv g011 s122) <|
      oSeq (oP (vAdd g121 g122) s123) <|
      oMv g123 s020)) <|
     cSeq (cReg 2 (
      oSeq (oMv g020 s124) <|
      oP (vGeq g124 (kc (.int .u64 4294967296))) s125)) <|
     cCond g125
      (cExit 1)
      (cSkip))))) <|
  cSeq (cReg 9 (
   oSeq (oMv g013 s126) <|
   oSeq (oP (vMul g126 (kc (.int .u64 4294967296))) s127) <|
   oSeq (oMv g015 s130) <|
   oSeq (oP (vAdd g127 g130) s131) <|
   oSeq (oMv g017 s132) <|
   oSeq (oMv g002 s133) <|
   oSeq (oP (vMul g132 g133) s134) <|
   oSeq (oP (vSub g131 g134) s135) <|
   oMv g135 s021)) <|
  cSeq (cReg 4 (
   oSeq (oMv g021 s136) <|
   oSeq (oMv g011 s137) <|
   oSeq (oGen (.bin .quo .int (.t 94) (.t 95)) 2 s140) <|
   oMv g140 s022)) <|
  cSeq (cReg 6 (
   oSeq (oMv g021 s141) <|
   oSeq (oMv g022 s142) <|
   oSeq (oMv g011 s143) <|
   oSeq (oP (vMul g142 g143) s144) <|
   oSeq (oP (vSub g141 g144) s145) <|
   oMv g145 s020)) <|
  cSeq (cBlock 5 (cLoop 1000000 (cSeq (cSeq (cReg 12 (
     oSeq (oMv g022 s146) <|
     oSeq (oP (vGeq g146 (kc (.int .u64 4294967296))) s147) <|
     oSeq (oMv g147 s150) <|
     oSeq (oGuard g150 false s151 (oMv g022 s151)) <|
     oSeq (oGuard g150 false s152 (oMv g012 s152)) <|
     oSeq (oGuard g150 false s153 (oP (vMul g151 g152) s153)) <|
     oSeq (oGuard g150 false s154 (oMv g020 s154)) <|
     oSeq (oGuard g150 false s155 (oP (vMul (kc (.int .u64 4294967296)) g154) s155)) <|
     oSeq (oGuard g150 false s156 (oMv g016 s156)) <|
     oSeq (oGuard g150 false s157 (oP (vAdd g155 g156) s157)) <|
     oSeq (oGuard g150 false s160 (oP (vGtr g153 g157) s160)) <|
     oP (vPick g150 (kc (.bool true)) g160) s161)) <|
    cCond g161
     (cSkip)
     (cExit 5)) <|
    cBlock 7 (cSeq (cReg 3 (
      oSeq (oMv g022 s162) <|
      oSeq (oP (vSub g162 (kc (.int .u64 1))) s163) <|
      oMv g163 s022)) <|
     cSeq (cReg 4 (
      oSeq (oMv g020 s164) <|
      oSeq (oMv g011 s165) <|
      oSeq (oP (vAdd g164 g165) s166) <|
      oMv g166 s020)) <|
     cSeq (cReg 2 (
      oSeq (oMv g020 s167) <|
      oP (vGeq g167 (kc (.int .u64 4294967296))) s170)) <|
     cCond g170
      (cExit 5)
      (cSkip))))) <|
  cSeq (cReg 16 (
   oSeq (oMv g017 s171) <|
   oSeq (oP (vMul g171 (kc (.int .u64 4294967296))) s172) <|
   oSeq (oMv g022 s173) <|
   oSeq (oP (vAdd g172 g173) s174) <|
   oSeq (oMv g021 s175) <|
   oSeq (oP (vMul g175 (kc (.int .u64 4294967296))) s176) <|
   oSeq (oMv g016 s177) <|
   oSeq (oP (vAdd g176 g177) s200) <|
   oSeq (oMv g022 s201) <|
   oSeq (oMv g002 s202) <|
   oSeq (oP (vMul g201 g202) s203) <|
   oSeq (oP (vSub g200 g203) s204) <|
   oSeq (oMv g010 s205) <|
   oSeq (oGen (.bin .shr .int (.t 132) (.t 133)) 13 s206) <|
   oSeq (oMv g174 s006) <|
   oMv g206 s007)) <|
  cExit 0⟩
def afn150 : AFn := ⟨1, 6, [(2, none)],
  .seq (.region [
   ⟨(some 2), .mv (.c (.int .i64 0)), none⟩]) <|
  .seq (.region [
   ⟨(some 3), .mv (.t 0), none⟩,
   ⟨(some 4), .call (.c (.fn (.func 103) [] [])) [(.t 3)], none⟩,
   ⟨(some 5), .bin .sub .int (.c (.int .i64 64)) (.t 4), none⟩,
   ⟨(some 2), .mv (.t 5), none⟩]) <|
  .ret, none⟩
noncomputable def ffn150 : FFn := ⟨1, 6, [(2, none)],
  cSeq (cReg 1 (
   oMv (kc (.int .i64 0)) s002)) <|
  cSeq (cReg 4 (
   oSeq (oMv g000 s003) <|
   oSeq (oCallF 103 (fun T => [g003 T]) s004) <|
   oSeq (oP (vSub (kc (.int .i64 64)) g004) s005) <|
   oMv g005 s002)) <|
  cExit 0⟩
def afn103 : AFn := ⟨1, 25, [(2, none)],
  .seq (.region [
   ⟨(some 2), .mv (.c (.int .i64 0)), none⟩]) <|
  .seq (.seq (.region [
   ⟨(some 3), .mv (.t 0), none⟩,
   ⟨(some 4), .bin .geq .int (.t 3) (.c (.int .u64 4294967296)), none⟩]) <|
  .cond (.t 4)
   (.seq (.region [
    ⟨(some 5), .mv (.t 0), none⟩,
    ⟨(some 6), .bin .shr .int (.t 5) (.c (.int .u64 32)), none⟩,
    ⟨(some 0), .mv (.t 6), none⟩]) <|
   .region [
    ⟨(some 2), .mv (.c (.int .i64 32)), none⟩])
   (.skip)) <|
  .seq (.seq (.region [
   ⟨(some 7), .mv (.t 0), none⟩,
   ⟨(some 8), .bin .geq .int (.t 7) (.c (.int .u64 65536)), none⟩]) <|
  .cond (.t 8)
   (.seq (.region [
    ⟨(some 9), .mv (.t 0), none⟩,
    ⟨(some 10), .bin .shr .int (.t 9) (.c (.int .u64 16)), none⟩,
    ⟨(some 0), .mv (.t 10), none⟩]) <|
   .region [
    ⟨(some 11), .mv (.t 2), none⟩,
    ⟨(some 12), .bin .add .int (.t 11) (.c (.int .i64 16)), none⟩,
    ⟨(some 2), .mv (.t 12), none⟩])
   (.skip)) <|
  .seq (.seq (.region [
   ⟨(some 13), .mv (.t 0), none⟩,
   ⟨(some 14), .bin .geq .int (.t 13) (.c (.int .u64 256)), none⟩]) <|
  .cond (.t 14)
   (.seq (.region [
    ⟨(some 15), .mv (.t 0), none⟩,
    ⟨(some 16), .bin .shr .int (.t 15) (.c (.int .u64 8)), none⟩,
    ⟨(some 0), .mv (.t 16), none⟩]) <|
   .region [
    ⟨(some 17), .mv (.t 2), none⟩,
    ⟨(some 18), .bin .add .int (.t 17) (.c (.int .i64 8)), none⟩,
    ⟨(some 2), .mv (.t 18), none⟩])
   (.skip)) <|
  .seq (.region [
   ⟨(some 19), .mv (.t 2), none⟩,
   ⟨(some 20), .mv (.t 0), none⟩,
   ⟨(some 21), .conv .u8 (.t 20), none⟩,
   ⟨(some 22), .indexStr (.c (.str ⟨#[0, 1, 2, 2, 3, 3, 3, 3, 4, 4, 4, 4, 4, 4, 4, 4, 5, 5, 5, 5, 5, 5, 5, 5, 5, 5, 5, 5, 5, 5, 5, 5, 6, 6, 6, 6, 6, 6, 6, 6, 6, 6, 6, 6, 6, 6, 6, 6, 6, 6, 6, 6, 6, 6, 6, 6, 6, 6, 6, 6, 6, 6, 6, 6, 7, 7, 7, 7, 7, 7, 7, 7, 7, 7, 7, 7, 7, 7, 7, 7, 7, 7, 7, 7, 7, 7, 7, 7, 7, 7, 7, 7, 7, 7, 7, 7, 7, 7, 7, 7, 7, 7, 7, 7, 7, 7, 7, 7, 7, 7, 7, 7, 7, 7, 7, 7, 7, 7, 7, 7, 7, 7, 7, 7, 7, 7, 7, 7, 8, 8, 8, 8, 8, 8, 8, 8, 8, 8, 8, 8, 8, 8, 8, 8, 8, 8, 8, 8, 8, 8, 8, 8, 8, 8, 8, 8, 8, 8, 8, 8, 8, 8, 8, 8, 8, 8, 8, 8, 8, 8, 8, 8, 8, 8, 8, 8, 8, 8, 8, 8, 8, 8, 8, 8, 8, 8, 8, 8, 8, 8, 8, 8, 8, 8, 8, 8, 8, 8, 8, 8, 8, 8, 8, 8, 8, 8, 8, 8, 8, 8, 8, 8, 8, 8, 8, 8, 8, 8, 8, 8, 8, 8, 8, 8, 8, 8, 8, 8, 8, 8, 8, 8, 8, 8, 8, 8, 8, 8, 8, 8, 8, 8, 8, 8, 8, 8, 8, 8, 8, 8, 8, 8, 8, 8, 8, 8]⟩)) (.t 21), none⟩,
   ⟨(some 23), .conv .i64 (.t 22), none⟩,
   ⟨(some 24), .bin .add .int (.t 19) (.t 23), none⟩,
   ⟨(some 2), .mv (.t 24), none⟩]) <|
  .ret, none⟩
noncomputable def ffn103 : FFn := ⟨1, 25, [(2, none)],
  cSeq (cReg 1 (
   oMv (kc (.int .i64 0)) s002)) <|
  cSeq (cSeq (cReg 2 (
   oSeq (oMv g000 s003) <|
   oP (vGeq g003 (kc (.int .u64 4294967296))) s004)) <|
  cCond g004
   (cSeq (cReg 3 (
    oSeq (oMv g000 s005) <|
    oSeq (oGen (.bin .shr .int (.t 5) (.c (.int .u64 32))) 1 s006) <|
    oMv g006 s000)) <|
   cReg 1 (
    oMv (kc (.int .i64 32)) s002))
   (cSkip)) <|
  cSeq (cSeq (cReg 2 (
   oSeq (oMv g000 s007) <|
   oP (vGeq g007 (kc (.int .u64 65536))) s010)) <|
  cCond g010
   (cSeq (cReg 3 (
    oSeq (oMv g000 s011) <|
    oSeq (oGen (.bin .shr .int (.t 9) (.c (.int .u64 16))) 1 s012) <|
    oMv g012 s000)) <|
   cReg 3 (
    oSeq (oMv g002 s013) <|
    oSeq (oP (vAdd g013 (kc (.int .i64 16))) s014) <|
    oMv g014 s002))
   (cSkip)) <|
  cSeq (cSeq (cReg 2 (
   oSeq (oMv g000 s015) <|
   oP (vGeq g015 (kc (.int .u64 256))) s016)) <|
  cCond g016
   (cSeq (cReg 3 (
    oSeq (oMv g000 s017) <|
    oSeq (oGen (.bin .shr .int (.t 15) (.c (.int .u64 8))) 1 s020) <|
    oMv g020 s000)) <|
   cReg 3 (
    oSeq (oMv g002 s021) <|
    oSeq (oP (vAdd g021 (kc (.int .i64 8))) s022) <|
    oMv g022 s002))
   (cSkip)) <|
  cSeq (cReg 7 (
   oSeq (oMv g002 s023) <|
   oSeq (oMv g000 s024) <|
   oSeq (oGen (.conv .u8 (.t 20)) 2 s025) <|
   oSeq (oGen (.indexStr (.c (.str ⟨#[0, 1, 2, 2, 3, 3, 3, 3, 4, 4, 4, 4, 4, 4, 4, 4, 5, 5, 5, 5, 5, 5, 5, 5, 5, 5, 5, 5, 5, 5, 5, 5, 6, 6, 6, 6, 6, 6, 6, 6, 6, 6, 6, 6, 6, 6, 6, 6, 6, 6, 6, 6, 6, 6, 6, 6, 6, 6, 6, 6, 6, 6, 6, 6, 7, 7, 7, 7, 7, 7, 7, 7, 7, 7, 7, 7, 7, 7, 7, 7, 7, 7, 7, 7, 7, 7, 7, 7, 7, 7, 7, 7, 7, 7, 7, 7, 7, 7, 7, 7, 7, 7, 7, 7, 7, 7, 7, 7, 7, 7, 7, 7, 7, 7, 7, 7, 7, 7, 7, 7, 7, 7, 7, 7, 7, 7, 7, 7, 8, 8, 8, 8, 8, 8, 8, 8, 8, 8, 8, 8, 8, 8, 8, 8, 8, 8, 8, 8, 8, 8, 8, 8, 8, 8, 8, 8, 8, 8, 8, 8, 8, 8, 8, 8, 8, 8, 8, 8, 8, 8, 8, 8, 8, 8, 8, 8, 8, 8, 8, 8, 8, 8, 8, 8, 8, 8, 8, 8, 8, 8, 8, 8, 8, 8, 8, 8, 8, 8, 8, 8, 8, 8, 8, 8, 8, 8, 8, 8, 8, 8, 8, 8, 8, 8, 8, 8, 8, 8, 8, 8, 8, 8, 8, 8, 8, 8, 8, 8, 8, 8, 8, 8, 8, 8, 8, 8, 8, 8, 8, 8, 8, 8, 8, 8, 8, 8, 8, 8, 8, 8, 8, 8, 8, 8, 8, 8]⟩)) (.t 21)) 3 s026) <|
   oSeq (oGen (.conv .i64 (.t 22)) 4 s027) <|
   oSeq (oP (vAdd g023 g027) s030) <|
   oMv g030 s002)) <|
  cExit 0⟩
def afn156 : AFn := ⟨1, 22, [(2, none)],
  .seq (.region [
   ⟨(some 2), .mv (.c .nilSl), none⟩]) <|
  .seq (.block 0 (.loop (.seq (.seq (.region [
     ⟨(some 3), .mv (.t 0), none⟩,
     ⟨(some 4), .len (.t 3), none⟩,
     ⟨(some 5), .bin .gtr .int (.t 4) (.c (.int .i64 0)), none⟩,
     ⟨(some 6), .mv (.t 5), none⟩,
     ⟨(some 7), .mv (.t 0), (some (6, true))⟩,
     ⟨(some 8), .mv (.t 0), (some (6, true))⟩,
     ⟨(some 9), .len (.t 8), (some (6, true))⟩,
     ⟨(some 10), .bin .sub .int (.t 9) (.c (.int .i64 1)), (some (6, true))⟩,
     ⟨(some 11), .indexAddr 1 (.t 7) (.t 10), (some (6, true))⟩,
     ⟨(some 12), .load none (.t 11), (some (6, true))⟩,
     ⟨(some 13), .bin .eql .int (.t 12) (.c (.int .u64 0)), (some (6, true))⟩,
     ⟨(some 14), .pick (.t 6) (.t 13) (.c (.bool false)), none⟩]) <|
    .cond (.t 14)
     (.skip)
     (.exit 0)) <|
    .block 1 (.region [
      ⟨(some 15), .mv (.t 0), none⟩,
      ⟨(some 16), .mv (.t 0), none⟩,
      ⟨(some 17), .len (.t 16), none⟩,
      ⟨(some 18), .bin .sub .int (.t 17) (.c (.int .i64 1)), none⟩,
      ⟨(some 19), .slice 1 (.t 15) none (some (.t 18)) none, none⟩,
      ⟨(some 0), .mv (.t 19), none⟩])))) <|
  .seq (.region [
   ⟨(some 20), .mv (.t 0), none⟩,
   ⟨(some 21), .call (.c (.fn (.func 105) [] [])) [(.t 20)], none⟩,
   ⟨(some 2), .mv (.t 21), none⟩]) <|
  .ret, none⟩
noncomputable def ffn156 : FFn := ⟨1, 22, [(2, none)],
  cSeq (cReg 1 (
   oMv (kc .nilSl) s002)) <|
  cSeq (cBlock 1 (cLoop 1000000 (cSeq (cSeq (cReg 12 (
     oSeq (oMv g000 s003) <|
     oSeq (oP (vLen g003) s004) <|
     oSeq (oP (vGtr g004 (kc (.int .i64 0))) s005) <|
     oSeq (oMv g005 s006) <|
     oSeq (oGuard g006 true s007 (oMv g000 s007)) <|
     oSeq (oGuard g006 true s010 (oMv g000 s010)) <|
     oSeq (oGuard g006 true s011 (oP (vLen g010) s011)) <|
     oSeq (oGuard g006 true s012 (oP (vSub g011 (kc (.int .i64 1))) s012)) <|
     oSeq (oGuard g006 true s013 (oP (vIdx 1 g007 g012) s013)) <|
     oSeq (oGuard g006 true s014 (oLoad g013 s014)) <|
     oSeq (oGuard g006 true s015 (oP (vEql g014 (kc (.int .u64 0))) s015)) <|
     oP (vPick g006 g015 (kc (.bool false))) s016)) <|
    cCond g016
     (cSkip)
     (cExit 1)) <|
    cBlock 3 (cReg 6 (
      oSeq (oMv g000 s017) <|
      oSeq (oMv g000 s020) <|
      oSeq (oP (vLen g020) s021) <|
      oSeq (oP (vSub g021 (kc (.int .i64 1))) s022) <|
      oSeq (oGen (.slice 1 (.t 15) none (some (.t 18)) none) 4 s023) <|
      oMv g023 s000))))) <|
  cSeq (cReg 3 (
   oSeq (oMv g000 s024) <|
   oSeq (oCallF 105 (fun T => [g024 T]) s025) <|
   oMv g025 s002)) <|
  cExit 0⟩
def afn151 : AFn := ⟨2, 61, [(4, none), (5, none)],
  .seq (.region [
   ⟨(some 4), .mv (.c .nilSl), none⟩,
   ⟨(some 5), .mv (.c (.int .i64 0)), none⟩]) <|
  .seq (.seq (.region [
   ⟨(some 12), .mv (.t 0), none⟩,
   ⟨(some 13), .mv (.t 1), none⟩,
   ⟨(some 14), .call (.c (.fn (.func 165) [] [])) [(.t 12), (.t 13)], none⟩,
   ⟨(some 6), .mv (.t 14), none⟩]) <|
  .seq (.region [
   ⟨(some 15), .mv (.t 6), none⟩,
   ⟨(some 16), .bin .neq .int (.t 15) (.c (.int .i64 0)), none⟩]) <|
  .cond (.t 16)
   (.seq (.region [
    ⟨(some 17), .mv (.t 6), none⟩,
    ⟨(some 4), .mv (.c .nilSl), none⟩,
    ⟨(some 5), .mv (.t 17), none⟩]) <|
   .ret)
   (.skip)) <|
  .seq (.region [
   ⟨(some 18), .mv (.t 1), none⟩,
   ⟨(some 19), .bin .quo .int (.t 18) (.c (.int .i64 64)), none⟩,
   ⟨(some 20), .mv (.t 0), none⟩,
   ⟨(some 21), .len (.t 20), none⟩,
   ⟨(some 22), .bin .add .int (.t 19) (.t 21), none⟩,
   ⟨(some 23), .bin .add .int (.t 22) (.c (.int .i64 1)), none⟩,
   ⟨(some 24), .mksl 91 1 8 [(.int .u64 0)] (.t 23) (.t 23), none⟩,
   ⟨(some 7), .mv (.t 24), none⟩]) <|
  .seq (.seq (.region [
   ⟨(some 25), .mv (.t 0), none⟩,
   ⟨(some 26), .len (.t 25), none⟩,
   ⟨(some 27), .mv (.c (.int .i64 0)), none⟩]) <|
  .block 0 (.loop (.seq (.region [
     ⟨(some 28), .bin .lss .int (.t 27) (.t 26), none⟩]) <|
    .seq (.cond (.t 28)
     (.skip)
     (.exit 0)) <|
    .seq (.block 1 (.seq (.region [
      ⟨(some 29), .mv (.t 27), none⟩,
      ⟨(some 30), .indexAddr 1 (.t 25) (.t 27), none⟩,
      ⟨(some 31), .load none (.t 30), none⟩,
      ⟨(some 8), .mv (.t 29), none⟩,
      ⟨(some 9), .mv (.t 31), none⟩]) <|
     .seq (.region [
      ⟨(some 33), .mv (.t 9), none⟩,
      ⟨(some 34), .mv (.t 1), none⟩,
      ⟨(some 35), .bin .rem .int (.t 34) (.c (.int .i64 64)), none⟩,
      ⟨(some 36), .bin .shl .int (.c (.int .u64 1)) (.t 35), none⟩,
      ⟨(some 37), .call (.c (.fn (.func 166) [] [])) [(.t 33), (.t 36)], none⟩,
      ⟨(some 32), .mv (.t 37), none⟩,
      ⟨(some 38), .extract 0 (.t 32), none⟩,
      ⟨(some 39), .extract 1 (.t 32), none⟩,
      ⟨(some 10), .mv (.t 38), none⟩,
      ⟨(some 11), .mv (.t 39), none⟩]) <|
     .seq (.region [
      ⟨(some 40), .mv (.t 7), none⟩,
      ⟨(some 41), .mv (.t 1), none⟩,
      ⟨(some 42), .bin .quo .int (.t 41) (.c (.int .i64 64)), none⟩,
      ⟨(some 43), .mv (.t 8), none⟩,
      ⟨(some 44), .bin .add .int (.t 42) (.t 43), none⟩,
      ⟨(some 45), .indexAddr 1 (.t 40) (.t 44), none⟩,
      ⟨(some 46), .load none (.t 45), none⟩,
      ⟨(some 47), .mv (.t 11), none⟩,
      ⟨(some 48), .bin .or .int (.t 46) (.t 47), none⟩,
      ⟨(some 49), .indexAddr 1 (.t 40) (.t 44), none⟩,
      ⟨none, .store 1 (.t 49) (.t 48), none⟩]) <|
     .region [
      ⟨(some 50), .mv (.t 7), none⟩,
      ⟨(some 51), .mv (.t 1), none⟩,
      ⟨(some 52), .bin .quo .int (.t 51) (.c (.int .i64 64)), none⟩,
      ⟨(some 53), .mv (.t 8), none⟩,
      ⟨(some 54), .bin .add .int (.t 52) (.t 53), none⟩,
      ⟨(some 55), .bin .add .int (.t 54) (.c (.int .i64 1)), none⟩,
      ⟨(some 56), .mv (.t 10), none⟩,
      ⟨(some 57), .indexAddr 1 (.t 50) (.t 55), none⟩,
      ⟨none, .store 1 (.t 57) (.t 56), none⟩])) <|
    .region [
     ⟨(some 58), .bin .add .int (.t 27) (.c (.int .i64 1)), none⟩,
     ⟨(some 27), .mv (.t 58), none⟩]))) <|
  .seq (.region [
   ⟨(some 59), .mv (.t 7), none⟩,
   ⟨(some 60), .call (.c (.fn (.func 78) [] [])) [(.t 59)], none⟩,
   ⟨(some 4), .mv (.t 60), none⟩,
   ⟨(some 5), .mv (.c (.int .i64 0)), none⟩]) <|
  .ret, none⟩
noncomputable def ffn151 : FFn := ⟨2, 61, [(4, none), (5, none)],
  cSeq (cReg 2 (
   oSeq (oMv (kc .nilSl) s004) <|
   oMv (kc (.int .i64 0)) s005)) <|
  cSeq (cSeq (cReg 4 (
   oSeq (oMv g000 s014) <|
   oSeq (oMv g001 s015) <|
   oSeq (oCallF 165 (fun T => [g014 T, g015 T]) s016) <|
   oMv g016 s006)) <|
  cSeq (cReg 2 (
   oSeq (oMv g006 s017) <|
   oP (vNeq g017 (kc (.int .i64 0))) s020)) <|
  cCond g020
   (cSeq (cReg 3 (
    oSeq (oMv g006 s021) <|
    oSeq (oMv (kc .nilSl) s004) <|
    oMv g021 s005)) <|
   cExit 0)
   (cSkip)) <|
  cSeq (cReg 8 (
   oSeq (oMv g001 s022) <|
   oSeq (oGen (.bin .quo .int (.t 18) (.c (.int .i64 64))) 1 s023) <|
   oSeq (oMv g000 s024) <|
   oSeq (oP (vLen g024) s025) <|
   oSeq (oP (vAdd g023 g025) s026) <|
   oSeq (oP (vAdd g026 (kc (.int .i64 1))) s027) <|
   oSeq (oGen (.mksl 91 1 8 [(.int .u64 0)] (.t 23) (.t 23)) 6 s030) <|
   oMv g030 s007)) <|
  cSeq (cSeq (cReg 3 (
   oSeq (oMv g000 s031) <|
   oSeq (oP (vLen g031) s032) <|
   oMv (kc (.int .i64 0)) s033)) <|
  cBlock 1 (cLoop 1000000 (cSeq (cReg 1 (
     oP (vLss g033 g032) s034)) <|
    cSeq (cCond g034
     (cSkip)
     (cExit 1)) <|
    cSeq (cBlock 3 (cSeq (cReg 5 (
      oSeq (oMv g033 s035) <|
      oSeq (oP (vIdx 1 g031 g033) s036) <|
      oSeq (oLoad g036 s037) <|
      oSeq (oMv g035 s010) <|
      oMv g037 s011)) <|
     cSeq (cReg 10 (
      oSeq (oMv g011 s041) <|
      oSeq (oMv g001 s042) <|
      oSeq (oGen (.bin .rem .int (.t 34) (.c (.int .i64 64))) 2 s043) <|
      oSeq (oGen (.bin .shl .int (.c (.int .u64 1)) (.t 35)) 3 s044) <|
      oSeq (oCallF 166 (fun T => [g041 T, g044 T]) s045) <|
      oSeq (oMv g045 s040) <|
      oSeq (oP (vExt 0 g040) s046) <|
      oSeq (oP (vExt 1 g040) s047) <|
      oSeq (oMv g046 s012) <|
      oMv g047 s013)) <|
     cSeq (cReg 11 (
      oSeq (oMv g007 s050) <|
      oSeq (oMv g001 s051) <|
      oSeq (oGen (.bin .quo .int (.t 41) (.c (.int .i64 64))) 2 s052) <|
      oSeq (oMv g010 s053) <|
      oSeq (oP (vAdd g052 g053) s054) <|
      oSeq (oP (vIdx 1 g050 g054) s055) <|
      oSeq (oLoad g055 s056) <|
      oSeq (oMv g013 s057) <|
      oSeq (oGen (.bin .or .int (.t 46) (.t 47)) 8 s060) <|
      oSeq (oP (vIdx 1 g050 g054) s061) <|
      oStore g061 g060 noPut)) <|
     cReg 9 (
      oSeq (oMv g007 s062) <|
      oSeq (oMv g001 s063) <|
      oSeq (oGen (.bin .quo .int (.t 51) (.c (.int .i64 64))) 2 s064) <|
      oSeq (oMv g010 s065) <|
      oSeq (oP (vAdd g064 g065) s066) <|
      oSeq (oP (vAdd g066 (kc (.int .i64 1))) s067) <|
      oSeq (oMv g012 s070) <|
      oSeq (oP (vIdx 1 g062 g067) s071) <|
      oStore g071 g070 noPut))) <|
    cReg 2 (
     oSeq (oP (vAdd g033 (kc (.int .i64 1))) s072) <|
     oMv g072 s033)))) <|
  cSeq (cReg 4 (
   oSeq (oMv g007 s073) <|
   oSeq (oCallF 78 (fun T => [g073 T]) s074) <|
   oSeq (oMv g074 s004) <|
   oMv (kc (.int .i64 0)) s005)) <|
  cExit 0⟩
def afn165 : AFn := ⟨2, 17, [(4, none)],
  .seq (.region [
   ⟨(some 4), .mv (.c (.int .i64 0)), none⟩]) <|
  .seq (.seq (.region [
   ⟨(some 6), .mv (.t 0), none⟩,
   ⟨(some 7), .call (.c (.fn (.func 60) [] [])) [(.t 6)], none⟩,
   ⟨(some 5), .mv (.t 7), none⟩]) <|
  .seq (.region [
   ⟨(some 8), .mv (.t 5), none⟩,
   ⟨(some 9), .bin .neq .int (.t 8) (.c (.int .i64 0)), none⟩]) <|
  .cond (.t 9)
   (.seq (.region [
    ⟨(some 10), .mv (.t 5), none⟩,
    ⟨(some 4), .mv (.t 10), none⟩]) <|
   .ret)
   (.skip)) <|
  .seq (.seq (.region [
   ⟨(some 11), .mv (.t 1), none⟩,
   ⟨(some 12), .bin .lss .int (.t 11) (.c (.int .i64 0)), none⟩,
   ⟨(some 13), .mv (.t 12), none⟩,
   ⟨(some 14), .mv (.t 1), (some (13, false))⟩,
   ⟨(some 15), .bin .gtr .int (.t 14) (.c (.int .i64 65536)), (some (13, false))⟩,
   ⟨(some 16), .pick (.t 13) (.c (.bool true)) (.t 15), none⟩]) <|
  .cond (.t 16)
   (.seq (.region [
    ⟨(some 4), .mv (.c (.int .i64 2)), none⟩]) <|
   .ret)
   (.skip)) <|
  .seq (.region [
   ⟨(some 4), .mv (.c (.int .i64 0)), none⟩]) <|
  .ret, none⟩
noncomputable def ffn165 : FFn := ⟨2, 17, [(4, none)],
  cSeq (cReg 1 (
   oMv (kc (.int .i64 0)) s004)) <|
  cSeq (cSeq (cReg 3 (
   oSeq (oMv g000 s006) <|
   oSeq (oCallF 60 (fun T => [g006 T]) s007) <|
   oMv g007 s005)) <|
  cSeq (cReg 2 (
   oSeq (oMv g005 s010) <|
   oP (vNeq g010 (kc (.int .i64 0))) s011)) <|
  cCond g011
   (cSeq (cReg 2 (
    oSeq (oMv g005 s012) <|
    oMv g012 s004)) <|
   cExit 0)
   (cSkip)) <|
  cSeq (cSeq (cReg 6 (
   oSeq (oMv g001 s013) <|
   oSeq (oP (vLss g013 (kc (.int .i64 0))) s014) <|
   oSeq (oMv g014 s015) <|
   oSeq (oGuard g015 false s016 (oMv g001 s016)) <|
   oSeq (oGuard g015 false s017 (oP (vGtr g016 (kc (.int .i64 65536))) s017)) <|
   oP (vPick g015 (kc (.bool true)) g017) s020)) <|
  cCond g020
   (cSeq (cReg 1 (
    oMv (kc (.int .i64 2)) s004)) <|
   cExit 0)
   (cSkip)) <|
  cSeq (cReg 1 (
   oMv (kc (.int .i64 0)) s004)) <|
  cExit 0⟩
def afn153 : AFn := ⟨3, 92, [(6, none)],
  .seq (.region [
   ⟨(some 6), .mv (.c (.bool false)), none⟩]) <|
  .seq (.region [
   ⟨(some 7), .mv (.c (.int .u64 0)), none⟩,
   ⟨(some 8), .mv (.c (.int .u64 0)), none⟩]) <|
  .seq (.seq (.region [
   ⟨(some 15), .mv (.t 0), none⟩,
   ⟨(some 16), .nilCheck (.t 15), none⟩,
   ⟨(some 17), .fieldAddr 1 (.t 16), none⟩,
   ⟨(some 18), .load none (.t 17), none⟩,
   ⟨(some 19), .len (.t 18), none⟩,
   ⟨(some 20), .mv (.c (.int .i64 0)), none⟩]) <|
  .block 0 (.loop (.seq (.region [
     ⟨(some 21), .bin .lss .int (.t 20) (.t 19), none⟩]) <|
    .seq (.cond (.t 21)
     (.skip)
     (.exit 0)) <|
    .seq (.block 1 (.seq (.region [
      ⟨(some 22), .mv (.t 20), none⟩,
      ⟨(some 23), .indexAddr 1 (.t 18) (.t 20), none⟩,
      ⟨(some 24), .load none (.t 23), none⟩,
      ⟨(some 9), .mv (.t 22), none⟩,
      ⟨(some 10), .mv (.t 24), none⟩]) <|
     .seq (.region [
      ⟨(some 26), .mv (.t 1), none⟩,
      ⟨(some 27), .mv (.t 10), none⟩,
      ⟨(some 28), .call (.c (.fn (.func 166) [] [])) [(.t 26), (.t 27)], none⟩,
      ⟨(some 25), .mv (.t 28), none⟩,
      ⟨(some 29), .extract 0 (.t 25), none⟩,
      ⟨(some 30), .extract 1 (.t 25), none⟩,
      ⟨(some 11), .mv (.t 29), none⟩,
      ⟨(some 12), .mv (.t 30), none⟩]) <|
     .seq (.region [
      ⟨(some 13), .mv (.c (.int .u64 0)), none⟩]) <|
     .seq (.region [
      ⟨(some 32), .mv (.t 12), none⟩,
      ⟨(some 33), .mv (.t 7), none⟩,
      ⟨(some 34), .call (.c (.fn (.func 143) [] [])) [(.t 32), (.t 33), (.c (.int .u64 0))], none⟩,
      ⟨(some 31), .mv (.t 34), none⟩,
      ⟨(some 35), .extract 0 (.t 31), none⟩,
      ⟨(some 36), .extract 1 (.t 31), none⟩,
      ⟨(some 12), .mv (.t 35), none⟩,
      ⟨(some 13), .mv (.t 36), none⟩]) <|
     .seq (.region [
      ⟨(some 37), .mv (.t 11), none⟩,
      ⟨(some 38), .mv (.t 13), none⟩,
      ⟨(some 39), .bin .add .int (.t 37) (.t 38), none⟩,
      ⟨(some 7), .mv (.t 39), none⟩]) <|
     .draw [
      ⟨(some 41), .mv (.t 0), none, [(0, none)], 0, [(0, []), (1, [])]⟩,
      ⟨(some 42), .nilCheck (.t 41), none, [(41, (some 0))], 0, [(0, []), (1, [])]⟩,
      ⟨(some 43), .fieldAddr 0 (.t 42), none, [(42, (some 1))], 0, [(0, []), (1, [])]⟩,
      ⟨(some 44), .load none (.t 43), none, [(43, (some 2))], 0, [(0, []), (1, [])]⟩,
      ⟨(some 45), .mv (.t 2), none, [(2, none)], 0, [(0, []), (1, [])]⟩,
      ⟨(some 46), .mv (.t 9), none, [(9, none)], 0, [(0, []), (1, [])]⟩,
      ⟨(some 47), .bin .add .int (.t 45) (.t 46), none, [(45, (some 4)), (46, (some 5))], 0, [(0, []), (1, [])]⟩,
      ⟨(some 48), .mv (.t 0), none, [(0, none)], 0, [(0, [])]⟩,
      ⟨(some 49), .nilCheck (.t 48), none, [(48, (some 7))], 0, [(0, [])]⟩,
      ⟨(some 50), .fieldAddr 0 (.t 49), none, [(49, (some 8))], 0, [(0, [])]⟩,
      ⟨(some 51), .load none (.t 50), none, [(50, (some 9))], 0, [(0, [])]⟩,
      ⟨(some 52), .mv (.t 2), none, [(2, none)], 0, [(0, [])]⟩,
      ⟨(some 53), .mv (.t 9), none, [(9, none)], 0, [(0, [])]⟩,
      ⟨(some 54), .bin .add .int (.t 52) (.t 53), none, [(52, (some 11)), (53, (some 12))], 0, [(0, [])]⟩,
      ⟨(some 55), .indexAddr 1 (.t 51) (.t 54), none, [(51, (some 10)), (54, (some 13))], 0, [(0, [])]⟩,
      ⟨(some 56), .load none (.t 55), none, [(55, (some 14))], 0, [(0, [])]⟩,
      ⟨(some 57), .mv (.t 12), none, [(12, none)], 0, [(0, [])]⟩,
      ⟨(some 58), .mv (.t 8), none, [(8, none)], 0, [(0, [])]⟩,
      ⟨(some 59), .call (.c (.fn (.func 144) [] [])) [(.t 56), (.t 57), (.t 58)], none, [(56, (some 15)), (57, (some 16)), (58, (some 17))], 2, [(0, [])]⟩,
      ⟨(some 40), .mv (.t 59), none, [(59, (some 18))], 0, [(1, [])]⟩,
      ⟨(some 60), .extract 0 (.t 40), none, [(40, (some 19))], 0, [(1, [])]⟩,
      ⟨(some 61), .extract 1 (.t 40), none, [(40, (some 19))], 0, [(1, []), (2, [])]⟩,
      ⟨(some 62), .indexAddr 1 (.t 44) (.t 47), none, [(44, (some 3)), (47, (some 6))], 0, [(1, [])]⟩,
      ⟨none, .store 1 (.t 62) (.t 60), none, [(62, (some 22)), (60, (some 20))], 2, [(1, [])]⟩,
      ⟨(some 8), .mv (.t 61), none, [(61, (some 21))], 0, [(2, [])]⟩] [])) <|
    .region [
     ⟨(some 63), .bin .add .int (.t 20) (.c (.int .i64 1)), none⟩,
     ⟨(some 20), .mv (.t 63), none⟩]))) <|
  .seq (.region [
   ⟨(some 64), .mv (.t 2), none⟩,
   ⟨(some 65), .mv (.t 0), none⟩,
   ⟨(some 66), .nilCheck (.t 65), none⟩,
   ⟨(some 67), .fieldAddr 1 (.t 66), none⟩,
   ⟨(some 68), .load none (.t 67), none⟩,
   ⟨(some 69), .len (.t 68), none⟩,
   ⟨(some 70), .bin .add .int (.t 64) (.t 69), none⟩,
   ⟨(some 14), .mv (.t 70), none⟩]) <|
  .seq (.draw [
   ⟨(some 72), .mv (.t 0), none, [(0, none)], 0, [(0, []), (1, [])]⟩,
   ⟨(some 73), .nilCheck (.t 72), none, [(72, (some 0))], 0, [(0, []), (1, [])]⟩,
   ⟨(some 74), .fieldAddr 0 (.t 73), none, [(73, (some 1))], 0, [(0, []), (1, [])]⟩,
   ⟨(some 75), .load none (.t 74), none, [(74, (some 2))], 0, [(0, []), (1, [])]⟩,
   ⟨(some 76), .mv (.t 14), none, [(14, none)], 0, [(0, []), (1, [])]⟩,
   ⟨(some 77), .mv (.t 0), none, [(0, none)], 0, [(0, [])]⟩,
   ⟨(some 78), .nilCheck (.t 77), none, [(77, (some 5))], 0, [(0, [])]⟩,
   ⟨(some 79), .fieldAddr 0 (.t 78), none, [(78, (some 6))], 0, [(0, [])]⟩,
   ⟨(some 80), .load none (.t 79), none, [(79, (some 7))], 0, [(0, [])]⟩,
   ⟨(some 81), .mv (.t 14), none, [(14, none)], 0, [(0, [])]⟩,
   ⟨(some 82), .indexAddr 1 (.t 80) (.t 81), none, [(80, (some 8)), (81, (some 9))], 0, [(0, [])]⟩,
   ⟨(some 83), .load none (.t 82), none, [(82, (some 10))], 0, [(0, [])]⟩,
   ⟨(some 84), .mv (.t 7), none, [(7, none)], 0, [(0, [])]⟩,
   ⟨(some 85), .mv (.t 8), none, [(8, none)], 0, [(0, [])]⟩,
   ⟨(some 86), .call (.c (.fn (.func 144) [] [])) [(.t 83), (.t 84), (.t 85)], none, [(83, (some 11)), (84, (some 12)), (85, (some 13))], 2, [(0, [])]⟩,
   ⟨(some 71), .mv (.t 86), none, [(86, (some 14))], 0, [(1, [])]⟩,
   ⟨(some 87), .extract 0 (.t 71), none, [(71, (some 15))], 0, [(1, [])]⟩,
   ⟨(some 88), .extract 1 (.t 71), none, [(71, (some 15))], 0, [(1, []), (2, [])]⟩,
   ⟨(some 89), .indexAddr 1 (.t 75) (.t 76), none, [(75, (some 3)), (76, (some 4))], 0, [(1, [])]⟩,
   ⟨none, .store 1 (.t 89) (.t 87), none, [(89, (some 18)), (87, (some 16))], 2, [(1, [])]⟩,
   ⟨(some 8), .mv (.t 88), none, [(88, (some 17))], 0, [(2, [])]⟩] []) <|
  .seq (.region [
   ⟨(some 90), .mv (.t 8), none⟩,
   ⟨(some 91), .bin .gtr .int (.t 90) (.c (.int .u64 0)), none⟩,
   ⟨(some 6), .mv (.t 91), none⟩]) <|
  .ret, none⟩
noncomputable def ffn153 : FFn := ⟨3, 92, [(6, none)],
  cSeq (cReg 1 (
   oMv (kc (.bool false)) s006)) <|
  cSeq (cReg 2 (
   oSeq (oMv (kc (.int .u64 0)) s007) <|
   oMv (kc (.int .u64 0)) s010)) <|
  cSeq (cSeq (cReg 6 (
   oSeq (oMv g000 s017) <|
   oSeq (oGen (.nilCheck (.t 15)) 1 s020) <|
   oSeq (oP (vFA 1 g020) s021) <|
   oSeq (oLoad g021 s022) <|
   oSeq (oP (vLen g022) s023) <|
   oMv (kc (.int .i64 0)) s024)) <|
  cBlock 1 (cLoop 1000000 (cSeq (cReg 1 (
     oP (vLss g024 g023) s025)) <|
    cSeq (cCond g025
     (cSkip)
     (cExit 1)) <|
    cSeq (cBlock 3 (cSeq (cReg 5 (
      oSeq (oMv g024 s026) <|
      oSeq (oP (vIdx 1 g022 g024) s027) <|
      oSeq (oLoad g027 s030) <|
      oSeq (oMv g026 s011) <|
      oMv g030 s012)) <|
     cSeq (cReg 8 (
      oSeq (oMv g001 s032) <|
      oSeq (oMv g012 s033) <|
      oSeq (oCallF 166 (fun T => [g032 T, g033 T]) s034) <|
      oSeq (oMv g034 s031) <|
      oSeq (oP (vExt 0 g031) s035) <|
      oSeq (oP (vExt 1 g031) s036) <|
      oSeq (oMv g035 s013) <|
      oMv g036 s014)) <|
     cSeq (cReg 1 (
      oMv (kc (.int .u64 0)) s015)) <|
     cSeq (cReg 8 (
      oSeq (oMv g014 s040) <|
      oSeq (oMv g007 s041) <|
      oSeq (oCallF 143 (fun T => [g040 T, g041 T, (.int .u64 0)]) s042) <|
      oSeq (oMv g042 s037) <|
      oSeq (oP (vExt 0 g037) s043) <|
      oSeq (oP (vExt 1 g037) s044) <|
      oSeq (oMv g043 s014) <|
      oMv g044 s015)) <|
     cSeq (cReg 4 (
      oSeq (oMv g013 s045) <|
      oSeq (oMv g015 s046) <|
      oSeq (oP (vAdd g045 g046) s047) <|
      oMv g047 s007)) <|
     cDrw 25 (
      dSeq (dLook 0 [] (oMv g000 s051)) <|
      dSeq (dLook 0 [] (oGen (.nilCheck (.t 41)) 1 s052)) <|
      dSeq (dLook 0 [] (oP (vFA 0 g052) s053)) <|
      dSeq (dLook 0 [] (oLoad g053 s054)) <|
      dSeq (dLook 0 [] (oMv g002 s055)) <|
      dSeq (dLook 0 [] (oMv g011 s056)) <|
      dSeq (dLook 0 [] (oP (vAdd g055 g056) s057)) <|
      dSeq (dLook 0 [] (oMv g000 s060)) <|
      dSeq (dLook 0 [] (oGen (.nilCheck (.t 48)) 8 s061)) <|
      dSeq (dLook 0 [] (oP (vFA 0 g061) s062)) <|
      dSeq (dLook 0 [] (oLoad g062 s063)) <|
      dSeq (dLook 0 [] (oMv g002 s064)) <|
      dSeq (dLook 0 [] (oMv g011 s065)) <|
      dSeq (dLook 0 [] (oP (vAdd g064 g065) s066)) <|
      dSeq (dLook 0 [] (oP (vIdx 1 g063 g066) s067)) <|
      dSeq (dLook 0 [] (oLoad g067 s070)) <|
      dSeq (dLook 0 [] (oMv g014 s071)) <|
      dSeq (dLook 0 [] (oMv g010 s072)) <|
      dSeq (dAct 0 [] (oCallF 144 (fun T => [g070 T, g071 T, g072 T]) s073)) <|
      dSeq (dLook 0 [] (oMv g073 s050)) <|
      dSeq (dLook 0 [] (oP (vExt 0 g050) s074)) <|
      dSeq (dLook 0 [] (oP (vExt 1 g050) s075)) <|
      dSeq (dLook 0 [] (oP (vIdx 1 g054 g057) s076)) <|
      dSeq (dAct 0 [] (oStore g076 g074 noPut)) <|
      dSeq (dLook 0 [] (oMv g075 s010)) <|
      dNop)
      (ckSeq (ckOne g054 1 [] (oLoad g053 s054)) <|
     ckNop) [])) <|
    cReg 2 (
     oSeq (oP (vAdd g024 (kc (.int .i64 1))) s077) <|
     oMv g077 s024)))) <|
  cSeq (cReg 8 (
   oSeq (oMv g002 s100) <|
   oSeq (oMv g000 s101) <|
   oSeq (oGen (.nilCheck (.t 65)) 2 s102) <|
   oSeq (oP (vFA 1 g102) s103) <|
   oSeq (oLoad g103 s104) <|
   oSeq (oP (vLen g104) s105) <|
   oSeq (oP (vAdd g100 g105) s106) <|
   oMv g106 s016)) <|
  cSeq (cDrw 21 (
   dSeq (dLook 0 [] (oMv g000 s110)) <|
   dSeq (dLook 0 [] (oGen (.nilCheck (.t 72)) 1 s111)) <|
   dSeq (dLook 0 [] (oP (vFA 0 g111) s112)) <|
   dSeq (dLook 0 [] (oLoad g112 s113)) <|
   dSeq (dLook 0 [] (oMv g016 s114)) <|
   dSeq (dLook 0 [] (oMv g000 s115)) <|
   dSeq (dLook 0 [] (oGen (.nilCheck (.t 77)) 6 s116)) <|
   dSeq (dLook 0 [] (oP (vFA 0 g116) s117)) <|
   dSeq (dLook 0 [] (oLoad g117 s120)) <|
   dSeq (dLook 0 [] (oMv g016 s121)) <|
   dSeq (dLook 0 [] (oP (vIdx 1 g120 g121) s122)) <|
   dSeq (dLook 0 [] (oLoad g122 s123)) <|
   dSeq (dLook 0 [] (oMv g007 s124)) <|
   dSeq (dLook 0 [] (oMv g010 s125)) <|
   dSeq (dAct 0 [] (oCallF 144 (fun T => [g123 T, g124 T, g125 T]) s126)) <|
   dSeq (dLook 0 [] (oMv g126 s107)) <|
   dSeq (dLook 0 [] (oP (vExt 0 g107) s127)) <|
   dSeq (dLook 0 [] (oP (vExt 1 g107) s130)) <|
   dSeq (dLook 0 [] (oP (vIdx 1 g113 g114) s131)) <|
   dSeq (dAct 0 [] (oStore g131 g127 noPut)) <|
   dSeq (dLook 0 [] (oMv g130 s010)) <|
   dNop)
   (ckSeq (ckOne g113 1 [] (oLoad g112 s113)) <|
  ckNop) []) <|
  cSeq (cReg 3 (
   oSeq (oMv g010 s132) <|
   oSeq (oP (vGtr g132 (kc (.int .u64 0))) s133) <|
   oMv g133 s006)) <|
  cExit 0⟩
end Go.Proofs.YtjenkjblcpinnabGreat.Ev
