/-
  The code of the law's functions, printed by program off the translation.
-/
import Derived.Test.YtmchbjommpmlkaaGreatEvSlots
namespace Go.Proofs.YtmchbjommpmlkaaGreat.Ev
open Go
set_option maxRecDepth 1000000
set_option linter.all false
noncomputable def ffn3 : FFn := ⟨1, 55, [(2, none)],
  cSeq (cReg 1 (
   oMv (kc (.bool false)) s002)) <|
  cSeq (cSeq (cReg 6 (
   oSeq (oMv g000 s013) <|
   oSeq (oP (vGtr g013 (kc (.int .i64 4))) s014) <|
   oSeq (oMv g014 s015) <|
   oSeq (oGuard g015 true s016 (oMv g000 s016)) <|
   oSeq (oGuard g015 true s017 (oP (vLeq g016 (kc (.int .i64 8))) s017)) <|
   oP (vPick g015 g017 (kc (.bool false))) s020)) <|
  cCond g020
   (cSeq (cReg 1 (
    oMv (kc (.bool true)) s002)) <|
   cExit 0)
   (cSkip)) <|
  cSeq (cReg 8 (
   oSeq (oMv g000 s022) <|
   oSeq (oCallF 4 (fun T => [g022 T]) s023) <|
   oSeq (oMv g023 s021) <|
   oSeq (oP (vExt 0 g021) s024) <|
   oSeq (oP (vExt 1 g021) s025) <|
   oSeq (oAlloc 25 [(.int .i64 0), .nilSl, .nilSl] 5 s003) <|
   oSeq (oStoreN 3 g003 g024 noPut) <|
   oMv g025 s004)) <|
  cSeq (cReg 8 (
   oSeq (oMv g000 s027) <|
   oSeq (oCallF 5 (fun T => [g027 T]) s030) <|
   oSeq (oMv g030 s026) <|
   oSeq (oP (vExt 0 g026) s031) <|
   oSeq (oP (vExt 1 g026) s032) <|
   oSeq (oAlloc 25 [(.int .i64 0), .nilSl, .nilSl] 5 s005) <|
   oSeq (oStoreN 3 g005 g031 noPut) <|
   oMv g032 s006)) <|
  cSeq (cReg 8 (
   oSeq (oMv g000 s034) <|
   oSeq (oCallF 6 (fun T => [g034 T]) s035) <|
   oSeq (oMv g035 s033) <|
   oSeq (oP (vExt 0 g033) s036) <|
   oSeq (oP (vExt 1 g033) s037) <|
   oSeq (oAlloc 25 [(.int .i64 0), .nilSl, .nilSl] 5 s007) <|
   oSeq (oStoreN 3 g007 g036 noPut) <|
   oMv g037 s010)) <|
  cSeq (cReg 8 (
   oSeq (oMv g000 s041) <|
   oSeq (oCallF 7 (fun T => [g041 T]) s042) <|
   oSeq (oMv g042 s040) <|
   oSeq (oP (vExt 0 g040) s043) <|
   oSeq (oP (vExt 1 g040) s044) <|
   oSeq (oAlloc 25 [(.int .i64 0), .nilSl, .nilSl] 5 s011) <|
   oSeq (oStoreN 3 g011 g043 noPut) <|
   oMv g044 s012)) <|
  cSeq (cReg 19 (
   oSeq (oLoadN 3 g003 s045) <|
   oSeq (oLoadN 3 g005 s046) <|
   oSeq (oCallF 8 (fun T => [g045 T, g046 T]) s047) <|
   oSeq (oMv g047 s050) <|
   oSeq (oGuard g050 true s051 (oMv g004 s051)) <|
   oSeq (oGuard g050 true s052 (oMv g006 s052)) <|
   oSeq (oGuard g050 true s053 (oP (vEql g051 g052) s053)) <|
   oSeq (oP (vPick g050 g053 (kc (.bool false))) s054) <|
   oSeq (oMv g054 s055) <|
   oSeq (oGuard g055 true s056 (oLoadN 3 g007 s056)) <|
   oSeq (oGuard g055 true s057 (oLoadN 3 g011 s057)) <|
   oSeq (oGuard g055 true s060 (oCallF 8 (fun T => [g056 T, g057 T]) s060)) <|
   oSeq (oP (vPick g055 g060 (kc (.bool false))) s061) <|
   oSeq (oMv g061 s062) <|
   oSeq (oGuard g062 true s063 (oMv g010 s063)) <|
   oSeq (oGuard g062 true s064 (oMv g012 s064)) <|
   oSeq (oGuard g062 true s065 (oP (vEql g063 g064) s065)) <|
   oSeq (oP (vPick g062 g065 (kc (.bool false))) s066) <|
   oMv g066 s002)) <|
  cExit 0⟩
noncomputable def ffn4 : FFn := ⟨1, 8, [(2, (some (some 3))), (3, none)],
  cSeq (cReg 2 (
   oSeq (oAlloc 25 [(.int .i64 0), .nilSl, .nilSl] 0 s002) <|
   oMv (kc (.int .i64 0)) s003)) <|
  cSeq (cReg 6 (
   oSeq (oMv g000 s004) <|
   oSeq (oCallF 9 (fun T => [g004 T, .nilSl]) s005) <|
   oSeq (oP (vExt 0 g005) s006) <|
   oSeq (oP (vExt 1 g005) s007) <|
   oSeq (oStoreN 3 g002 g006 noPut) <|
   oMv g007 s003)) <|
  cExit 0⟩
noncomputable def ffn9 : FFn := ⟨2, 21, [(4, (some (some 3))), (5, none)],
  cSeq (cReg 2 (
   oSeq (oAlloc 25 [(.int .i64 0), .nilSl, .nilSl] 0 s004) <|
   oMv (kc (.int .i64 0)) s005)) <|
  cSeq (cSeq (cReg 4 (
   oSeq (oMv g000 s007) <|
   oSeq (oMv g001 s010) <|
   oSeq (oCallF 14 (fun T => [g007 T, g010 T, (.fn (.func 15) [] []), (.fn (.func 16) [] [])]) s011) <|
   oMv g011 s006)) <|
  cSeq (cReg 2 (
   oSeq (oMv g006 s012) <|
   oP (vNeq g012 (kc (.int .i64 0))) s013)) <|
  cCond g013
   (cSeq (cReg 4 (
    oSeq (oP (vBuild [(.int .i64 0), .nilSl, .nilSl] []) s014) <|
    oSeq (oMv g006 s015) <|
    oSeq (oStoreN 3 g004 g014 noPut) <|
    oMv g015 s005)) <|
   cExit 0)
   (cSkip)) <|
  cSeq (cReg 9 (
   oSeq (oMv g000 s016) <|
   oSeq (oMv g000 s017) <|
   oSeq (oMv g001 s020) <|
   oSeq (oCallF 18 (fun T => [g017 T, g020 T]) s021) <|
   oSeq (oCallF 17 (fun T => [g016 T, g021 T]) s022) <|
   oSeq (oP (vExt 0 g022) s023) <|
   oSeq (oP (vExt 1 g022) s024) <|
   oSeq (oStoreN 3 g004 g023 noPut) <|
   oMv g024 s005)) <|
  cExit 0⟩
noncomputable def ffn14 : FFn := ⟨4, 28, [(8, none)],
  cSeq (cReg 4 (
   oSeq (oBox 3 g000 0 s004) <|
   oSeq (oBox 45 g002 1 s006) <|
   oSeq (oBox 46 g003 2 s007) <|
   oMv (kc (.int .i64 0)) s010)) <|
  cSeq (cBlock 1 (cSeq (cReg 7 (
    oSeq (oLoad g004 s012) <|
    oSeq (oP (vLss g012 (kc (.int .i64 0))) s013) <|
    oSeq (oMv g013 s014) <|
    oSeq (oGuard g014 false s015 (oLoad g004 s015)) <|
    oSeq (oGuard g014 false s016 (oP (vGtr g015 (kc (.int .i64 8))) s016)) <|
    oSeq (oP (vPick g014 (kc (.bool true)) g016) s017) <|
    oMv g017 s011)) <|
   cCond g011
    (cSeq (cReg 1 (
     oMv (kc (.int .i64 2)) s010)) <|
    cExit 0)
    (cSeq (cReg 4 (
     oSeq (oMv g001 s021) <|
     oSeq (oP (vLen g021) s022) <|
     oSeq (oP (vGtr g022 (kc (.int .i64 60))) s023) <|
     oMv g023 s020)) <|
    cCond g020
     (cSeq (cReg 1 (
      oMv (kc (.int .i64 4)) s010)) <|
     cExit 0)
     (cSeq (cReg 4 (
      oSeq (oMv g001 s025) <|
      oSeq (oGen (.mkfn (.func 26) [] [(.t 6), (.t 7)]) 1 s026) <|
      oSeq (oCallF 25 (fun T => [g025 T, g026 T]) s027) <|
      oMv g027 s024)) <|
     cCond g024
      (cSeq (cReg 1 (
       oMv (kc (.int .i64 8)) s010)) <|
      cExit 0)
      (cSeq (cReg 4 (
       oSeq (oMv g001 s031) <|
       oSeq (oGen (.mkfn (.func 28) [] [(.t 6), (.t 4)]) 1 s032) <|
       oSeq (oCallF 25 (fun T => [g031 T, g032 T]) s033) <|
       oMv g033 s030)) <|
      cCond g030
       (cSeq (cReg 1 (
        oMv (kc (.int .i64 70)) s010)) <|
       cExit 0)
       (cSkip)))))) <|
  cSeq (cReg 1 (
   oMv (kc (.int .i64 0)) s010)) <|
  cExit 0⟩
noncomputable def ffn26 : FFn := ⟨3, 15, [(4, none)],
  cSeq (cReg 2 (
   oSeq (oBox 43 g000 0 s003) <|
   oMv (kc (.bool false)) s004)) <|
  cSeq (cReg 11 (
   oSeq (oLoad g001 s005) <|
   oSeq (oLoadN 2 g003 s006) <|
   oSeq (oCall g005 (fun T => [g006 T]) s007) <|
   oSeq (oCallF 27 (fun T => [g007 T]) s010) <|
   oSeq (oP (vNeq g010 (kc (.int .i64 0))) s011) <|
   oSeq (oMv g011 s012) <|
   oSeq (oGuard g012 false s013 (oLoad g002 s013)) <|
   oSeq (oGuard g012 false s014 (oLoadN 2 g003 s014)) <|
   oSeq (oGuard g012 false s015 (oCall g013 (fun T => [g014 T]) s015)) <|
   oSeq (oP (vPick g012 (kc (.bool true)) g015) s016) <|
   oMv g016 s004)) <|
  cExit 0⟩
noncomputable def ffn27 : FFn := ⟨1, 10, [(2, none)],
  cSeq (cReg 1 (
   oMv (kc (.int .i64 0)) s002)) <|
  cSeq (cSeq (cReg 7 (
   oSeq (oMv g000 s003) <|
   oSeq (oP (vLen g003) s004) <|
   oSeq (oP (vGtr g004 (kc (.int .i64 64))) s005) <|
   oSeq (oMv g005 s006) <|
   oSeq (oGuard g006 false s007 (oMv g000 s007)) <|
   oSeq (oGuard g006 false s010 (oCallF 41 (fun T => [g007 T, (.fn (.func 42) [] [])]) s010)) <|
   oP (vPick g006 (kc (.bool true)) g010) s011)) <|
  cCond g011
   (cSeq (cReg 1 (
    oMv (kc (.int .i64 8)) s002)) <|
   cExit 0)
   (cSkip)) <|
  cSeq (cReg 1 (
   oMv (kc (.int .i64 0)) s002)) <|
  cExit 0⟩
noncomputable def ffn41 : FFn := ⟨2, 9, [(4, none)],
  cSeq (cReg 1 (
   oMv (kc (.bool false)) s004)) <|
  cSeq (cReg 5 (
   oSeq (oMv g000 s005) <|
   oSeq (oMv g001 s006) <|
   oSeq (oCallF 63 (fun T => [g005 T, g006 T]) s007) <|
   oSeq (oP (vGeq g007 (kc (.int .i64 0))) s010) <|
   oMv g010 s004)) <|
  cExit 0⟩
noncomputable def ffn63 : FFn := ⟨2, 19, [(4, none)],
  cSeq (cReg 1 (
   oMv (kc (.int .i64 0)) s004)) <|
  cSeq (cSeq (cReg 3 (
   oSeq (oMv g000 s006) <|
   oSeq (oP (vLen g006) s007) <|
   oMv (kc (.int .i64 0)) s010)) <|
  cBlock 1 (cLoop 1000000 (cSeq (cReg 1 (
     oP (vLss g010 g007) s011)) <|
    cSeq (cCond g011
     (cSkip)
     (cExit 1)) <|
    cSeq (cBlock 3 (cSeq (cReg 2 (
      oSeq (oMv g010 s012) <|
      oMv g012 s005)) <|
     cSeq (cReg 6 (
      oSeq (oMv g001 s013) <|
      oSeq (oMv g000 s014) <|
      oSeq (oMv g005 s015) <|
      oSeq (oP (vIdx 2 g014 g015) s016) <|
      oSeq (oLoadN 2 g016 s017) <|
      oCall g013 (fun T => [g017 T]) s020)) <|
     cCond g020
      (cSeq (cReg 2 (
       oSeq (oMv g005 s021) <|
       oMv g021 s004)) <|
      cExit 0)
      (cSkip))) <|
    cReg 2 (
     oSeq (oP (vAdd g010 (kc (.int .i64 1))) s022) <|
     oMv g022 s010)))) <|
  cSeq (cReg 1 (
   oMv (kc (.int .i64 (-1))) s004)) <|
  cExit 0⟩
noncomputable def ffn42 : FFn := ⟨1, 6, [(2, none)],
  cSeq (cReg 2 (
   oSeq (oBox 40 g000 0 s001) <|
   oMv (kc (.bool false)) s002)) <|
  cSeq (cReg 4 (
   oSeq (oLoadN 2 g001 s003) <|
   oSeq (oCallF 43 (fun T => [g003 T]) s004) <|
   oSeq (oP (vNeq g004 (kc (.int .i64 0))) s005) <|
   oMv g005 s002)) <|
  cExit 0⟩
noncomputable def ffn43 : FFn := ⟨1, 17, [(2, none)],
  cSeq (cReg 2 (
   oSeq (oBox 40 g000 0 s001) <|
   oMv (kc (.int .i64 0)) s002)) <|
  cSeq (cSeq (cReg 14 (
   oSeq (oP (vFA 1 g001) s003) <|
   oSeq (oLoad g003 s004) <|
   oSeq (oCallF 64 (fun T => [g004 T]) s005) <|
   oSeq (oP (vNeq g005 (kc (.int .i64 0))) s006) <|
   oSeq (oMv g006 s007) <|
   oSeq (oGuard g007 false s010 (oP (vFA 0 g001) s010)) <|
   oSeq (oGuard g007 false s011 (oLoad g010 s011)) <|
   oSeq (oGuard g007 false s012 (oMv g011 s012)) <|
   oSeq (oGuard g012 true s013 (oP (vFA 1 g001) s013)) <|
   oSeq (oGuard g012 true s014 (oLoad g013 s014)) <|
   oSeq (oGuard g012 true s015 (oP (vLen g014) s015)) <|
   oSeq (oGuard g012 true s016 (oP (vEql g015 (kc (.int .i64 0))) s016)) <|
   oSeq (oGuard g007 false s017 (oP (vPick g012 g016 (kc (.bool false))) s017)) <|
   oP (vPick g007 (kc (.bool true)) g017) s020)) <|
  cCond g020
   (cSeq (cReg 1 (
    oMv (kc (.int .i64 8)) s002)) <|
   cExit 0)
   (cSkip)) <|
  cSeq (cReg 1 (
   oMv (kc (.int .i64 0)) s002)) <|
  cExit 0⟩
noncomputable def ffn64 : FFn := ⟨1, 16, [(2, none)],
  cSeq (cReg 1 (
   oMv (kc (.int .i64 0)) s002)) <|
  cSeq (cSeq (cReg 3 (
   oSeq (oMv g000 s004) <|
   oSeq (oP (vLen g004) s005) <|
   oMv g005 s003)) <|
  cSeq (cReg 10 (
   oSeq (oMv g003 s006) <|
   oSeq (oP (vGtr g006 (kc (.int .i64 0))) s007) <|
   oSeq (oMv g007 s010) <|
   oSeq (oGuard g010 true s011 (oMv g000 s011)) <|
   oSeq (oGuard g010 true s012 (oMv g003 s012)) <|
   oSeq (oGuard g010 true s013 (oP (vSub g012 (kc (.int .i64 1))) s013)) <|
   oSeq (oGuard g010 true s014 (oP (vIdx 1 g011 g013) s014)) <|
   oSeq (oGuard g010 true s015 (oLoad g014 s015)) <|
   oSeq (oGuard g010 true s016 (oP (vEql g015 (kc (.int .u64 0))) s016)) <|
   oP (vPick g010 g016 (kc (.bool false))) s017)) <|
  cCond g017
   (cSeq (cReg 1 (
    oMv (kc (.int .i64 8)) s002)) <|
   cExit 0)
   (cSkip)) <|
  cSeq (cReg 1 (
   oMv (kc (.int .i64 0)) s002)) <|
  cExit 0⟩
noncomputable def ffn25 : FFn := ⟨2, 9, [(4, none)],
  cSeq (cReg 1 (
   oMv (kc (.bool false)) s004)) <|
  cSeq (cReg 5 (
   oSeq (oMv g000 s005) <|
   oSeq (oMv g001 s006) <|
   oSeq (oCallF 40 (fun T => [g005 T, g006 T]) s007) <|
   oSeq (oP (vGeq g007 (kc (.int .i64 0))) s010) <|
   oMv g010 s004)) <|
  cExit 0⟩
noncomputable def ffn40 : FFn := ⟨2, 19, [(4, none)],
  cSeq (cReg 1 (
   oMv (kc (.int .i64 0)) s004)) <|
  cSeq (cSeq (cReg 3 (
   oSeq (oMv g000 s006) <|
   oSeq (oP (vLen g006) s007) <|
   oMv (kc (.int .i64 0)) s010)) <|
  cBlock 1 (cLoop 1000000 (cSeq (cReg 1 (
     oP (vLss g010 g007) s011)) <|
    cSeq (cCond g011
     (cSkip)
     (cExit 1)) <|
    cSeq (cBlock 3 (cSeq (cReg 2 (
      oSeq (oMv g010 s012) <|
      oMv g012 s005)) <|
     cSeq (cReg 6 (
      oSeq (oMv g001 s013) <|
      oSeq (oMv g000 s014) <|
      oSeq (oMv g005 s015) <|
      oSeq (oP (vIdx 2 g014 g015) s016) <|
      oSeq (oLoadN 2 g016 s017) <|
      oCall g013 (fun T => [g017 T]) s020)) <|
     cCond g020
      (cSeq (cReg 2 (
       oSeq (oMv g005 s021) <|
       oMv g021 s004)) <|
      cExit 0)
      (cSkip))) <|
    cReg 2 (
     oSeq (oP (vAdd g010 (kc (.int .i64 1))) s022) <|
     oMv g022 s010)))) <|
  cSeq (cReg 1 (
   oMv (kc (.int .i64 (-1))) s004)) <|
  cExit 0⟩
noncomputable def ffn28 : FFn := ⟨3, 12, [(4, none)],
  cSeq (cReg 2 (
   oSeq (oBox 43 g000 0 s003) <|
   oMv (kc (.bool false)) s004)) <|
  cSeq (cDrw 8 (
   dSeq (dLook 0 [] (oLoad g001 s005)) <|
   dSeq (dLook 0 [] (oLoadN 2 g003 s006)) <|
   dSeq (dAct 0 [] (oCall g005 (fun T => [g006 T]) s007)) <|
   dSeq (dLook 0 [] (oP (vLen g007) s010)) <|
   dSeq (dLook 1 [] (oLoad g002 s011)) <|
   dSeq (dLook 0 [] (oP (vAdd g011 (kc (.int .i64 1))) s012)) <|
   dSeq (dLook 0 [] (oP (vNeq g010 g012) s013)) <|
   dSeq (dLook 0 [] (oMv g013 s004)) <|
   dNop)
   (ckSeq (ckOne g011 0 [] (oLoad g002 s011)) <|
  ckNop) []) <|
  cExit 0⟩
noncomputable def ffn15 : FFn := ⟨1, 5, [(2, none)],
  cSeq (cReg 2 (
   oSeq (oBox 43 g000 0 s001) <|
   oMv (kc .nilSl) s002)) <|
  cSeq (cReg 3 (
   oSeq (oP (vFA 0 g001) s003) <|
   oSeq (oLoad g003 s004) <|
   oMv g004 s002)) <|
  cExit 0⟩
noncomputable def ffn16 : FFn := ⟨1, 3, [(2, none)],
  cSeq (cReg 2 (
   oSeq (oBox 43 g000 0 s001) <|
   oMv (kc (.bool false)) s002)) <|
  cSeq (cReg 1 (
   oMv (kc (.bool false)) s002)) <|
  cExit 0⟩
noncomputable def ffn18 : FFn := ⟨2, 79, [(4, none)],
  cSeq (cReg 1 (
   oMv (kc .nilSl) s004)) <|
  cSeq (cReg 1 (
   oMv (kc .nilSl) s005)) <|
  cSeq (cReg 4 (
   oSeq (oMv g000 s021) <|
   oSeq (oCallF 30 (fun T => [g021 T, (.int .i64 1)]) s022) <|
   oSeq (oBuildSlice 36 1 [.nilSl] 1 [((0, 1), g022)] 2 s023) <|
   oMv g023 s006)) <|
  cSeq (cSeq (cReg 3 (
   oSeq (oMv g001 s024) <|
   oSeq (oP (vLen g024) s025) <|
   oMv (kc (.int .i64 0)) s026)) <|
  cBlock 1 (cLoop 1000000 (cSeq (cReg 1 (
     oP (vLss g026 g025) s027)) <|
    cSeq (cCond g027
     (cSkip)
     (cExit 1)) <|
    cSeq (cBlock 3 (cSeq (cReg 4 (
      oSeq (oP (vIdx 2 g024 g026) s030) <|
      oSeq (oLoadN 2 g030 s031) <|
      oSeq (oAlloc 43 [.nilSl, (.bool false)] 2 s010) <|
      oStoreN 2 g010 g031 noPut)) <|
     cSeq (cReg 2 (
      oSeq (oP (vFA 1 g010) s032) <|
      oLoad g032 s033)) <|
     cCond g033
      (cReg 6 (
       oSeq (oMv g005 s034) <|
       oSeq (oP (vFA 0 g010) s035) <|
       oSeq (oLoad g035 s036) <|
       oSeq (oBuildSlice 36 1 [.nilSl] 1 [((0, 1), g036)] 3 s037) <|
       oSeq (oGen (.append 1 24 36 [.nilSl] (.t 28) (.t 31)) 4 s040) <|
       oMv g040 s005))
      (cReg 6 (
       oSeq (oMv g006 s041) <|
       oSeq (oP (vFA 0 g010) s042) <|
       oSeq (oLoad g042 s043) <|
       oSeq (oBuildSlice 36 1 [.nilSl] 1 [((0, 1), g043)] 3 s044) <|
       oSeq (oGen (.append 1 24 36 [.nilSl] (.t 33) (.t 36)) 4 s045) <|
       oMv g045 s006)))) <|
    cReg 2 (
     oSeq (oP (vAdd g026 (kc (.int .i64 1))) s046) <|
     oMv g046 s026)))) <|
  cSeq (cReg 12 (
   oSeq (oMv g000 s050) <|
   oSeq (oP (vAdd g050 (kc (.int .i64 1))) s051) <|
   oSeq (oMv g005 s052) <|
   oSeq (oMv g006 s053) <|
   oSeq (oCallF 31 (fun T => [g051 T, g052 T, g053 T]) s054) <|
   oSeq (oMv g054 s047) <|
   oSeq (oP (vExt 0 g047) s055) <|
   oSeq (oP (vExt 1 g047) s056) <|
   oSeq (oP (vExt 2 g047) s057) <|
   oSeq (oMv g055 s011) <|
   oSeq (oMv g056 s012) <|
   oMv g057 s013)) <|
  cSeq (cSeq (cReg 3 (
   oSeq (oMv g012 s060) <|
   oSeq (oCallF 32 (fun T => [g060 T, (.fn (.func 33) [] [])]) s061) <|
   oGen (.un .not (.t 49)) 2 s062)) <|
  cCond g062
   (cSeq (cReg 1 (
    oMv (kc .nilSl) s004)) <|
   cExit 0)
   (cSkip)) <|
  cSeq (cSeq (cReg 3 (
   oSeq (oMv g011 s063) <|
   oSeq (oP (vLen g063) s064) <|
   oMv (kc (.int .i64 0)) s065)) <|
  cBlock 5 (cLoop 1000000 (cSeq (cReg 1 (
     oP (vLss g065 g064) s066)) <|
    cSeq (cCond g066
     (cSkip)
     (cExit 5)) <|
    cSeq (cBlock 7 (cSeq (cReg 3 (
      oSeq (oP (vIdx 1 g063 g065) s067) <|
      oSeq (oLoad g067 s070) <|
      oMv g070 s015)) <|
     cReg 6 (
      oSeq (oMv g004 s071) <|
      oSeq (oMv g015 s072) <|
      oSeq (oP (vBuild [(.int .u8 0), .nilSl] [((0, 1), (kc (.int .u8 1))), ((1, 1), g072)]) s073) <|
      oSeq (oBuildSlice 66 2 [(.int .u8 0), .nilSl] 1 [((0, 2), g073)] 3 s074) <|
      oSeq (oGen (.append 2 32 66 [(.int .u8 0), .nilSl] (.t 57) (.t 60)) 4 s075) <|
      oMv g075 s004))) <|
    cReg 2 (
     oSeq (oP (vAdd g065 (kc (.int .i64 1))) s076) <|
     oMv g076 s065)))) <|
  cSeq (cSeq (cReg 3 (
   oSeq (oMv g012 s077) <|
   oSeq (oP (vLen g077) s100) <|
   oMv (kc (.int .i64 0)) s101)) <|
  cBlock 9 (cLoop 1000000 (cSeq (cReg 1 (
     oP (vLss g101 g100) s102)) <|
    cSeq (cCond g102
     (cSkip)
     (cExit 9)) <|
    cSeq (cBlock 11 (cSeq (cReg 3 (
      oSeq (oP (vIdx 1 g077 g101) s103) <|
      oSeq (oLoad g103 s104) <|
      oMv g104 s017)) <|
     cSeq (cReg 1 (
      oMv (kc (.int .u8 2)) s020)) <|
     cSeq (cSeq (cReg 3 (
      oSeq (oMv g017 s105) <|
      oSeq (oCallF 34 (fun T => [g105 T]) s106) <|
      oP (vGtr g106 (kc (.int .i64 0))) s107)) <|
     cCond g107
      (cReg 1 (
       oMv (kc (.int .u8 3)) s020))
      (cSkip)) <|
     cReg 7 (
      oSeq (oMv g004 s110) <|
      oSeq (oMv g020 s111) <|
      oSeq (oMv g017 s112) <|
      oSeq (oP (vBuild [(.int .u8 0), .nilSl] [((0, 1), g111), ((1, 1), g112)]) s113) <|
      oSeq (oBuildSlice 66 2 [(.int .u8 0), .nilSl] 1 [((0, 2), g113)] 4 s114) <|
      oSeq (oGen (.append 2 32 66 [(.int .u8 0), .nilSl] (.t 72) (.t 76)) 5 s115) <|
      oMv g115 s004))) <|
    cReg 2 (
     oSeq (oP (vAdd g101 (kc (.int .i64 1))) s116) <|
     oMv g116 s101)))) <|
  cExit 0⟩
noncomputable def ffn30 : FFn := ⟨2, 14, [(4, none)],
  cSeq (cReg 1 (
   oMv (kc .nilSl) s004)) <|
  cSeq (cReg 4 (
   oSeq (oMv g000 s006) <|
   oSeq (oP (vAdd g006 (kc (.int .i64 1))) s007) <|
   oSeq (oGen (.mksl 40 2 32 [(.bool false), .nilSl] (.t 7) (.t 7)) 2 s010) <|
   oMv g010 s005)) <|
  cSeq (cReg 5 (
   oSeq (oMv g005 s011) <|
   oSeq (oMv g001 s012) <|
   oSeq (oCallF 11 (fun T => [g012 T]) s013) <|
   oSeq (oP (vIdx 2 g011 (kc (.int .i64 0))) s014) <|
   oStoreN 2 g014 g013 noPut)) <|
  cSeq (cReg 2 (
   oSeq (oMv g005 s015) <|
   oMv g015 s004)) <|
  cExit 0⟩
noncomputable def ffn11 : FFn := ⟨1, 14, [(2, (some (some 2)))],
  cSeq (cReg 1 (
   oAlloc 40 [(.bool false), .nilSl] 0 s002)) <|
  cSeq (cSeq (cReg 2 (
   oSeq (oMv g000 s003) <|
   oP (vLss g003 (kc (.int .i64 0))) s004)) <|
  cCond g004
   (cSeq (cReg 6 (
    oSeq (oMv g000 s005) <|
    oSeq (oGen (.conv .u64 (.t 5)) 1 s006) <|
    oSeq (oGen (.un .neg (.t 6)) 2 s007) <|
    oSeq (oCallF 21 (fun T => [g007 T]) s010) <|
    oSeq (oCallF 20 (fun T => [(.bool true), g010 T]) s011) <|
    oStoreN 2 g002 g011 noPut)) <|
   cExit 0)
   (cSkip)) <|
  cSeq (cReg 5 (
   oSeq (oMv g000 s012) <|
   oSeq (oGen (.conv .u64 (.t 10)) 1 s013) <|
   oSeq (oCallF 21 (fun T => [g013 T]) s014) <|
   oSeq (oCallF 20 (fun T => [(.bool false), g014 T]) s015) <|
   oStoreN 2 g002 g015 noPut)) <|
  cExit 0⟩
noncomputable def ffn21 : FFn := ⟨1, 6, [(2, none)],
  cSeq (cReg 1 (
   oMv (kc .nilSl) s002)) <|
  cSeq (cReg 4 (
   oSeq (oMv g000 s003) <|
   oSeq (oBuildSlice 52 1 [(.int .u64 0)] 1 [((0, 1), g003)] 1 s004) <|
   oSeq (oCallF 37 (fun T => [g004 T]) s005) <|
   oMv g005 s002)) <|
  cExit 0⟩
noncomputable def ffn37 : FFn := ⟨1, 22, [(2, none)],
  cSeq (cReg 1 (
   oMv (kc .nilSl) s002)) <|
  cSeq (cBlock 1 (cLoop 1000000 (cSeq (cSeq (cReg 12 (
     oSeq (oMv g000 s003) <|
     oSeq (oP (vLen g003) s004) <|
     oSeq (oP (vGtr g004 (kc (.int .i64 0))) s005) <|
     oSeq (oMv g005 s006) <|
     oSeq (oGuard g006 true s007 (oMv g000 s007)) <|
     oSeq (oGuard g006 true s010 (oMv g000 s010)) <|
     oSeq (oGuard g006 true s011 (oP (vLen g010) s011)) <|
     oSeq (oGuard g006 true s012 (oP (vSub g011 (kc (.int .i64 1))) s012)) <|
     oSeq (oGuard g006 true s013 (oP (vIdx 1 g007 g012) s013)) <|
     oSeq (oGuard g006 true s014 (oLoad g013 s014)) <|
     oSeq (oGuard g006 true s015 (oP (vEql g014 (kc (.int .u64 0))) s015)) <|
     oP (vPick g006 g015 (kc (.bool false))) s016)) <|
    cCond g016
     (cSkip)
     (cExit 1)) <|
    cBlock 3 (cReg 6 (
      oSeq (oMv g000 s017) <|
      oSeq (oMv g000 s020) <|
      oSeq (oP (vLen g020) s021) <|
      oSeq (oP (vSub g021 (kc (.int .i64 1))) s022) <|
      oSeq (oGen (.slice 1 (.t 15) none (some (.t 18)) none) 4 s023) <|
      oMv g023 s000))))) <|
  cSeq (cReg 3 (
   oSeq (oMv g000 s024) <|
   oSeq (oCallF 60 (fun T => [g024 T]) s025) <|
   oMv g025 s002)) <|
  cExit 0⟩
noncomputable def ffn60 : FFn := ⟨1, 9, [(2, none)],
  cSeq (cReg 1 (
   oMv (kc .nilSl) s002)) <|
  cSeq (cReg 7 (
   oSeq (oMv g000 s003) <|
   oSeq (oMv g000 s004) <|
   oSeq (oP (vLen g004) s005) <|
   oSeq (oMv g000 s006) <|
   oSeq (oP (vLen g006) s007) <|
   oSeq (oGen (.slice 1 (.t 3) none (some (.t 5)) (some (.t 7))) 5 s010) <|
   oMv g010 s002)) <|
  cExit 0⟩
noncomputable def ffn20 : FFn := ⟨2, 13, [(4, (some (some 2)))],
  cSeq (cReg 1 (
   oAlloc 40 [(.bool false), .nilSl] 0 s004)) <|
  cSeq (cReg 9 (
   oSeq (oMv g000 s005) <|
   oSeq (oMv g005 s006) <|
   oSeq (oGuard g006 true s007 (oMv g001 s007)) <|
   oSeq (oGuard g006 true s010 (oP (vLen g007) s010)) <|
   oSeq (oGuard g006 true s011 (oP (vGtr g010 (kc (.int .i64 0))) s011)) <|
   oSeq (oP (vPick g006 g011 (kc (.bool false))) s012) <|
   oSeq (oMv g001 s013) <|
   oSeq (oP (vBuild [(.bool false), .nilSl] [((0, 1), g012), ((1, 1), g013)]) s014) <|
   oStoreN 2 g004 g014 noPut)) <|
  cExit 0⟩
noncomputable def ffn31 : FFn := ⟨3, 100, [(6, none), (7, none), (8, none)],
  cSeq (cReg 3 (
   oSeq (oMv (kc .nilSl) s006) <|
   oSeq (oMv (kc .nilSl) s007) <|
   oMv (kc (.int .i64 0)) s010)) <|
  cSeq (cSeq (cReg 4 (
   oSeq (oMv g001 s022) <|
   oSeq (oMv g002 s023) <|
   oSeq (oCallF 45 (fun T => [g022 T, g023 T]) s024) <|
   oMv g024 s010)) <|
  cSeq (cReg 2 (
   oSeq (oMv g010 s025) <|
   oP (vNeq g025 (kc (.int .i64 0))) s026)) <|
  cCond g026
   (cExit 0)
   (cSkip)) <|
  cSeq (cSeq (cReg 5 (
   oSeq (oMv g001 s027) <|
   oSeq (oMv g002 s030) <|
   oSeq (oBuildSlice 59 1 [.nilSl, .nilSl] 2 [((0, 1), g027), ((1, 1), g030)] 2 s031) <|
   oSeq (oCallF 46 (fun T => [g031 T]) s032) <|
   oMv g032 s011)) <|
  cBlock 1 (cSeq (cReg 7 (
    oSeq (oMv g000 s034) <|
    oSeq (oP (vLss g034 (kc (.int .i64 1))) s035) <|
    oSeq (oMv g035 s036) <|
    oSeq (oGuard g036 false s037 (oMv g000 s037)) <|
    oSeq (oGuard g036 false s040 (oP (vGtr g037 (kc (.int .i64 64))) s040)) <|
    oSeq (oP (vPick g036 (kc (.bool true)) g040) s041) <|
    oMv g041 s033)) <|
   cCond g033
    (cSeq (cReg 3 (
     oSeq (oMv (kc .nilSl) s006) <|
     oSeq (oMv (kc .nilSl) s007) <|
     oMv (kc (.int .i64 2)) s010)) <|
    cExit 0)
    (cSeq (cReg 8 (
     oSeq (oMv g011 s043) <|
     oSeq (oP (vGeq g043 (kc (.int .i64 0))) s044) <|
     oSeq (oMv g044 s045) <|
     oSeq (oGuard g045 true s046 (oMv g011 s046)) <|
     oSeq (oGuard g045 true s047 (oMv g000 s047)) <|
     oSeq (oGuard g045 true s050 (oP (vNeq g046 g047) s050)) <|
     oSeq (oP (vPick g045 g050 (kc (.bool false))) s051) <|
     oMv g051 s042)) <|
    cCond g042
     (cSeq (cReg 3 (
      oSeq (oMv (kc .nilSl) s006) <|
      oSeq (oMv (kc .nilSl) s007) <|
      oMv (kc (.int .i64 70)) s010)) <|
     cExit 0)
     (cSkip)))) <|
  cSeq (cReg 5 (
   oSeq (oMv g000 s052) <|
   oSeq (oCallF 47 (fun T => [g052 T]) s053) <|
   oSeq (oP (vBuild [.nilSl, .nilSl, .nilSl] [((0, 1), g053)]) s054) <|
   oSeq (oBox 78 g054 3 s055) <|
   oMv g055 s012)) <|
  cSeq (cReg 3 (
   oSeq (oMv g012 s056) <|
   oSeq (oGen (.mkfn (.func 48) [(.t 46)] []) 1 s057) <|
   oMv g057 s013)) <|
  cSeq (cSeq (cReg 3 (
   oSeq (oMv g001 s060) <|
   oSeq (oP (vLen g060) s061) <|
   oMv (kc (.int .i64 0)) s062)) <|
  cBlock 3 (cLoop 1000000 (cSeq (cReg 1 (
     oP (vLss g062 g061) s063)) <|
    cSeq (cCond g063
     (cSkip)
     (cExit 3)) <|
    cSeq (cBlock 5 (cSeq (cReg 3 (
      oSeq (oP (vIdx 1 g060 g062) s064) <|
      oSeq (oLoad g064 s065) <|
      oMv g065 s015)) <|
     cReg 3 (
      oSeq (oMv g013 s066) <|
      oSeq (oMv g015 s067) <|
      oCall g066 (fun T => [g067 T, (.bool true)]) s070))) <|
    cReg 2 (
     oSeq (oP (vAdd g062 (kc (.int .i64 1))) s071) <|
     oMv g071 s062)))) <|
  cSeq (cSeq (cReg 3 (
   oSeq (oMv g002 s072) <|
   oSeq (oP (vLen g072) s073) <|
   oMv (kc (.int .i64 0)) s074)) <|
  cBlock 7 (cLoop 1000000 (cSeq (cReg 1 (
     oP (vLss g074 g073) s075)) <|
    cSeq (cCond g075
     (cSkip)
     (cExit 7)) <|
    cSeq (cBlock 9 (cSeq (cReg 3 (
      oSeq (oP (vIdx 1 g072 g074) s076) <|
      oSeq (oLoad g076 s077) <|
      oMv g077 s017)) <|
     cReg 3 (
      oSeq (oMv g013 s100) <|
      oSeq (oMv g017 s101) <|
      oCall g100 (fun T => [g101 T, (.bool false)]) s102))) <|
    cReg 2 (
     oSeq (oP (vAdd g074 (kc (.int .i64 1))) s103) <|
     oMv g103 s074)))) <|
  cSeq (cReg 9 (
   oSeq (oMv g012 s105) <|
   oSeq (oGen (.nilCheck (.t 69)) 1 s106) <|
   oSeq (oP (vFA 0 g106) s107) <|
   oSeq (oLoad g107 s110) <|
   oSeq (oCallF 49 (fun T => [g110 T]) s111) <|
   oSeq (oMv g111 s104) <|
   oSeq (oP (vExt 0 g104) s112) <|
   oSeq (oP (vExt 1 g104) s113) <|
   oMv g112 s006)) <|
  cSeq (cSeq (cReg 6 (
   oSeq (oMv g012 s114) <|
   oSeq (oGen (.nilCheck (.t 76)) 1 s115) <|
   oSeq (oP (vFA 1 g115) s116) <|
   oSeq (oLoad g116 s117) <|
   oSeq (oP (vLen g117) s120) <|
   oMv (kc (.int .i64 0)) s121)) <|
  cBlock 11 (cLoop 1000000 (cSeq (cReg 1 (
     oP (vLss g121 g120) s122)) <|
    cSeq (cCond g122
     (cSkip)
     (cExit 11)) <|
    cSeq (cBlock 13 (cSeq (cReg 3 (
      oSeq (oP (vIdx 1 g117 g121) s123) <|
      oSeq (oLoad g123 s124) <|
      oMv g124 s021)) <|
     cSeq (cReg 7 (
      oSeq (oMv g021 s126) <|
      oSeq (oMv g006 s127) <|
      oSeq (oCallF 50 (fun T => [g126 T, g127 T]) s130) <|
      oSeq (oMv g130 s125) <|
      oSeq (oP (vExt 0 g125) s131) <|
      oSeq (oP (vExt 1 g125) s132) <|
      oMv g131 s021)) <|
     cReg 5 (
      oSeq (oMv g007 s133) <|
      oSeq (oMv g021 s134) <|
      oSeq (oBuildSlice 36 1 [.nilSl] 1 [((0, 1), g134)] 2 s135) <|
      oSeq (oGen (.append 1 24 36 [.nilSl] (.t 91) (.t 93)) 3 s136) <|
      oMv g136 s007))) <|
    cReg 2 (
     oSeq (oP (vAdd g121 (kc (.int .i64 1))) s137) <|
     oMv g137 s121)))) <|
  cSeq (cReg 2 (
   oSeq (oMv g007 s140) <|
   oCallF 51 (fun T => [g140 T, (.fn (.func 52) [] [])]) s141)) <|
  cSeq (cReg 5 (
   oSeq (oMv g006 s142) <|
   oSeq (oMv g007 s143) <|
   oSeq (oMv g142 s006) <|
   oSeq (oMv g143 s007) <|
   oMv (kc (.int .i64 0)) s010)) <|
  cExit 0⟩
noncomputable def ffn45 : FFn := ⟨2, 39, [(4, none)],
  cSeq (cReg 1 (
   oMv (kc (.int .i64 0)) s004)) <|
  cSeq (cSeq (cReg 4 (
   oSeq (oMv g000 s010) <|
   oSeq (oMv g001 s011) <|
   oSeq (oP (vBuild [.nilSl, .nilSl] [((0, 1), g010), ((1, 1), g011)]) s012) <|
   oMv (kc (.int .i64 0)) s013)) <|
  cBlock 1 (cLoop 1000000 (cSeq (cReg 1 (
     oP (vLss g013 (kc (.int .i64 2))) s014)) <|
    cSeq (cCond g014
     (cSkip)
     (cExit 1)) <|
    cSeq (cBlock 3 (cSeq (cReg 2 (
      oSeq (oGen (.indexAgg 2 1 none (.t 10) (.t 11)) 0 s015) <|
      oMv g015 s006)) <|
     cSeq (cReg 3 (
      oSeq (oMv g006 s016) <|
      oSeq (oCallF 67 (fun T => [g016 T]) s017) <|
      oMv g017 s007)) <|
     cSeq (cReg 2 (
      oSeq (oMv g007 s020) <|
      oP (vNeq g020 (kc (.int .i64 0))) s021)) <|
     cCond g021
      (cSeq (cReg 2 (
       oSeq (oMv g007 s022) <|
       oMv g022 s004)) <|
      cExit 0)
      (cSkip))) <|
    cReg 2 (
     oSeq (oP (vAdd g013 (kc (.int .i64 1))) s023) <|
     oMv g023 s013)))) <|
  cSeq (cSeq (cDrw 19 (
   dSeq (dLook 0 [] (oMv g000 s024)) <|
   dSeq (dLook 0 [] (oP (vLen g024) s025)) <|
   dSeq (dLook 0 [] (oP (vGtr g025 (kc (.int .i64 0))) s026)) <|
   dSeq (dLook 0 [] (oMv g026 s027)) <|
   dSeq (dLook 0 [] (oGuard g027 true s030 (oMv g001 s030))) <|
   dSeq (dLook 0 [] (oGuard g027 true s031 (oP (vLen g030) s031))) <|
   dSeq (dLook 0 [] (oGuard g027 true s032 (oP (vGtr g031 (kc (.int .i64 0))) s032))) <|
   dSeq (dLook 0 [] (oP (vPick g027 g032 (kc (.bool false))) s033)) <|
   dSeq (dLook 0 [] (oMv g033 s034)) <|
   dSeq (dLook 0 [] (oGuard g034 true s035 (oMv g000 s035))) <|
   dSeq (dLook 0 [] (oGuard g034 true s036 (oP (vIdx 1 g035 (kc (.int .i64 0))) s036))) <|
   dSeq (dLook 0 [] (oGuard g034 true s037 (oLoad g036 s037))) <|
   dSeq (dLook 0 [] (oGuard g034 true s040 (oP (vLen g037) s040))) <|
   dSeq (dLook 0 [] (oGuard g034 true s041 (oMv g001 s041))) <|
   dSeq (dLook 0 [] (oGuard g034 true s042 (oP (vIdx 1 g041 (kc (.int .i64 0))) s042))) <|
   dSeq (dLook 0 [] (oGuard g034 true s043 (oLoad g042 s043))) <|
   dSeq (dLook 0 [] (oGuard g034 true s044 (oP (vLen g043) s044))) <|
   dSeq (dLook 0 [] (oGuard g034 true s045 (oP (vNeq g040 g044) s045))) <|
   dSeq (dLook 0 [] (oP (vPick g034 g045 (kc (.bool false))) s046)) <|
   dNop)
   (ckNop) []) <|
  cCond g046
   (cSeq (cReg 1 (
    oMv (kc (.int .i64 70)) s004)) <|
   cExit 0)
   (cSkip)) <|
  cSeq (cReg 1 (
   oMv (kc (.int .i64 0)) s004)) <|
  cExit 0⟩
noncomputable def ffn67 : FFn := ⟨1, 39, [(2, none)],
  cSeq (cReg 1 (
   oMv (kc (.int .i64 0)) s002)) <|
  cSeq (cSeq (cReg 3 (
   oSeq (oMv g000 s007) <|
   oSeq (oP (vLen g007) s010) <|
   oP (vGtr g010 (kc (.int .i64 1024))) s011)) <|
  cCond g011
   (cSeq (cReg 1 (
    oMv (kc (.int .i64 4)) s002)) <|
   cExit 0)
   (cSkip)) <|
  cSeq (cSeq (cReg 3 (
   oSeq (oMv g000 s012) <|
   oSeq (oP (vLen g012) s013) <|
   oMv (kc (.int .i64 0)) s014)) <|
  cBlock 1 (cLoop 1000000 (cSeq (cReg 1 (
     oP (vLss g014 g013) s015)) <|
    cSeq (cCond g015
     (cSkip)
     (cExit 1)) <|
    cSeq (cBlock 3 (cSeq (cReg 3 (
      oSeq (oP (vIdx 1 g012 g014) s016) <|
      oSeq (oLoad g016 s017) <|
      oMv g017 s004)) <|
     cSeq (cReg 8 (
      oSeq (oMv g004 s020) <|
      oSeq (oCallF 27 (fun T => [g020 T]) s021) <|
      oSeq (oP (vNeq g021 (kc (.int .i64 0))) s022) <|
      oSeq (oMv g022 s023) <|
      oSeq (oGuard g023 false s024 (oMv g004 s024)) <|
      oSeq (oGuard g023 false s025 (oP (vLen g024) s025)) <|
      oSeq (oGuard g023 false s026 (oP (vEql g025 (kc (.int .i64 0))) s026)) <|
      oP (vPick g023 (kc (.bool true)) g026) s027)) <|
     cCond g027
      (cSeq (cReg 1 (
       oMv (kc (.int .i64 8)) s002)) <|
      cExit 0)
      (cSkip))) <|
    cReg 2 (
     oSeq (oP (vAdd g014 (kc (.int .i64 1))) s030) <|
     oMv g030 s014)))) <|
  cSeq (cSeq (cReg 3 (
   oSeq (oMv g000 s031) <|
   oSeq (oP (vLen g031) s032) <|
   oMv (kc (.int .i64 0)) s033)) <|
  cBlock 5 (cLoop 1000000 (cSeq (cReg 1 (
     oP (vLss g033 g032) s034)) <|
    cSeq (cCond g034
     (cSkip)
     (cExit 5)) <|
    cSeq (cBlock 7 (cSeq (cReg 3 (
      oSeq (oP (vIdx 1 g031 g033) s035) <|
      oSeq (oLoad g035 s036) <|
      oMv g036 s006)) <|
     cSeq (cReg 7 (
      oSeq (oMv g006 s037) <|
      oSeq (oP (vLen g037) s040) <|
      oSeq (oMv g000 s041) <|
      oSeq (oP (vIdx 1 g041 (kc (.int .i64 0))) s042) <|
      oSeq (oLoad g042 s043) <|
      oSeq (oP (vLen g043) s044) <|
      oP (vNeq g040 g044) s045)) <|
     cCond g045
      (cSeq (cReg 1 (
       oMv (kc (.int .i64 70)) s002)) <|
      cExit 0)
      (cSkip))) <|
    cReg 2 (
     oSeq (oP (vAdd g033 (kc (.int .i64 1))) s046) <|
     oMv g046 s033)))) <|
  cSeq (cReg 1 (
   oMv (kc (.int .i64 0)) s002)) <|
  cExit 0⟩
noncomputable def ffn46 : FFn := ⟨1, 19, [(2, none)],
  cSeq (cReg 1 (
   oMv (kc (.int .i64 0)) s002)) <|
  cSeq (cSeq (cReg 3 (
   oSeq (oMv g000 s005) <|
   oSeq (oP (vLen g005) s006) <|
   oMv (kc (.int .i64 0)) s007)) <|
  cBlock 1 (cLoop 1000000 (cSeq (cReg 1 (
     oP (vLss g007 g006) s010)) <|
    cSeq (cCond g010
     (cSkip)
     (cExit 1)) <|
    cSeq (cBlock 3 (cSeq (cReg 3 (
      oSeq (oP (vIdx 1 g005 g007) s011) <|
      oSeq (oLoad g011 s012) <|
      oMv g012 s004)) <|
     cSeq (cReg 3 (
      oSeq (oMv g004 s013) <|
      oSeq (oP (vLen g013) s014) <|
      oP (vGtr g014 (kc (.int .i64 0))) s015)) <|
     cCond g015
      (cSeq (cReg 5 (
       oSeq (oMv g004 s016) <|
       oSeq (oP (vIdx 1 g016 (kc (.int .i64 0))) s017) <|
       oSeq (oLoad g017 s020) <|
       oSeq (oP (vLen g020) s021) <|
       oMv g021 s002)) <|
      cExit 0)
      (cSkip))) <|
    cReg 2 (
     oSeq (oP (vAdd g007 (kc (.int .i64 1))) s022) <|
     oMv g022 s007)))) <|
  cSeq (cReg 1 (
   oMv (kc (.int .i64 (-1))) s002)) <|
  cExit 0⟩
noncomputable def ffn47 : FFn := ⟨1, 20, [(2, none)],
  cSeq (cReg 1 (
   oMv (kc .nilSl) s002)) <|
  cSeq (cSeq (cReg 2 (
   oSeq (oMv g000 s005) <|
   oMv (kc (.int .i64 0)) s006)) <|
  cBlock 1 (cLoop 1000000 (cSeq (cReg 1 (
     oP (vLss g006 g005) s007)) <|
    cSeq (cCond g007
     (cSkip)
     (cExit 1)) <|
    cSeq (cBlock 3 (cSeq (cReg 2 (
      oSeq (oMv g006 s010) <|
      oMv g010 s003)) <|
     cSeq (cReg 3 (
      oSeq (oMv g000 s011) <|
      oSeq (oGen (.mksl 40 2 32 [(.bool false), .nilSl] (.t 9) (.t 9)) 1 s012) <|
      oMv g012 s004)) <|
     cSeq (cReg 5 (
      oSeq (oMv g004 s013) <|
      oSeq (oMv g003 s014) <|
      oSeq (oCallF 11 (fun _ => [(.int .i64 1)]) s015) <|
      oSeq (oP (vIdx 2 g013 g014) s016) <|
      oStoreN 2 g016 g015 noPut)) <|
     cReg 5 (
      oSeq (oMv g002 s017) <|
      oSeq (oMv g004 s020) <|
      oSeq (oBuildSlice 36 1 [.nilSl] 1 [((0, 1), g020)] 2 s021) <|
      oSeq (oGen (.append 1 24 36 [.nilSl] (.t 15) (.t 17)) 3 s022) <|
      oMv g022 s002))) <|
    cReg 2 (
     oSeq (oP (vAdd g006 (kc (.int .i64 1))) s023) <|
     oMv g023 s006)))) <|
  cExit 0⟩
noncomputable def ffn48 : FFn := ⟨3, 48, [],
  cSeq (cReg 1 (
   oBox 36 g001 0 s004)) <|
  cSeq (cReg 7 (
   oSeq (oMv g000 s010) <|
   oSeq (oGen (.nilCheck (.t 8)) 1 s011) <|
   oSeq (oP (vFA 0 g011) s012) <|
   oSeq (oLoad g012 s013) <|
   oSeq (oGen (.mkfn (.func 68) [] [(.t 4)]) 4 s014) <|
   oSeq (oCallF 54 (fun T => [g013 T, g014 T]) s015) <|
   oMv g015 s006)) <|
  cSeq (cSeq (cReg 2 (
   oSeq (oMv g006 s016) <|
   oP (vLss g016 (kc (.int .i64 0))) s017)) <|
  cCond g017
   (cReg 4 (
    oSeq (oMv g000 s020) <|
    oSeq (oLoad g004 s021) <|
    oSeq (oMv g002 s022) <|
    oCallF 71 (fun T => [g020 T, g021 T, g022 T]) s023))
   (cSeq (cReg 5 (
    oSeq (oMv g000 s024) <|
    oSeq (oLoad g004 s025) <|
    oSeq (oMv g006 s026) <|
    oSeq (oCallF 72 (fun T => [g024 T, g025 T, g026 T]) s027) <|
    oMv g027 s007)) <|
   cSeq (cReg 2 (
    oSeq (oMv g002 s030) <|
    oGen (.un .not (.t 24)) 1 s031)) <|
   cCond g031
    (cReg 11 (
     oSeq (oMv g000 s032) <|
     oSeq (oMv g000 s033) <|
     oSeq (oGen (.nilCheck (.t 27)) 2 s034) <|
     oSeq (oP (vFA 1 g034) s035) <|
     oSeq (oLoad g035 s036) <|
     oSeq (oMv g007 s037) <|
     oSeq (oBuildSlice 36 1 [.nilSl] 1 [((0, 1), g037)] 6 s040) <|
     oSeq (oGen (.append 1 24 36 [.nilSl] (.t 30) (.t 32)) 7 s041) <|
     oSeq (oGen (.nilCheck (.t 26)) 8 s042) <|
     oSeq (oP (vFA 1 g042) s043) <|
     oStore g043 g041 noPut))
    (cSkip))) <|
  cSeq (cReg 2 (
   oSeq (oMv g002 s044) <|
   oGen (.un .not (.t 36)) 1 s045)) <|
  cCond g045
   (cDrw 11 (
    dSeq (dLook 0 [] (oMv g000 s046)) <|
    dSeq (dLook 0 [] (oMv g000 s047)) <|
    dSeq (dLook 0 [] (oGen (.nilCheck (.t 39)) 2 s050)) <|
    dSeq (dLook 0 [] (oP (vFA 2 g050) s051)) <|
    dSeq (dLook 0 [] (oLoad g051 s052)) <|
    dSeq (dLook 0 [] (oLoad g004 s053)) <|
    dSeq (dMake 6 (oBuildSlice 36 1 [.nilSl] 1 [((0, 1), g053)] 6 s054)) <|
    dSeq (dAct 0 [(6, 0)] (oGen (.append 1 24 36 [.nilSl] (.t 42) (.t 44)) 7 s055)) <|
    dSeq (dLook 0 [] (oGen (.nilCheck (.t 38)) 8 s056)) <|
    dSeq (dLook 0 [] (oP (vFA 2 g056) s057)) <|
    dSeq (dAct 0 [] (oStore g057 g055 noPut)) <|
    dNop)
    (ckNop) [])
   (cSkip)⟩
noncomputable def ffn68 : FFn := ⟨2, 9, [(3, none)],
  cSeq (cReg 1 (
   oMv (kc (.bool false)) s003)) <|
  cSeq (cReg 6 (
   oSeq (oLoad g001 s004) <|
   oSeq (oMv g000 s005) <|
   oSeq (oCallF 70 (fun T => [g004 T, g005 T]) s006) <|
   oSeq (oCallF 69 (fun T => [g006 T]) s007) <|
   oSeq (oP (vNeq g007 (kc (.int .i64 0))) s010) <|
   oMv g010 s003)) <|
  cExit 0⟩
noncomputable def ffn70 : FFn := ⟨2, 14, [(4, (some (some 2)))],
  cSeq (cReg 1 (
   oAlloc 40 [(.bool false), .nilSl] 0 s004)) <|
  cSeq (cReg 9 (
   oSeq (oMv g000 s010) <|
   oSeq (oMv g001 s011) <|
   oSeq (oCallF 87 (fun T => [g010 T, g011 T]) s012) <|
   oSeq (oMv g012 s007) <|
   oSeq (oP (vExt 0 g007) s013) <|
   oSeq (oP (vExt 1 g007) s014) <|
   oSeq (oAlloc 40 [(.bool false), .nilSl] 6 s005) <|
   oSeq (oStoreN 2 g005 g013 noPut) <|
   oMv g014 s006)) <|
  cSeq (cReg 2 (
   oSeq (oLoadN 2 g005 s015) <|
   oStoreN 2 g004 g015 noPut)) <|
  cExit 0⟩
noncomputable def ffn87 : FFn := ⟨2, 30, [(4, (some (some 2))), (5, none)],
  cSeq (cReg 2 (
   oSeq (oAlloc 40 [(.bool false), .nilSl] 0 s004) <|
   oMv (kc (.int .i64 0)) s005)) <|
  cSeq (cSeq (cReg 5 (
   oSeq (oMv g000 s010) <|
   oSeq (oMv g001 s011) <|
   oSeq (oBuildSlice 36 1 [.nilSl, .nilSl] 2 [((0, 1), g010), ((1, 1), g011)] 2 s012) <|
   oSeq (oCallF 78 (fun T => [g012 T]) s013) <|
   oMv g013 s005)) <|
  cSeq (cReg 2 (
   oSeq (oMv g005 s014) <|
   oP (vNeq g014 (kc (.int .i64 0))) s015)) <|
  cCond g015
   (cExit 0)
   (cSkip)) <|
  cSeq (cSeq (cReg 3 (
   oSeq (oMv g000 s016) <|
   oSeq (oP (vLen g016) s017) <|
   oMv (kc (.int .i64 0)) s020)) <|
  cBlock 1 (cLoop 1000000 (cSeq (cReg 1 (
     oP (vLss g020 g017) s021)) <|
    cSeq (cCond g021
     (cSkip)
     (cExit 1)) <|
    cSeq (cBlock 3 (cSeq (cReg 6 (
      oSeq (oMv g020 s022) <|
      oSeq (oP (vIdx 2 g016 g020) s023) <|
      oSeq (oLoadN 2 g023 s024) <|
      oSeq (oAlloc 40 [(.bool false), .nilSl] 3 s007) <|
      oSeq (oMv g022 s006) <|
      oStoreN 2 g007 g024 noPut)) <|
     cDrw 9 (
      dSeq (dLook 0 [] (oLoadN 2 g004 s025)) <|
      dSeq (dLook 0 [] (oLoadN 2 g007 s026)) <|
      dSeq (dLook 0 [] (oMv g001 s027)) <|
      dSeq (dLook 0 [] (oMv g006 s030)) <|
      dSeq (dLook 0 [] (oP (vIdx 2 g027 g030) s031)) <|
      dSeq (dLook 0 [] (oLoadN 2 g031 s032)) <|
      dSeq (dAct 0 [] (oCallF 122 (fun T => [g026 T, g032 T]) s033)) <|
      dSeq (dAct 0 [] (oCallF 121 (fun T => [g025 T, g033 T]) s034)) <|
      dSeq (dAct 0 [] (oStoreN 2 g004 g034 noPut)) <|
      dNop)
      (ckSeq (ckOne g025 2 [] (oLoadN 2 g004 s025)) <|
     ckNop) [])) <|
    cReg 2 (
     oSeq (oP (vAdd g020 (kc (.int .i64 1))) s035) <|
     oMv g035 s020)))) <|
  cExit 0⟩
noncomputable def ffn78 : FFn := ⟨1, 35, [(2, none)],
  cSeq (cReg 1 (
   oMv (kc (.int .i64 0)) s002)) <|
  cSeq (cSeq (cReg 3 (
   oSeq (oMv g000 s010) <|
   oSeq (oP (vLen g010) s011) <|
   oMv (kc (.int .i64 0)) s012)) <|
  cBlock 1 (cLoop 1000000 (cSeq (cReg 1 (
     oP (vLss g012 g011) s013)) <|
    cSeq (cCond g013
     (cSkip)
     (cExit 1)) <|
    cSeq (cBlock 3 (cSeq (cReg 3 (
      oSeq (oP (vIdx 1 g010 g012) s014) <|
      oSeq (oLoad g014 s015) <|
      oMv g015 s004)) <|
     cSeq (cReg 3 (
      oSeq (oMv g004 s016) <|
      oSeq (oCallF 27 (fun T => [g016 T]) s017) <|
      oMv g017 s005)) <|
     cSeq (cReg 2 (
      oSeq (oMv g005 s020) <|
      oP (vNeq g020 (kc (.int .i64 0))) s021)) <|
     cCond g021
      (cSeq (cReg 2 (
       oSeq (oMv g005 s022) <|
       oMv g022 s002)) <|
      cExit 0)
      (cSkip))) <|
    cReg 2 (
     oSeq (oP (vAdd g012 (kc (.int .i64 1))) s023) <|
     oMv g023 s012)))) <|
  cSeq (cSeq (cReg 4 (
   oSeq (oMv g000 s024) <|
   oSeq (oGen (.slice 1 (.t 20) (some (.c (.int .i64 1))) none none) 1 s025) <|
   oSeq (oP (vLen g025) s026) <|
   oMv (kc (.int .i64 0)) s027)) <|
  cBlock 5 (cLoop 1000000 (cSeq (cReg 1 (
     oP (vLss g027 g026) s030)) <|
    cSeq (cCond g030
     (cSkip)
     (cExit 5)) <|
    cSeq (cBlock 7 (cSeq (cReg 3 (
      oSeq (oP (vIdx 1 g025 g027) s031) <|
      oSeq (oLoad g031 s032) <|
      oMv g032 s007)) <|
     cSeq (cReg 7 (
      oSeq (oMv g007 s033) <|
      oSeq (oP (vLen g033) s034) <|
      oSeq (oMv g000 s035) <|
      oSeq (oP (vIdx 1 g035 (kc (.int .i64 0))) s036) <|
      oSeq (oLoad g036 s037) <|
      oSeq (oP (vLen g037) s040) <|
      oP (vNeq g034 g040) s041)) <|
     cCond g041
      (cSeq (cReg 1 (
       oMv (kc (.int .i64 70)) s002)) <|
      cExit 0)
      (cSkip))) <|
    cReg 2 (
     oSeq (oP (vAdd g027 (kc (.int .i64 1))) s042) <|
     oMv g042 s027)))) <|
  cSeq (cReg 1 (
   oMv (kc (.int .i64 0)) s002)) <|
  cExit 0⟩
noncomputable def ffn122 : FFn := ⟨2, 14, [(4, (some (some 2)))],
  cSeq (cReg 3 (
   oSeq (oBox 40 g000 0 s002) <|
   oSeq (oBox 40 g001 1 s003) <|
   oAlloc 40 [(.bool false), .nilSl] 2 s004)) <|
  cSeq (cReg 9 (
   oSeq (oLoadN 2 g002 s010) <|
   oSeq (oLoadN 2 g003 s011) <|
   oSeq (oCallF 153 (fun T => [g010 T, g011 T]) s012) <|
   oSeq (oMv g012 s007) <|
   oSeq (oP (vExt 0 g007) s013) <|
   oSeq (oP (vExt 1 g007) s014) <|
   oSeq (oAlloc 40 [(.bool false), .nilSl] 6 s005) <|
   oSeq (oStoreN 2 g005 g013 noPut) <|
   oMv g014 s006)) <|
  cSeq (cReg 2 (
   oSeq (oLoadN 2 g005 s015) <|
   oStoreN 2 g004 g015 noPut)) <|
  cExit 0⟩
noncomputable def ffn153 : FFn := ⟨2, 32, [(4, (some (some 2))), (5, none)],
  cSeq (cReg 4 (
   oSeq (oBox 40 g000 0 s002) <|
   oSeq (oBox 40 g001 1 s003) <|
   oSeq (oAlloc 40 [(.bool false), .nilSl] 2 s004) <|
   oMv (kc (.int .i64 0)) s005)) <|
  cSeq (cSeq (cReg 5 (
   oSeq (oLoadN 2 g002 s011) <|
   oSeq (oLoadN 2 g003 s012) <|
   oSeq (oBuildSlice 40 2 [(.bool false), .nilSl, (.bool false), .nilSl] 2 [((0, 2), g011), ((2, 2), g012)] 2 s013) <|
   oSeq (oCallF 139 (fun T => [g013 T]) s014) <|
   oMv g014 s006)) <|
  cSeq (cReg 2 (
   oSeq (oMv g006 s015) <|
   oP (vNeq g015 (kc (.int .i64 0))) s016)) <|
  cCond g016
   (cSeq (cReg 4 (
    oSeq (oP (vBuild [(.bool false), .nilSl] []) s017) <|
    oSeq (oMv g006 s020) <|
    oSeq (oStoreN 2 g004 g017 noPut) <|
    oMv g020 s005)) <|
   cExit 0)
   (cSkip)) <|
  cSeq (cReg 10 (
   oSeq (oP (vFA 1 g002) s022) <|
   oSeq (oLoad g022 s023) <|
   oSeq (oP (vFA 1 g003) s024) <|
   oSeq (oLoad g024 s025) <|
   oSeq (oCallF 177 (fun T => [g023 T, g025 T]) s026) <|
   oSeq (oMv g026 s021) <|
   oSeq (oP (vExt 0 g021) s027) <|
   oSeq (oP (vExt 1 g021) s030) <|
   oSeq (oMv g027 s007) <|
   oMv g030 s010)) <|
  cSeq (cReg 9 (
   oSeq (oP (vFA 0 g002) s031) <|
   oSeq (oLoad g031 s032) <|
   oSeq (oP (vFA 0 g003) s033) <|
   oSeq (oLoad g033 s034) <|
   oSeq (oGen (.bin .neq .bool (.t 26) (.t 28)) 4 s035) <|
   oSeq (oMv g007 s036) <|
   oSeq (oCallF 20 (fun T => [g035 T, g036 T]) s037) <|
   oSeq (oStoreN 2 g004 g037 noPut) <|
   oMv (kc (.int .i64 0)) s005)) <|
  cExit 0⟩
noncomputable def ffn139 : FFn := ⟨1, 18, [(2, none)],
  cSeq (cReg 1 (
   oMv (kc (.int .i64 0)) s002)) <|
  cSeq (cSeq (cReg 3 (
   oSeq (oMv g000 s006) <|
   oSeq (oP (vLen g006) s007) <|
   oMv (kc (.int .i64 0)) s010)) <|
  cBlock 1 (cLoop 1000000 (cSeq (cReg 1 (
     oP (vLss g010 g007) s011)) <|
    cSeq (cCond g011
     (cSkip)
     (cExit 1)) <|
    cSeq (cBlock 3 (cSeq (cReg 4 (
      oSeq (oP (vIdx 2 g006 g010) s012) <|
      oSeq (oLoadN 2 g012 s013) <|
      oSeq (oAlloc 40 [(.bool false), .nilSl] 2 s004) <|
      oStoreN 2 g004 g013 noPut)) <|
     cSeq (cReg 3 (
      oSeq (oLoadN 2 g004 s014) <|
      oSeq (oCallF 43 (fun T => [g014 T]) s015) <|
      oMv g015 s005)) <|
     cSeq (cReg 2 (
      oSeq (oMv g005 s016) <|
      oP (vNeq g016 (kc (.int .i64 0))) s017)) <|
     cCond g017
      (cSeq (cReg 2 (
       oSeq (oMv g005 s020) <|
       oMv g020 s002)) <|
      cExit 0)
      (cSkip))) <|
    cReg 2 (
     oSeq (oP (vAdd g010 (kc (.int .i64 1))) s021) <|
     oMv g021 s010)))) <|
  cSeq (cReg 1 (
   oMv (kc (.int .i64 0)) s002)) <|
  cExit 0⟩
noncomputable def ffn177 : FFn := ⟨2, 12, [(4, none), (5, none)],
  cSeq (cReg 2 (
   oSeq (oMv (kc .nilSl) s004) <|
   oMv (kc (.int .i64 0)) s005)) <|
  cSeq (cReg 8 (
   oSeq (oMv g000 s006) <|
   oSeq (oMv g001 s007) <|
   oSeq (oGen (.mkfn (.func 202) [(.c (.int .i64 8))] []) 2 s010) <|
   oSeq (oCallF 201 (fun T => [g006 T, g007 T, g010 T]) s011) <|
   oSeq (oP (vExt 0 g011) s012) <|
   oSeq (oP (vExt 1 g011) s013) <|
   oSeq (oMv g012 s004) <|
   oMv g013 s005)) <|
  cExit 0⟩
noncomputable def ffn202 : FFn := ⟨3, 76, [(6, none)],
  cSeq (cReg 1 (
   oMv (kc .nilSl) s006)) <|
  cSeq (cSeq (cReg 7 (
   oSeq (oMv g001 s017) <|
   oSeq (oP (vLen g017) s020) <|
   oSeq (oMv g002 s021) <|
   oSeq (oP (vLen g021) s022) <|
   oSeq (oGen (.min [(.t 16), (.t 18)]) 4 s023) <|
   oSeq (oMv g000 s024) <|
   oP (vLeq g023 g024) s025)) <|
  cCond g025
   (cSeq (cReg 4 (
    oSeq (oMv g001 s026) <|
    oSeq (oMv g002 s027) <|
    oSeq (oCallF 216 (fun T => [g026 T, g027 T]) s030) <|
    oMv g030 s006)) <|
   cExit 0)
   (cSkip)) <|
  cSeq (cReg 8 (
   oSeq (oMv g001 s031) <|
   oSeq (oP (vLen g031) s032) <|
   oSeq (oMv g002 s033) <|
   oSeq (oP (vLen g033) s034) <|
   oSeq (oGen (.max [(.t 26), (.t 28)]) 4 s035) <|
   oSeq (oP (vAdd g035 (kc (.int .i64 1))) s036) <|
   oSeq (oGen (.bin .quo .int (.t 30) (.c (.int .i64 2))) 6 s037) <|
   oMv g037 s007)) <|
  cSeq (cReg 8 (
   oSeq (oMv g001 s041) <|
   oSeq (oMv g007 s042) <|
   oSeq (oCallF 217 (fun T => [g041 T, g042 T]) s043) <|
   oSeq (oMv g043 s040) <|
   oSeq (oP (vExt 0 g040) s044) <|
   oSeq (oP (vExt 1 g040) s045) <|
   oSeq (oMv g044 s010) <|
   oMv g045 s011)) <|
  cSeq (cReg 8 (
   oSeq (oMv g002 s047) <|
   oSeq (oMv g007 s050) <|
   oSeq (oCallF 217 (fun T => [g047 T, g050 T]) s051) <|
   oSeq (oMv g051 s046) <|
   oSeq (oP (vExt 0 g046) s052) <|
   oSeq (oP (vExt 1 g046) s053) <|
   oSeq (oMv g052 s012) <|
   oMv g053 s013)) <|
  cSeq (cReg 10 (
   oSeq (oMv g000 s054) <|
   oSeq (oMv g010 s055) <|
   oSeq (oMv g012 s056) <|
   oSeq (oCallF 202 (fun T => [g054 T, g055 T, g056 T]) s057) <|
   oSeq (oMv g000 s060) <|
   oSeq (oMv g011 s061) <|
   oSeq (oMv g013 s062) <|
   oSeq (oCallF 202 (fun T => [g060 T, g061 T, g062 T]) s063) <|
   oSeq (oMv g057 s014) <|
   oMv g063 s015)) <|
  cSeq (cReg 15 (
   oSeq (oMv g000 s064) <|
   oSeq (oMv g010 s065) <|
   oSeq (oMv g011 s066) <|
   oSeq (oBuildSlice 38 1 [.nilSl, .nilSl] 2 [((0, 1), g065), ((1, 1), g066)] 3 s067) <|
   oSeq (oCallF 219 (fun T => [g067 T]) s070) <|
   oSeq (oMv g012 s071) <|
   oSeq (oMv g013 s072) <|
   oSeq (oBuildSlice 38 1 [.nilSl, .nilSl] 2 [((0, 1), g071), ((1, 1), g072)] 7 s073) <|
   oSeq (oCallF 219 (fun T => [g073 T]) s074) <|
   oSeq (oCallF 202 (fun T => [g064 T, g070 T, g074 T]) s075) <|
   oSeq (oMv g014 s076) <|
   oSeq (oMv g015 s077) <|
   oSeq (oBuildSlice 38 1 [.nilSl, .nilSl] 2 [((0, 1), g076), ((1, 1), g077)] 12 s100) <|
   oSeq (oCallF 218 (fun T => [g075 T, g100 T]) s101) <|
   oMv g101 s016)) <|
  cSeq (cReg 11 (
   oSeq (oMv g014 s102) <|
   oSeq (oMv g016 s103) <|
   oSeq (oMv g007 s104) <|
   oSeq (oCallF 220 (fun T => [g103 T, g104 T]) s105) <|
   oSeq (oMv g015 s106) <|
   oSeq (oMv g007 s107) <|
   oSeq (oP (vMul (kc (.int .i64 2)) g107) s110) <|
   oSeq (oCallF 220 (fun T => [g106 T, g110 T]) s111) <|
   oSeq (oBuildSlice 38 1 [.nilSl, .nilSl, .nilSl] 3 [((0, 1), g102), ((1, 1), g105), ((2, 1), g111)] 8 s112) <|
   oSeq (oCallF 219 (fun T => [g112 T]) s113) <|
   oMv g113 s006)) <|
  cExit 0⟩
noncomputable def ffn216 : FFn := ⟨2, 80, [(4, none)],
  cSeq (cReg 1 (
   oMv (kc .nilSl) s004)) <|
  cSeq (cReg 7 (
   oSeq (oMv g000 s016) <|
   oSeq (oP (vLen g016) s017) <|
   oSeq (oMv g001 s020) <|
   oSeq (oP (vLen g020) s021) <|
   oSeq (oP (vAdd g017 g021) s022) <|
   oSeq (oGen (.mksl 52 1 8 [(.int .u64 0)] (.t 18) (.t 18)) 5 s023) <|
   oMv g023 s005)) <|
  cSeq (cSeq (cReg 3 (
   oSeq (oMv g000 s024) <|
   oSeq (oP (vLen g024) s025) <|
   oMv (kc (.int .i64 0)) s026)) <|
  cBlock 1 (cLoop 1000000 (cSeq (cReg 1 (
     oP (vLss g026 g025) s027)) <|
    cSeq (cCond g027
     (cSkip)
     (cExit 1)) <|
    cSeq (cBlock 3 (cSeq (cReg 5 (
      oSeq (oMv g026 s030) <|
      oSeq (oP (vIdx 1 g024 g026) s031) <|
      oSeq (oLoad g031 s032) <|
      oSeq (oMv g030 s006) <|
      oMv g032 s007)) <|
     cSeq (cReg 1 (
      oMv (kc (.int .u64 0)) s010)) <|
     cSeq (cSeq (cReg 3 (
      oSeq (oMv g001 s033) <|
      oSeq (oP (vLen g033) s034) <|
      oMv (kc (.int .i64 0)) s035)) <|
     cBlock 5 (cLoop 1000000 (cSeq (cReg 1 (
        oP (vLss g035 g034) s036)) <|
       cSeq (cCond g036
        (cSkip)
        (cExit 5)) <|
       cSeq (cBlock 7 (cSeq (cReg 5 (
         oSeq (oMv g035 s037) <|
         oSeq (oP (vIdx 1 g033 g035) s040) <|
         oSeq (oLoad g040 s041) <|
         oSeq (oMv g037 s011) <|
         oMv g041 s012)) <|
        cSeq (cReg 8 (
         oSeq (oMv g007 s043) <|
         oSeq (oMv g012 s044) <|
         oSeq (oCallF 224 (fun T => [g043 T, g044 T]) s045) <|
         oSeq (oMv g045 s042) <|
         oSeq (oP (vExt 0 g042) s046) <|
         oSeq (oP (vExt 1 g042) s047) <|
         oSeq (oMv g046 s013) <|
         oMv g047 s014)) <|
        cSeq (cReg 13 (
         oSeq (oMv g014 s051) <|
         oSeq (oMv g005 s052) <|
         oSeq (oMv g006 s053) <|
         oSeq (oMv g011 s054) <|
         oSeq (oP (vAdd g053 g054) s055) <|
         oSeq (oP (vIdx 1 g052 g055) s056) <|
         oSeq (oLoad g056 s057) <|
         oSeq (oCallF 183 (fun T => [g051 T, g057 T, (.int .u64 0)]) s060) <|
         oSeq (oMv g060 s050) <|
         oSeq (oP (vExt 0 g050) s061) <|
         oSeq (oP (vExt 1 g050) s062) <|
         oSeq (oMv g061 s014) <|
         oMv g062 s015)) <|
        cSeq (cReg 4 (
         oSeq (oMv g013 s063) <|
         oSeq (oMv g015 s064) <|
         oSeq (oP (vAdd g063 g064) s065) <|
         oMv g065 s013)) <|
        cSeq (cReg 8 (
         oSeq (oMv g014 s067) <|
         oSeq (oMv g010 s070) <|
         oSeq (oCallF 183 (fun T => [g067 T, g070 T, (.int .u64 0)]) s071) <|
         oSeq (oMv g071 s066) <|
         oSeq (oP (vExt 0 g066) s072) <|
         oSeq (oP (vExt 1 g066) s073) <|
         oSeq (oMv g072 s014) <|
         oMv g073 s015)) <|
        cReg 11 (
         oSeq (oMv g005 s074) <|
         oSeq (oMv g006 s075) <|
         oSeq (oMv g011 s076) <|
         oSeq (oP (vAdd g075 g076) s077) <|
         oSeq (oMv g014 s100) <|
         oSeq (oMv g013 s101) <|
         oSeq (oMv g015 s102) <|
         oSeq (oP (vAdd g101 g102) s103) <|
         oSeq (oP (vIdx 1 g074 g077) s104) <|
         oSeq (oStore g104 g100 noPut) <|
         oMv g103 s010))) <|
       cReg 2 (
        oSeq (oP (vAdd g035 (kc (.int .i64 1))) s105) <|
        oMv g105 s035)))) <|
     cReg 8 (
      oSeq (oMv g005 s106) <|
      oSeq (oMv g006 s107) <|
      oSeq (oMv g001 s110) <|
      oSeq (oP (vLen g110) s111) <|
      oSeq (oP (vAdd g107 g111) s112) <|
      oSeq (oMv g010 s113) <|
      oSeq (oP (vIdx 1 g106 g112) s114) <|
      oStore g114 g113 noPut))) <|
    cReg 2 (
     oSeq (oP (vAdd g026 (kc (.int .i64 1))) s115) <|
     oMv g115 s026)))) <|
  cSeq (cReg 3 (
   oSeq (oMv g005 s116) <|
   oSeq (oCallF 228 (fun T => [g116 T]) s117) <|
   oMv g117 s004)) <|
  cExit 0⟩
noncomputable def ffn224 : FFn := ⟨2, 51, [(4, none), (5, none)],
  cSeq (cReg 2 (
   oSeq (oMv (kc (.int .u64 0)) s004) <|
   oMv (kc (.int .u64 0)) s005)) <|
  cSeq (cReg 3 (
   oSeq (oMv g000 s016) <|
   oSeq (oGen (.bin .and .int (.t 14) (.c (.int .u64 4294967295))) 1 s017) <|
   oMv g017 s006)) <|
  cSeq (cReg 3 (
   oSeq (oMv g000 s020) <|
   oSeq (oGen (.bin .shr .int (.t 16) (.c (.int .u64 32))) 1 s021) <|
   oMv g021 s007)) <|
  cSeq (cReg 3 (
   oSeq (oMv g001 s022) <|
   oSeq (oGen (.bin .and .int (.t 18) (.c (.int .u64 4294967295))) 1 s023) <|
   oMv g023 s010)) <|
  cSeq (cReg 3 (
   oSeq (oMv g001 s024) <|
   oSeq (oGen (.bin .shr .int (.t 20) (.c (.int .u64 32))) 1 s025) <|
   oMv g025 s011)) <|
  cSeq (cReg 4 (
   oSeq (oMv g006 s026) <|
   oSeq (oMv g010 s027) <|
   oSeq (oP (vMul g026 g027) s030) <|
   oMv g030 s012)) <|
  cSeq (cReg 7 (
   oSeq (oMv g007 s031) <|
   oSeq (oMv g010 s032) <|
   oSeq (oP (vMul g031 g032) s033) <|
   oSeq (oMv g012 s034) <|
   oSeq (oGen (.bin .shr .int (.t 28) (.c (.int .u64 32))) 4 s035) <|
   oSeq (oP (vAdd g033 g035) s036) <|
   oMv g036 s013)) <|
  cSeq (cReg 3 (
   oSeq (oMv g013 s037) <|
   oSeq (oGen (.bin .and .int (.t 31) (.c (.int .u64 4294967295))) 1 s040) <|
   oMv g040 s014)) <|
  cSeq (cReg 3 (
   oSeq (oMv g013 s041) <|
   oSeq (oGen (.bin .shr .int (.t 33) (.c (.int .u64 32))) 1 s042) <|
   oMv g042 s015)) <|
  cSeq (cReg 6 (
   oSeq (oMv g014 s043) <|
   oSeq (oMv g006 s044) <|
   oSeq (oMv g011 s045) <|
   oSeq (oP (vMul g044 g045) s046) <|
   oSeq (oP (vAdd g043 g046) s047) <|
   oMv g047 s014)) <|
  cSeq (cReg 9 (
   oSeq (oMv g007 s050) <|
   oSeq (oMv g011 s051) <|
   oSeq (oP (vMul g050 g051) s052) <|
   oSeq (oMv g015 s053) <|
   oSeq (oP (vAdd g052 g053) s054) <|
   oSeq (oMv g014 s055) <|
   oSeq (oGen (.bin .shr .int (.t 45) (.c (.int .u64 32))) 6 s056) <|
   oSeq (oP (vAdd g054 g056) s057) <|
   oMv g057 s004)) <|
  cSeq (cReg 4 (
   oSeq (oMv g000 s060) <|
   oSeq (oMv g001 s061) <|
   oSeq (oP (vMul g060 g061) s062) <|
   oMv g062 s005)) <|
  cExit 0⟩
noncomputable def ffn228 : FFn := ⟨1, 22, [(2, none)],
  cSeq (cReg 1 (
   oMv (kc .nilSl) s002)) <|
  cSeq (cReg 3 (
   oSeq (oMv g000 s004) <|
   oSeq (oP (vLen g004) s005) <|
   oMv g005 s003)) <|
  cSeq (cBlock 1 (cLoop 1000000 (cSeq (cSeq (cReg 10 (
     oSeq (oMv g003 s006) <|
     oSeq (oP (vGtr g006 (kc (.int .i64 0))) s007) <|
     oSeq (oMv g007 s010) <|
     oSeq (oGuard g010 true s011 (oMv g000 s011)) <|
     oSeq (oGuard g010 true s012 (oMv g003 s012)) <|
     oSeq (oGuard g010 true s013 (oP (vSub g012 (kc (.int .i64 1))) s013)) <|
     oSeq (oGuard g010 true s014 (oP (vIdx 1 g011 g013) s014)) <|
     oSeq (oGuard g010 true s015 (oLoad g014 s015)) <|
     oSeq (oGuard g010 true s016 (oP (vEql g015 (kc (.int .u64 0))) s016)) <|
     oP (vPick g010 g016 (kc (.bool false))) s017)) <|
    cCond g017
     (cSkip)
     (cExit 1)) <|
    cBlock 3 (cReg 3 (
      oSeq (oMv g003 s020) <|
      oSeq (oP (vSub g020 (kc (.int .i64 1))) s021) <|
      oMv g021 s003))))) <|
  cSeq (cReg 5 (
   oSeq (oMv g000 s022) <|
   oSeq (oMv g003 s023) <|
   oSeq (oMv g003 s024) <|
   oSeq (oGen (.slice 1 (.t 18) none (some (.t 19)) (some (.t 20))) 3 s025) <|
   oMv g025 s002)) <|
  cExit 0⟩
noncomputable def ffn161 : FFn := ⟨2, 27, [(4, none), (5, none)],
  cSeq (cReg 2 (
   oSeq (oMv (kc .nilSl) s004) <|
   oMv (kc (.int .i64 0)) s005)) <|
  cSeq (cSeq (cReg 5 (
   oSeq (oMv g000 s011) <|
   oSeq (oMv g001 s012) <|
   oSeq (oBuildSlice 38 1 [.nilSl, .nilSl] 2 [((0, 1), g011), ((1, 1), g012)] 2 s013) <|
   oSeq (oCallF 181 (fun T => [g013 T]) s014) <|
   oMv g014 s006)) <|
  cSeq (cReg 2 (
   oSeq (oMv g006 s015) <|
   oP (vNeq g015 (kc (.int .i64 0))) s016)) <|
  cCond g016
   (cSeq (cReg 3 (
    oSeq (oMv g006 s017) <|
    oSeq (oMv (kc .nilSl) s004) <|
    oMv g017 s005)) <|
   cExit 0)
   (cSkip)) <|
  cSeq (cReg 8 (
   oSeq (oMv g000 s021) <|
   oSeq (oMv g001 s022) <|
   oSeq (oCallF 182 (fun T => [g021 T, g022 T, (.fn (.func 183) [] [])]) s023) <|
   oSeq (oMv g023 s020) <|
   oSeq (oP (vExt 0 g020) s024) <|
   oSeq (oP (vExt 1 g020) s025) <|
   oSeq (oMv g024 s007) <|
   oMv g025 s010)) <|
  cSeq (cReg 7 (
   oSeq (oMv g007 s026) <|
   oSeq (oMv g010 s027) <|
   oSeq (oBuildSlice 52 1 [(.int .u64 0)] 1 [((0, 1), g027)] 2 s030) <|
   oSeq (oGen (.append 1 8 52 [(.int .u64 0)] (.t 22) (.t 24)) 3 s031) <|
   oSeq (oCallF 37 (fun T => [g031 T]) s032) <|
   oSeq (oMv g032 s004) <|
   oMv (kc (.int .i64 0)) s005)) <|
  cExit 0⟩
noncomputable def ffn181 : FFn := ⟨1, 18, [(2, none)],
  cSeq (cReg 1 (
   oMv (kc (.int .i64 0)) s002)) <|
  cSeq (cSeq (cReg 3 (
   oSeq (oMv g000 s006) <|
   oSeq (oP (vLen g006) s007) <|
   oMv (kc (.int .i64 0)) s010)) <|
  cBlock 1 (cLoop 1000000 (cSeq (cReg 1 (
     oP (vLss g010 g007) s011)) <|
    cSeq (cCond g011
     (cSkip)
     (cExit 1)) <|
    cSeq (cBlock 3 (cSeq (cReg 3 (
      oSeq (oP (vIdx 1 g006 g010) s012) <|
      oSeq (oLoad g012 s013) <|
      oMv g013 s004)) <|
     cSeq (cReg 3 (
      oSeq (oMv g004 s014) <|
      oSeq (oCallF 64 (fun T => [g014 T]) s015) <|
      oMv g015 s005)) <|
     cSeq (cReg 2 (
      oSeq (oMv g005 s016) <|
      oP (vNeq g016 (kc (.int .i64 0))) s017)) <|
     cCond g017
      (cSeq (cReg 2 (
       oSeq (oMv g005 s020) <|
       oMv g020 s002)) <|
      cExit 0)
      (cSkip))) <|
    cReg 2 (
     oSeq (oP (vAdd g010 (kc (.int .i64 1))) s021) <|
     oMv g021 s010)))) <|
  cSeq (cReg 1 (
   oMv (kc (.int .i64 0)) s002)) <|
  cExit 0⟩
noncomputable def ffn182 : FFn := ⟨3, 28, [(6, (some none)), (7, (some none))],
  cSeq (cReg 3 (
   oSeq (oBox 211 g002 0 s005) <|
   oSeq (oAlloc 38 [.nilSl] 1 s006) <|
   oAlloc 52 [(.int .u64 0)] 2 s007)) <|
  cSeq (cSeq (cReg 3 (
   oSeq (oMv g000 s013) <|
   oSeq (oMv g001 s014) <|
   oCallF 213 (fun T => [g013 T, g014 T]) s015)) <|
  cBlock 1 (cSlow 1000000 false 28 (.rangeFunc (.t 13) [14, 15] (.seq (.region [
    ⟨(some 8), .mv (.t 14), none⟩]) <|
   .region [
    ⟨(some 9), .mv (.t 15), none⟩]) (.block 1 (.seq (.region [
      ⟨(some 10), .mv (.c (.int .u64 0)), none⟩]) <|
     .seq (.region [
      ⟨(some 17), .load none (.t 5), none⟩,
      ⟨(some 18), .mv (.t 8), none⟩,
      ⟨(some 19), .mv (.t 9), none⟩,
      ⟨(some 20), .load none (.t 7), none⟩,
      ⟨(some 21), .call (.t 17) [(.t 18), (.t 19), (.t 20)], none⟩,
      ⟨(some 16), .mv (.t 21), none⟩,
      ⟨(some 22), .extract 0 (.t 16), none⟩,
      ⟨(some 23), .extract 1 (.t 16), none⟩,
      ⟨(some 10), .mv (.t 22), none⟩,
      ⟨none, .store 1 (.t 7) (.t 23), none⟩]) <|
     .region [
      ⟨(some 24), .load none (.t 6), none⟩,
      ⟨(some 25), .mv (.t 10), none⟩,
      ⟨(some 26), .buildSlice 52 1 [(.int .u64 0)] 1 [((0, 1), (.t 25))], none⟩,
      ⟨(some 27), .append 1 8 52 [(.int .u64 0)] (.t 24) (.t 26), none⟩,
      ⟨none, .store 1 (.t 6) (.t 27), none⟩]))))) <|
  cExit 0⟩
noncomputable def ffn213 : FFn := ⟨2, 6, [(4, none)],
  cSeq (cReg 3 (
   oSeq (oBox 38 g000 0 s002) <|
   oSeq (oBox 38 g001 1 s003) <|
   oMv (kc .nilFn) s004)) <|
  cSeq (cReg 2 (
   oSeq (oGen (.mkfn (.func 225) [] [(.t 2), (.t 3)]) 0 s005) <|
   oMv g005 s004)) <|
  cExit 0⟩
noncomputable def ffn225 : FFn := ⟨3, 37, [],
  cSeq (cReg 6 (
   oSeq (oLoad g001 s007) <|
   oSeq (oP (vLen g007) s010) <|
   oSeq (oLoad g002 s011) <|
   oSeq (oP (vLen g011) s012) <|
   oSeq (oGen (.max [(.t 8), (.t 10)]) 4 s013) <|
   oMv (kc (.int .i64 0)) s014)) <|
  cBlock 1 (cLoop 1000000 (cSeq (cReg 1 (
     oP (vLss g014 g013) s015)) <|
    cSeq (cCond g015
     (cSkip)
     (cExit 1)) <|
    cSeq (cBlock 3 (cSeq (cReg 2 (
      oSeq (oMv g014 s016) <|
      oMv g016 s004)) <|
     cSeq (cReg 2 (
      oSeq (oMv (kc (.int .u64 0)) s005) <|
      oMv (kc (.int .u64 0)) s006)) <|
     cSeq (cSeq (cReg 4 (
      oSeq (oMv g004 s017) <|
      oSeq (oLoad g001 s020) <|
      oSeq (oP (vLen g020) s021) <|
      oP (vLss g017 g021) s022)) <|
     cCond g022
      (cReg 5 (
       oSeq (oLoad g001 s023) <|
       oSeq (oMv g004 s024) <|
       oSeq (oP (vIdx 1 g023 g024) s025) <|
       oSeq (oLoad g025 s026) <|
       oMv g026 s005))
      (cSkip)) <|
     cSeq (cSeq (cReg 4 (
      oSeq (oMv g004 s027) <|
      oSeq (oLoad g002 s030) <|
      oSeq (oP (vLen g030) s031) <|
      oP (vLss g027 g031) s032)) <|
     cCond g032
      (cReg 5 (
       oSeq (oLoad g002 s033) <|
       oSeq (oMv g004 s034) <|
       oSeq (oP (vIdx 1 g033 g034) s035) <|
       oSeq (oLoad g035 s036) <|
       oMv g036 s006))
      (cSkip)) <|
     cSeq (cReg 5 (
      oSeq (oMv g000 s037) <|
      oSeq (oMv g005 s040) <|
      oSeq (oMv g006 s041) <|
      oSeq (oCall g037 (fun T => [g040 T, g041 T]) s042) <|
      oGen (.un .not (.t 34)) 4 s043)) <|
     cCond g043
      (cExit 0)
      (cSkip))) <|
    cReg 2 (
     oSeq (oP (vAdd g014 (kc (.int .i64 1))) s044) <|
     oMv g044 s014)))⟩
noncomputable def ffn162 : FFn := ⟨2, 26, [(4, none), (5, none)],
  cSeq (cReg 2 (
   oSeq (oMv (kc .nilSl) s004) <|
   oMv (kc (.int .i64 0)) s005)) <|
  cSeq (cSeq (cReg 5 (
   oSeq (oMv g000 s011) <|
   oSeq (oMv g001 s012) <|
   oSeq (oBuildSlice 38 1 [.nilSl, .nilSl] 2 [((0, 1), g011), ((1, 1), g012)] 2 s013) <|
   oSeq (oCallF 181 (fun T => [g013 T]) s014) <|
   oMv g014 s006)) <|
  cSeq (cReg 2 (
   oSeq (oMv g006 s015) <|
   oP (vNeq g015 (kc (.int .i64 0))) s016)) <|
  cCond g016
   (cSeq (cReg 3 (
    oSeq (oMv g006 s017) <|
    oSeq (oMv (kc .nilSl) s004) <|
    oMv g017 s005)) <|
   cExit 0)
   (cSkip)) <|
  cSeq (cReg 8 (
   oSeq (oMv g000 s021) <|
   oSeq (oMv g001 s022) <|
   oSeq (oCallF 182 (fun T => [g021 T, g022 T, (.fn (.func 184) [] [])]) s023) <|
   oSeq (oMv g023 s020) <|
   oSeq (oP (vExt 0 g020) s024) <|
   oSeq (oP (vExt 1 g020) s025) <|
   oSeq (oMv g024 s007) <|
   oMv g025 s010)) <|
  cSeq (cSeq (cReg 2 (
   oSeq (oMv g010 s026) <|
   oP (vGtr g026 (kc (.int .u64 0))) s027)) <|
  cCond g027
   (cSeq (cReg 2 (
    oSeq (oMv (kc .nilSl) s004) <|
    oMv (kc (.int .i64 10)) s005)) <|
   cExit 0)
   (cSkip)) <|
  cSeq (cReg 4 (
   oSeq (oMv g007 s030) <|
   oSeq (oCallF 37 (fun T => [g030 T]) s031) <|
   oSeq (oMv g031 s004) <|
   oMv (kc (.int .i64 0)) s005)) <|
  cExit 0⟩
noncomputable def ffn201 : FFn := ⟨3, 27, [(6, none), (7, none)],
  cSeq (cReg 2 (
   oSeq (oMv (kc .nilSl) s006) <|
   oMv (kc (.int .i64 0)) s007)) <|
  cSeq (cSeq (cReg 4 (
   oSeq (oMv g000 s013) <|
   oSeq (oMv g001 s014) <|
   oSeq (oP (vBuild [.nilSl, .nilSl] [((0, 1), g013), ((1, 1), g014)]) s015) <|
   oMv (kc (.int .i64 0)) s016)) <|
  cBlock 1 (cLoop 1000000 (cSeq (cReg 1 (
     oP (vLss g016 (kc (.int .i64 2))) s017)) <|
    cSeq (cCond g017
     (cSkip)
     (cExit 1)) <|
    cSeq (cBlock 3 (cSeq (cReg 2 (
      oSeq (oGen (.indexAgg 2 1 none (.t 13) (.t 14)) 0 s020) <|
      oMv g020 s011)) <|
     cSeq (cReg 3 (
      oSeq (oMv g011 s021) <|
      oSeq (oCallF 64 (fun T => [g021 T]) s022) <|
      oMv g022 s012)) <|
     cSeq (cReg 2 (
      oSeq (oMv g012 s023) <|
      oP (vNeq g023 (kc (.int .i64 0))) s024)) <|
     cCond g024
      (cSeq (cReg 3 (
       oSeq (oMv g012 s025) <|
       oSeq (oMv (kc .nilSl) s006) <|
       oMv g025 s007)) <|
      cExit 0)
      (cSkip))) <|
    cReg 2 (
     oSeq (oP (vAdd g016 (kc (.int .i64 1))) s026) <|
     oMv g026 s016)))) <|
  cSeq (cReg 6 (
   oSeq (oMv g002 s027) <|
   oSeq (oMv g000 s030) <|
   oSeq (oMv g001 s031) <|
   oSeq (oCall g027 (fun T => [g030 T, g031 T]) s032) <|
   oSeq (oMv g032 s006) <|
   oMv (kc (.int .i64 0)) s007)) <|
  cExit 0⟩
noncomputable def ffn121 : FFn := ⟨2, 14, [(4, (some (some 2)))],
  cSeq (cReg 3 (
   oSeq (oBox 40 g000 0 s002) <|
   oSeq (oBox 40 g001 1 s003) <|
   oAlloc 40 [(.bool false), .nilSl] 2 s004)) <|
  cSeq (cReg 9 (
   oSeq (oLoadN 2 g002 s010) <|
   oSeq (oLoadN 2 g003 s011) <|
   oSeq (oCallF 152 (fun T => [g010 T, g011 T]) s012) <|
   oSeq (oMv g012 s007) <|
   oSeq (oP (vExt 0 g007) s013) <|
   oSeq (oP (vExt 1 g007) s014) <|
   oSeq (oAlloc 40 [(.bool false), .nilSl] 6 s005) <|
   oSeq (oStoreN 2 g005 g013 noPut) <|
   oMv g014 s006)) <|
  cSeq (cReg 2 (
   oSeq (oLoadN 2 g005 s015) <|
   oStoreN 2 g004 g015 noPut)) <|
  cExit 0⟩
noncomputable def ffn152 : FFn := ⟨2, 18, [(4, (some (some 2))), (5, none)],
  cSeq (cReg 4 (
   oSeq (oBox 40 g000 0 s002) <|
   oSeq (oBox 40 g001 1 s003) <|
   oSeq (oAlloc 40 [(.bool false), .nilSl] 2 s004) <|
   oMv (kc (.int .i64 0)) s005)) <|
  cSeq (cSeq (cReg 5 (
   oSeq (oLoadN 2 g002 s007) <|
   oSeq (oLoadN 2 g003 s010) <|
   oSeq (oBuildSlice 40 2 [(.bool false), .nilSl, (.bool false), .nilSl] 2 [((0, 2), g007), ((2, 2), g010)] 2 s011) <|
   oSeq (oCallF 139 (fun T => [g011 T]) s012) <|
   oMv g012 s006)) <|
  cSeq (cReg 2 (
   oSeq (oMv g006 s013) <|
   oP (vNeq g013 (kc (.int .i64 0))) s014)) <|
  cCond g014
   (cSeq (cReg 4 (
    oSeq (oP (vBuild [(.bool false), .nilSl] []) s015) <|
    oSeq (oMv g006 s016) <|
    oSeq (oStoreN 2 g004 g015 noPut) <|
    oMv g016 s005)) <|
   cExit 0)
   (cSkip)) <|
  cSeq (cReg 5 (
   oSeq (oLoadN 2 g002 s017) <|
   oSeq (oLoadN 2 g003 s020) <|
   oSeq (oCallF 140 (fun T => [g017 T, g020 T]) s021) <|
   oSeq (oStoreN 2 g004 g021 noPut) <|
   oMv (kc (.int .i64 0)) s005)) <|
  cExit 0⟩
noncomputable def ffn140 : FFn := ⟨2, 54, [(4, (some (some 2)))],
  cSeq (cReg 3 (
   oSeq (oBox 40 g000 0 s002) <|
   oSeq (oBox 40 g001 1 s003) <|
   oAlloc 40 [(.bool false), .nilSl] 2 s004)) <|
  cSeq (cSeq (cReg 5 (
   oSeq (oP (vFA 0 g002) s013) <|
   oSeq (oLoad g013 s014) <|
   oSeq (oP (vFA 0 g003) s015) <|
   oSeq (oLoad g015 s016) <|
   oGen (.bin .eql .bool (.t 12) (.t 14)) 4 s017)) <|
  cCond g017
   (cSeq (cReg 10 (
    oSeq (oP (vFA 1 g002) s021) <|
    oSeq (oLoad g021 s022) <|
    oSeq (oP (vFA 1 g003) s023) <|
    oSeq (oLoad g023 s024) <|
    oSeq (oCallF 161 (fun T => [g022 T, g024 T]) s025) <|
    oSeq (oMv g025 s020) <|
    oSeq (oP (vExt 0 g020) s026) <|
    oSeq (oP (vExt 1 g020) s027) <|
    oSeq (oMv g026 s005) <|
    oMv g027 s006)) <|
   cSeq (cReg 5 (
    oSeq (oP (vFA 0 g002) s030) <|
    oSeq (oLoad g030 s031) <|
    oSeq (oMv g005 s032) <|
    oSeq (oCallF 20 (fun T => [g031 T, g032 T]) s033) <|
    oStoreN 2 g004 g033 noPut)) <|
   cExit 0)
   (cSkip)) <|
  cSeq (cSeq (cReg 10 (
   oSeq (oP (vFA 1 g002) s035) <|
   oSeq (oLoad g035 s036) <|
   oSeq (oP (vFA 1 g003) s037) <|
   oSeq (oLoad g037 s040) <|
   oSeq (oCallF 162 (fun T => [g036 T, g040 T]) s041) <|
   oSeq (oMv g041 s034) <|
   oSeq (oP (vExt 0 g034) s042) <|
   oSeq (oP (vExt 1 g034) s043) <|
   oSeq (oMv g042 s007) <|
   oMv g043 s010)) <|
  cSeq (cReg 2 (
   oSeq (oMv g010 s044) <|
   oP (vEql g044 (kc (.int .i64 0))) s045)) <|
  cCond g045
   (cSeq (cReg 5 (
    oSeq (oP (vFA 0 g002) s046) <|
    oSeq (oLoad g046 s047) <|
    oSeq (oMv g007 s050) <|
    oSeq (oCallF 20 (fun T => [g047 T, g050 T]) s051) <|
    oStoreN 2 g004 g051 noPut)) <|
   cExit 0)
   (cSkip)) <|
  cSeq (cReg 10 (
   oSeq (oP (vFA 1 g003) s053) <|
   oSeq (oLoad g053 s054) <|
   oSeq (oP (vFA 1 g002) s055) <|
   oSeq (oLoad g055 s056) <|
   oSeq (oCallF 162 (fun T => [g054 T, g056 T]) s057) <|
   oSeq (oMv g057 s052) <|
   oSeq (oP (vExt 0 g052) s060) <|
   oSeq (oP (vExt 1 g052) s061) <|
   oSeq (oMv g060 s011) <|
   oMv g061 s012)) <|
  cSeq (cReg 5 (
   oSeq (oP (vFA 0 g003) s062) <|
   oSeq (oLoad g062 s063) <|
   oSeq (oMv g011 s064) <|
   oSeq (oCallF 20 (fun T => [g063 T, g064 T]) s065) <|
   oStoreN 2 g004 g065 noPut)) <|
  cExit 0⟩
noncomputable def ffn69 : FFn := ⟨1, 11, [(2, none)],
  cSeq (cReg 2 (
   oSeq (oBox 40 g000 0 s001) <|
   oMv (kc (.int .i64 0)) s002)) <|
  cSeq (cReg 7 (
   oSeq (oLoadN 2 g001 s006) <|
   oSeq (oCallF 55 (fun T => [g006 T]) s007) <|
   oSeq (oMv g007 s005) <|
   oSeq (oP (vExt 0 g005) s010) <|
   oSeq (oP (vExt 1 g005) s011) <|
   oSeq (oMv g010 s003) <|
   oMv g011 s004)) <|
  cSeq (cReg 2 (
   oSeq (oMv g003 s012) <|
   oMv g012 s002)) <|
  cExit 0⟩
noncomputable def ffn55 : FFn := ⟨1, 12, [(2, none), (3, none)],
  cSeq (cReg 3 (
   oSeq (oBox 40 g000 0 s001) <|
   oSeq (oMv (kc (.int .i64 0)) s002) <|
   oMv (kc (.int .i64 0)) s003)) <|
  cSeq (cSeq (cReg 3 (
   oSeq (oLoadN 2 g001 s005) <|
   oSeq (oCallF 43 (fun T => [g005 T]) s006) <|
   oMv g006 s004)) <|
  cSeq (cReg 2 (
   oSeq (oMv g004 s007) <|
   oP (vNeq g007 (kc (.int .i64 0))) s010)) <|
  cCond g010
   (cSeq (cReg 3 (
    oSeq (oMv g004 s011) <|
    oSeq (oMv (kc (.int .i64 0)) s002) <|
    oMv g011 s003)) <|
   cExit 0)
   (cSkip)) <|
  cSeq (cReg 4 (
   oSeq (oLoadN 2 g001 s012) <|
   oSeq (oCallF 82 (fun T => [g012 T]) s013) <|
   oSeq (oMv g013 s002) <|
   oMv (kc (.int .i64 0)) s003)) <|
  cExit 0⟩
noncomputable def ffn82 : FFn := ⟨1, 16, [(2, none)],
  cSeq (cReg 2 (
   oSeq (oBox 40 g000 0 s001) <|
   oMv (kc (.int .i64 0)) s002)) <|
  cSeq (cReg 9 (
   oSeq (oP (vFA 0 g001) s004) <|
   oSeq (oLoad g004 s005) <|
   oSeq (oP (vFA 1 g001) s006) <|
   oSeq (oLoad g006 s007) <|
   oSeq (oP (vLen g007) s010) <|
   oSeq (oP (vEql g010 (kc (.int .i64 0))) s011) <|
   oSeq (oP (vBuild [(.bool false), (.bool false)] [((0, 1), g005), ((1, 1), g011)]) s012) <|
   oSeq (oAlloc 150 [(.bool false), (.bool false)] 7 s003) <|
   oStoreN 2 g003 g012 noPut)) <|
  cSeq (cSeq (cReg 3 (
   oSeq (oLoadN 2 g003 s013) <|
   oSeq (oP (vBuild [(.bool false), (.bool false)] [((0, 1), (kc (.bool false))), ((1, 1), (kc (.bool true)))]) s014) <|
   oGen (.eqAgg false (.t 11) (.t 12)) 2 s015)) <|
  cCond g015
   (cSeq (cReg 1 (
    oMv (kc (.int .i64 0)) s002)) <|
   cExit 0)
   (cSkip)) <|
  cSeq (cSeq (cReg 2 (
   oSeq (oP (vFA 0 g001) s016) <|
   oLoad g016 s017)) <|
  cCond g017
   (cSeq (cReg 1 (
    oMv (kc (.int .i64 (-1))) s002)) <|
   cExit 0)
   (cSkip)) <|
  cSeq (cReg 1 (
   oMv (kc (.int .i64 1)) s002)) <|
  cExit 0⟩
noncomputable def ffn54 : FFn := ⟨2, 19, [(4, none)],
  cSeq (cReg 1 (
   oMv (kc (.int .i64 0)) s004)) <|
  cSeq (cSeq (cReg 3 (
   oSeq (oMv g000 s006) <|
   oSeq (oP (vLen g006) s007) <|
   oMv (kc (.int .i64 0)) s010)) <|
  cBlock 1 (cLoop 1000000 (cSeq (cReg 1 (
     oP (vLss g010 g007) s011)) <|
    cSeq (cCond g011
     (cSkip)
     (cExit 1)) <|
    cSeq (cBlock 3 (cSeq (cReg 2 (
      oSeq (oMv g010 s012) <|
      oMv g012 s005)) <|
     cSeq (cReg 6 (
      oSeq (oMv g001 s013) <|
      oSeq (oMv g000 s014) <|
      oSeq (oMv g005 s015) <|
      oSeq (oP (vIdx 1 g014 g015) s016) <|
      oSeq (oLoad g016 s017) <|
      oCall g013 (fun T => [g017 T]) s020)) <|
     cCond g020
      (cSeq (cReg 2 (
       oSeq (oMv g005 s021) <|
       oMv g021 s004)) <|
      cExit 0)
      (cSkip))) <|
    cReg 2 (
     oSeq (oP (vAdd g010 (kc (.int .i64 1))) s022) <|
     oMv g022 s010)))) <|
  cSeq (cReg 1 (
   oMv (kc (.int .i64 (-1))) s004)) <|
  cExit 0⟩
noncomputable def ffn71 : FFn := ⟨3, 135, [],
  cSeq (cReg 2 (
   oSeq (oGen (.mkmap) 0 s023) <|
   oMv g023 s006)) <|
  cSeq (cReg 1 (
   oMv (kc .nilSl) s007)) <|
  cSeq (cReg 1 (
   oMv (kc .nilSl) s010)) <|
  cSeq (cSeq (cReg 6 (
   oSeq (oMv g000 s024) <|
   oSeq (oGen (.nilCheck (.t 20)) 1 s025) <|
   oSeq (oP (vFA 1 g025) s026) <|
   oSeq (oLoad g026 s027) <|
   oSeq (oP (vLen g027) s030) <|
   oMv (kc (.int .i64 0)) s031)) <|
  cBlock 1 (cLoop 1000000 (cSeq (cReg 1 (
     oP (vLss g031 g030) s032)) <|
    cSeq (cCond g032
     (cSkip)
     (cExit 1)) <|
    cSeq (cBlock 3 (cSeq (cReg 5 (
      oSeq (oMv g031 s033) <|
      oSeq (oP (vIdx 1 g027 g031) s034) <|
      oSeq (oLoad g034 s035) <|
      oSeq (oMv g033 s011) <|
      oMv g035 s012)) <|
     cSeq (cReg 5 (
      oSeq (oMv g001 s036) <|
      oSeq (oMv g012 s037) <|
      oSeq (oCallF 70 (fun T => [g036 T, g037 T]) s040) <|
      oSeq (oAlloc 40 [(.bool false), .nilSl] 3 s013) <|
      oStoreN 2 g013 g040 noPut)) <|
     cSeq (cReg 12 (
      oSeq (oMv g010 s041) <|
      oSeq (oLoadN 2 g013 s042) <|
      oSeq (oBuildSlice 40 2 [(.bool false), .nilSl] 1 [((0, 2), g042)] 2 s043) <|
      oSeq (oGen (.append 2 32 40 [(.bool false), .nilSl] (.t 33) (.t 35)) 3 s044) <|
      oSeq (oMv g007 s045) <|
      oSeq (oMv g000 s046) <|
      oSeq (oMv g012 s047) <|
      oSeq (oCallF 88 (fun T => [g046 T, g047 T]) s050) <|
      oSeq (oBuildSlice 37 1 [.nilSl] 1 [((0, 1), g050)] 8 s051) <|
      oSeq (oGen (.append 1 24 37 [.nilSl] (.t 37) (.t 41)) 9 s052) <|
      oSeq (oMv g044 s010) <|
      oMv g052 s007)) <|
     cDrw 11 (
      dSeq (dLook 0 [] (oMv g006 s053)) <|
      dSeq (dLook 0 [] (oLoadN 2 g013 s054)) <|
      dSeq (dAct 0 [] (oCallF 69 (fun T => [g054 T]) s055)) <|
      dSeq (dLook 0 [] (oMv g006 s056)) <|
      dSeq (dLook 1 [] (oLoadN 2 g013 s057)) <|
      dSeq (dAct 0 [] (oCallF 69 (fun T => [g057 T]) s060)) <|
      dSeq (dLook 0 [] (oGen (.lookup .int .nilSl (.t 46) (.t 48) false) 6 s061)) <|
      dSeq (dLook 0 [] (oMv g011 s062)) <|
      dSeq (dMake 8 (oBuildSlice 3 1 [(.int .i64 0)] 1 [((0, 1), g062)] 8 s063)) <|
      dSeq (dAct 0 [(8, 0)] (oGen (.append 1 8 3 [(.int .i64 0)] (.t 49) (.t 51)) 9 s064)) <|
      dSeq (dAct 0 [] (oGen (.mapUpd .int (.t 43) (.t 45) (.t 52)) 10 noPut)) <|
      dNop)
      (ckSeq (ckOne g057 3 [] (oLoadN 2 g013 s057)) <|
     ckNop) [])) <|
    cReg 2 (
     oSeq (oP (vAdd g031 (kc (.int .i64 1))) s065) <|
     oMv g065 s031)))) <|
  cSeq (cReg 1 (
   oMv (kc .nilSl) s014)) <|
  cSeq (cSeq (cReg 4 (
   oSeq (oMv g006 s066) <|
   oSeq (oGen (.lookup .int .nilSl (.t 54) (.c (.int .i64 0)) false) 1 s067) <|
   oSeq (oP (vLen g067) s070) <|
   oMv (kc (.int .i64 0)) s071)) <|
  cBlock 5 (cLoop 1000000 (cSeq (cReg 1 (
     oP (vLss g071 g070) s072)) <|
    cSeq (cCond g072
     (cSkip)
     (cExit 5)) <|
    cSeq (cBlock 7 (cSeq (cReg 3 (
      oSeq (oP (vIdx 1 g067 g071) s073) <|
      oSeq (oLoad g073 s074) <|
      oMv g074 s016)) <|
     cReg 11 (
      oSeq (oMv g014 s075) <|
      oSeq (oMv g000 s076) <|
      oSeq (oGen (.nilCheck (.t 62)) 2 s077) <|
      oSeq (oP (vFA 1 g077) s100) <|
      oSeq (oLoad g100 s101) <|
      oSeq (oMv g016 s102) <|
      oSeq (oP (vIdx 1 g101 g102) s103) <|
      oSeq (oLoad g103 s104) <|
      oSeq (oBuildSlice 36 1 [.nilSl] 1 [((0, 1), g104)] 8 s105) <|
      oSeq (oGen (.append 1 24 36 [.nilSl] (.t 61) (.t 69)) 9 s106) <|
      oMv g106 s014))) <|
    cReg 2 (
     oSeq (oP (vAdd g071 (kc (.int .i64 1))) s107) <|
     oMv g107 s071)))) <|
  cSeq (cSeq (cReg 4 (
   oSeq (oMv g006 s110) <|
   oSeq (oGen (.lookup .int .nilSl (.t 72) (.c (.int .i64 1)) false) 1 s111) <|
   oSeq (oP (vLen g111) s112) <|
   oMv (kc (.int .i64 0)) s113)) <|
  cBlock 9 (cLoop 1000000 (cSeq (cReg 1 (
     oP (vLss g113 g112) s114)) <|
    cSeq (cCond g114
     (cSkip)
     (cExit 9)) <|
    cSeq (cBlock 11 (cSeq (cReg 3 (
      oSeq (oP (vIdx 1 g111 g113) s115) <|
      oSeq (oLoad g115 s116) <|
      oMv g116 s020)) <|
     cSeq (cSeq (cReg 2 (
      oSeq (oMv g002 s117) <|
      oGen (.un .not (.t 79)) 1 s120)) <|
     cCond g120
      (cReg 11 (
       oSeq (oMv g014 s121) <|
       oSeq (oMv g000 s122) <|
       oSeq (oGen (.nilCheck (.t 82)) 2 s123) <|
       oSeq (oP (vFA 1 g123) s124) <|
       oSeq (oLoad g124 s125) <|
       oSeq (oMv g020 s126) <|
       oSeq (oP (vIdx 1 g125 g126) s127) <|
       oSeq (oLoad g127 s130) <|
       oSeq (oBuildSlice 36 1 [.nilSl] 1 [((0, 1), g130)] 8 s131) <|
       oSeq (oGen (.append 1 24 36 [.nilSl] (.t 81) (.t 89)) 9 s132) <|
       oMv g132 s014))
      (cSkip)) <|
     cSeq (cReg 4 (
      oSeq (oMv g006 s133) <|
      oSeq (oGen (.lookup .int .nilSl (.t 91) (.c (.int .i64 (-1))) false) 1 s134) <|
      oSeq (oP (vLen g134) s135) <|
      oMv (kc (.int .i64 0)) s136)) <|
     cBlock 13 (cLoop 1000000 (cSeq (cReg 1 (
        oP (vLss g136 g135) s137)) <|
       cSeq (cCond g137
        (cSkip)
        (cExit 13)) <|
       cSeq (cBlock 15 (cSeq (cReg 3 (
         oSeq (oP (vIdx 1 g134 g136) s140) <|
         oSeq (oLoad g140 s141) <|
         oMv g141 s022)) <|
        cSeq (cReg 4 (
         oSeq (oMv g007 s142) <|
         oSeq (oMv g020 s143) <|
         oSeq (oMv g022 s144) <|
         oCallF 89 (fun T => [g142 T, g143 T, g144 T]) s145)) <|
        cCond g145
         (cDrw 28 (
          dSeq (dLook 0 [] (oMv g014 s146)) <|
          dSeq (dLook 0 [] (oMv g010 s147)) <|
          dSeq (dLook 0 [] (oMv g022 s150)) <|
          dSeq (dLook 0 [] (oP (vIdx 2 g147 g150) s151)) <|
          dSeq (dLook 0 [] (oLoadN 2 g151 s152)) <|
          dSeq (dAct 0 [] (oCallF 91 (fun T => [g152 T]) s153)) <|
          dSeq (dLook 0 [] (oMv g000 s154)) <|
          dSeq (dLook 0 [] (oGen (.nilCheck (.t 108)) 7 s155)) <|
          dSeq (dLook 0 [] (oP (vFA 1 g155) s156)) <|
          dSeq (dLook 1 [] (oLoad g156 s157)) <|
          dSeq (dLook 0 [] (oMv g020 s160)) <|
          dSeq (dLook 0 [] (oP (vIdx 1 g157 g160) s161)) <|
          dSeq (dLook 1 [] (oLoad g161 s162)) <|
          dSeq (dLook 0 [] (oMv g010 s163)) <|
          dSeq (dLook 0 [] (oMv g020 s164)) <|
          dSeq (dLook 0 [] (oP (vIdx 2 g163 g164) s165)) <|
          dSeq (dLook 1 [] (oLoadN 2 g165 s166)) <|
          dSeq (dLook 0 [] (oMv g000 s167)) <|
          dSeq (dLook 0 [] (oGen (.nilCheck (.t 119)) 18 s170)) <|
          dSeq (dLook 0 [] (oP (vFA 1 g170) s171)) <|
          dSeq (dLook 1 [] (oLoad g171 s172)) <|
          dSeq (dLook 0 [] (oMv g022 s173)) <|
          dSeq (dLook 0 [] (oP (vIdx 1 g172 g173) s174)) <|
          dSeq (dLook 1 [] (oLoad g174 s175)) <|
          dSeq (dAct 0 [] (oCallF 90 (fun T => [g153 T, g162 T, g166 T, g175 T]) s176)) <|
          dSeq (dMake 25 (oBuildSlice 36 1 [.nilSl] 1 [((0, 1), g176)] 25 s177)) <|
          dSeq (dAct 0 [(25, 0)] (oGen (.append 1 24 36 [.nilSl] (.t 102) (.t 127)) 26 s200)) <|
          dSeq (dLook 0 [] (oMv g200 s014)) <|
          dNop)
          (ckSeq (ckOne g157 2 [] (oLoad g156 s157)) <|
         ckSeq (ckOne g162 2 [] (oLoad g161 s162)) <|
         ckSeq (ckOne g166 2 [] (oLoadN 2 g165 s166)) <|
         ckSeq (ckOne g172 2 [] (oLoad g171 s172)) <|
         ckSeq (ckOne g175 2 [] (oLoad g174 s175)) <|
         ckNop) [])
         (cSkip))) <|
       cReg 2 (
        oSeq (oP (vAdd g136 (kc (.int .i64 1))) s201) <|
        oMv g201 s136))))) <|
    cReg 2 (
     oSeq (oP (vAdd g113 (kc (.int .i64 1))) s202) <|
     oMv g202 s113)))) <|
  cReg 5 (
   oSeq (oMv g000 s203) <|
   oSeq (oMv g014 s204) <|
   oSeq (oGen (.nilCheck (.t 131)) 2 s205) <|
   oSeq (oP (vFA 1 g205) s206) <|
   oStore g206 g204 noPut)⟩
noncomputable def ffn88 : FFn := ⟨2, 48, [(4, none)],
  cSeq (cReg 1 (
   oMv (kc .nilSl) s004)) <|
  cSeq (cReg 9 (
   oSeq (oMv g000 s012) <|
   oSeq (oGen (.nilCheck (.t 10)) 1 s013) <|
   oSeq (oP (vFA 2 g013) s014) <|
   oSeq (oLoad g014 s015) <|
   oSeq (oP (vLen g015) s016) <|
   oSeq (oGen (.bin .quo .int (.t 14) (.c (.int .i64 64))) 5 s017) <|
   oSeq (oP (vAdd g017 (kc (.int .i64 1))) s020) <|
   oSeq (oGen (.mksl 52 1 8 [(.int .u64 0)] (.t 16) (.t 16)) 7 s021) <|
   oMv g021 s005)) <|
  cSeq (cReg 11 (
   oSeq (oMv g001 s023) <|
   oSeq (oMv g000 s024) <|
   oSeq (oGen (.nilCheck (.t 20)) 2 s025) <|
   oSeq (oP (vFA 2 g025) s026) <|
   oSeq (oLoad g026 s027) <|
   oSeq (oCallF 123 (fun T => [g023 T, g027 T]) s030) <|
   oSeq (oMv g030 s022) <|
   oSeq (oP (vExt 0 g022) s031) <|
   oSeq (oP (vExt 1 g022) s032) <|
   oSeq (oMv g031 s006) <|
   oMv g032 s007)) <|
  cSeq (cSeq (cReg 3 (
   oSeq (oMv g006 s033) <|
   oSeq (oP (vLen g033) s034) <|
   oMv (kc (.int .i64 0)) s035)) <|
  cBlock 1 (cLoop 1000000 (cSeq (cReg 1 (
     oP (vLss g035 g034) s036)) <|
    cSeq (cCond g036
     (cSkip)
     (cExit 1)) <|
    cSeq (cBlock 3 (cSeq (cReg 5 (
      oSeq (oMv g035 s037) <|
      oSeq (oP (vIdx 1 g033 g035) s040) <|
      oSeq (oLoad g040 s041) <|
      oSeq (oMv g037 s010) <|
      oMv g041 s011)) <|
     cSeq (cReg 2 (
      oSeq (oMv g011 s042) <|
      oP (vEql g042 (kc (.int .i64 0))) s043)) <|
     cCond g043
      (cDrw 11 (
       dSeq (dLook 0 [] (oMv g005 s044)) <|
       dSeq (dLook 0 [] (oMv g010 s045)) <|
       dSeq (dLook 0 [] (oGen (.bin .quo .int (.t 37) (.c (.int .i64 64))) 2 s046)) <|
       dSeq (dLook 0 [] (oP (vIdx 1 g044 g046) s047)) <|
       dSeq (dLook 0 [] (oLoad g047 s050)) <|
       dSeq (dLook 0 [] (oMv g010 s051)) <|
       dSeq (dLook 0 [] (oGen (.bin .rem .int (.t 41) (.c (.int .i64 64))) 6 s052)) <|
       dSeq (dLook 0 [] (oGen (.bin .shl .int (.c (.int .u64 1)) (.t 42)) 7 s053)) <|
       dSeq (dLook 0 [] (oGen (.bin .or .int (.t 40) (.t 43)) 8 s054)) <|
       dSeq (dLook 0 [] (oP (vIdx 1 g044 g046) s055)) <|
       dSeq (dAct 0 [] (oStore g055 g054 noPut)) <|
       dNop)
       (ckNop) [])
      (cSkip))) <|
    cReg 2 (
     oSeq (oP (vAdd g035 (kc (.int .i64 1))) s056) <|
     oMv g056 s035)))) <|
  cSeq (cReg 2 (
   oSeq (oMv g005 s057) <|
   oMv g057 s004)) <|
  cExit 0⟩
noncomputable def ffn123 : FFn := ⟨2, 55, [(4, none), (5, none)],
  cSeq (cReg 2 (
   oSeq (oMv (kc .nilSl) s004) <|
   oMv (kc (.int .i64 0)) s005)) <|
  cSeq (cSeq (cReg 3 (
   oSeq (oMv g001 s014) <|
   oSeq (oCallF 67 (fun T => [g014 T]) s015) <|
   oMv g015 s005)) <|
  cSeq (cReg 2 (
   oSeq (oMv g005 s016) <|
   oP (vNeq g016 (kc (.int .i64 0))) s017)) <|
  cCond g017
   (cExit 0)
   (cSkip)) <|
  cSeq (cBlock 1 (cSeq (cReg 4 (
    oSeq (oMv g000 s021) <|
    oSeq (oCallF 27 (fun T => [g021 T]) s022) <|
    oSeq (oP (vNeq g022 (kc (.int .i64 0))) s023) <|
    oMv g023 s020)) <|
   cCond g020
    (cSeq (cReg 2 (
     oSeq (oMv (kc .nilSl) s004) <|
     oMv (kc (.int .i64 8)) s005)) <|
    cExit 0)
    (cSeq (cReg 13 (
     oSeq (oMv g001 s025) <|
     oSeq (oP (vLen g025) s026) <|
     oSeq (oP (vGtr g026 (kc (.int .i64 0))) s027) <|
     oSeq (oMv g027 s030) <|
     oSeq (oGuard g030 true s031 (oMv g001 s031)) <|
     oSeq (oGuard g030 true s032 (oP (vIdx 1 g031 (kc (.int .i64 0))) s032)) <|
     oSeq (oGuard g030 true s033 (oLoad g032 s033)) <|
     oSeq (oGuard g030 true s034 (oP (vLen g033) s034)) <|
     oSeq (oGuard g030 true s035 (oMv g000 s035)) <|
     oSeq (oGuard g030 true s036 (oP (vLen g035) s036)) <|
     oSeq (oGuard g030 true s037 (oP (vNeq g034 g036) s037)) <|
     oSeq (oP (vPick g030 g037 (kc (.bool false))) s040) <|
     oMv g040 s024)) <|
    cCond g024
     (cSeq (cReg 2 (
      oSeq (oMv (kc .nilSl) s004) <|
      oMv (kc (.int .i64 70)) s005)) <|
     cExit 0)
     (cSkip)))) <|
  cSeq (cSeq (cReg 3 (
   oSeq (oMv g001 s041) <|
   oSeq (oP (vLen g041) s042) <|
   oMv (kc (.int .i64 0)) s043)) <|
  cBlock 3 (cLoop 1000000 (cSeq (cReg 1 (
     oP (vLss g043 g042) s044)) <|
    cSeq (cCond g044
     (cSkip)
     (cExit 3)) <|
    cSeq (cBlock 5 (cSeq (cReg 3 (
      oSeq (oP (vIdx 1 g041 g043) s045) <|
      oSeq (oLoad g045 s046) <|
      oMv g046 s007)) <|
     cSeq (cReg 9 (
      oSeq (oMv g000 s050) <|
      oSeq (oMv g007 s051) <|
      oSeq (oCallF 87 (fun T => [g050 T, g051 T]) s052) <|
      oSeq (oMv g052 s047) <|
      oSeq (oP (vExt 0 g047) s053) <|
      oSeq (oP (vExt 1 g047) s054) <|
      oSeq (oAlloc 40 [(.bool false), .nilSl] 6 s010) <|
      oSeq (oStoreN 2 g010 g053 noPut) <|
      oMv g054 s011)) <|
     cSeq (cReg 7 (
      oSeq (oLoadN 2 g010 s056) <|
      oSeq (oCallF 55 (fun T => [g056 T]) s057) <|
      oSeq (oMv g057 s055) <|
      oSeq (oP (vExt 0 g055) s060) <|
      oSeq (oP (vExt 1 g055) s061) <|
      oSeq (oMv g060 s012) <|
      oMv g061 s013)) <|
     cReg 5 (
      oSeq (oMv g004 s062) <|
      oSeq (oMv g012 s063) <|
      oSeq (oBuildSlice 3 1 [(.int .i64 0)] 1 [((0, 1), g063)] 2 s064) <|
      oSeq (oGen (.append 1 8 3 [(.int .i64 0)] (.t 50) (.t 52)) 3 s065) <|
      oMv g065 s004))) <|
    cReg 2 (
     oSeq (oP (vAdd g043 (kc (.int .i64 1))) s066) <|
     oMv g066 s043)))) <|
  cExit 0⟩
noncomputable def ffn91 : FFn := ⟨1, 11, [(2, (some (some 2)))],
  cSeq (cReg 2 (
   oSeq (oBox 40 g000 0 s001) <|
   oAlloc 40 [(.bool false), .nilSl] 1 s002)) <|
  cSeq (cReg 8 (
   oSeq (oLoadN 2 g001 s006) <|
   oSeq (oCallF 126 (fun T => [g006 T]) s007) <|
   oSeq (oMv g007 s005) <|
   oSeq (oP (vExt 0 g005) s010) <|
   oSeq (oP (vExt 1 g005) s011) <|
   oSeq (oAlloc 40 [(.bool false), .nilSl] 5 s003) <|
   oSeq (oStoreN 2 g003 g010 noPut) <|
   oMv g011 s004)) <|
  cSeq (cReg 2 (
   oSeq (oLoadN 2 g003 s012) <|
   oStoreN 2 g002 g012 noPut)) <|
  cExit 0⟩
noncomputable def ffn126 : FFn := ⟨1, 18, [(2, (some (some 2))), (3, none)],
  cSeq (cReg 3 (
   oSeq (oBox 40 g000 0 s001) <|
   oSeq (oAlloc 40 [(.bool false), .nilSl] 1 s002) <|
   oMv (kc (.int .i64 0)) s003)) <|
  cSeq (cSeq (cReg 3 (
   oSeq (oLoadN 2 g001 s005) <|
   oSeq (oCallF 43 (fun T => [g005 T]) s006) <|
   oMv g006 s004)) <|
  cSeq (cReg 2 (
   oSeq (oMv g004 s007) <|
   oP (vNeq g007 (kc (.int .i64 0))) s010)) <|
  cCond g010
   (cSeq (cReg 4 (
    oSeq (oP (vBuild [(.bool false), .nilSl] []) s011) <|
    oSeq (oMv g004 s012) <|
    oSeq (oStoreN 2 g002 g011 noPut) <|
    oMv g012 s003)) <|
   cExit 0)
   (cSkip)) <|
  cSeq (cDrw 9 (
   dSeq (dLook 0 [] (oP (vFA 0 g001) s013)) <|
   dSeq (dLook 0 [] (oLoad g013 s014)) <|
   dSeq (dLook 0 [] (oGen (.un .not (.t 12)) 2 s015)) <|
   dSeq (dLook 0 [] (oP (vFA 1 g001) s016)) <|
   dSeq (dLook 0 [] (oLoad g016 s017)) <|
   dSeq (dAct 0 [] (oCallF 98 (fun T => [g017 T]) s020)) <|
   dSeq (dAct 0 [] (oCallF 20 (fun T => [g015 T, g020 T]) s021)) <|
   dSeq (dAct 0 [] (oStoreN 2 g002 g021 noPut)) <|
   dSeq (dLook 0 [] (oMv (kc (.int .i64 0)) s003)) <|
   dNop)
   (ckSeq (ckOne g014 2 [] (oLoad g013 s014)) <|
  ckNop) []) <|
  cExit 0⟩
noncomputable def ffn98 : FFn := ⟨1, 8, [(2, none)],
  cSeq (cReg 1 (
   oMv (kc .nilSl) s002)) <|
  cSeq (cSeq (cReg 2 (
   oSeq (oMv g000 s003) <|
   oGen (.bin .eql .sl (.t 3) (.c .nilSl)) 1 s004)) <|
  cCond g004
   (cSeq (cReg 1 (
    oMv (kc .nilSl) s002)) <|
   cExit 0)
   (cSkip)) <|
  cSeq (cReg 4 (
   oSeq (oBuildSlice 52 1 [] 0 [] 0 s005) <|
   oSeq (oMv g000 s006) <|
   oSeq (oGen (.append 1 8 52 [(.int .u64 0)] (.t 5) (.t 6)) 2 s007) <|
   oMv g007 s002)) <|
  cExit 0⟩
noncomputable def ffn90 : FFn := ⟨4, 25, [(8, none)],
  cSeq (cReg 3 (
   oSeq (oBox 40 g000 0 s004) <|
   oSeq (oBox 40 g002 1 s006) <|
   oMv (kc .nilSl) s010)) <|
  cSeq (cReg 10 (
   oSeq (oLoadN 2 g004 s014) <|
   oSeq (oMv g001 s015) <|
   oSeq (oLoadN 2 g006 s016) <|
   oSeq (oMv g003 s017) <|
   oSeq (oCallF 125 (fun T => [g014 T, g015 T, g016 T, g017 T]) s020) <|
   oSeq (oMv g020 s013) <|
   oSeq (oP (vExt 0 g013) s021) <|
   oSeq (oP (vExt 1 g013) s022) <|
   oSeq (oMv g021 s011) <|
   oMv g022 s012)) <|
  cSeq (cReg 6 (
   oSeq (oMv g011 s024) <|
   oSeq (oCallF 99 (fun T => [g024 T]) s025) <|
   oSeq (oMv g025 s023) <|
   oSeq (oP (vExt 0 g023) s026) <|
   oSeq (oP (vExt 1 g023) s027) <|
   oMv g026 s011)) <|
  cSeq (cReg 2 (
   oSeq (oMv g011 s030) <|
   oMv g030 s010)) <|
  cExit 0⟩
noncomputable def ffn125 : FFn := ⟨4, 29, [(8, none), (9, none)],
  cSeq (cReg 5 (
   oSeq (oBox 40 g000 0 s004) <|
   oSeq (oBox 40 g002 1 s006) <|
   oSeq (oBox 36 g003 2 s007) <|
   oSeq (oMv (kc .nilSl) s010) <|
   oMv (kc (.int .i64 0)) s011)) <|
  cSeq (cSeq (cReg 8 (
   oSeq (oLoadN 2 g004 s013) <|
   oSeq (oCallF 43 (fun T => [g013 T]) s014) <|
   oSeq (oP (vNeq g014 (kc (.int .i64 0))) s015) <|
   oSeq (oMv g015 s016) <|
   oSeq (oGuard g016 false s017 (oLoadN 2 g006 s017)) <|
   oSeq (oGuard g016 false s020 (oCallF 43 (fun T => [g017 T]) s020)) <|
   oSeq (oGuard g016 false s021 (oP (vNeq g020 (kc (.int .i64 0))) s021)) <|
   oP (vPick g016 (kc (.bool true)) g021) s022)) <|
  cCond g022
   (cSeq (cReg 2 (
    oSeq (oMv (kc .nilSl) s010) <|
    oMv (kc (.int .i64 8)) s011)) <|
   cExit 0)
   (cSkip)) <|
  cSeq (cSeq (cReg 5 (
   oSeq (oMv g001 s023) <|
   oSeq (oLoad g007 s024) <|
   oSeq (oBuildSlice 36 1 [.nilSl, .nilSl] 2 [((0, 1), g023), ((1, 1), g024)] 2 s025) <|
   oSeq (oCallF 78 (fun T => [g025 T]) s026) <|
   oMv g026 s012)) <|
  cSeq (cReg 2 (
   oSeq (oMv g012 s027) <|
   oP (vNeq g027 (kc (.int .i64 0))) s030)) <|
  cCond g030
   (cSeq (cReg 3 (
    oSeq (oMv g012 s031) <|
    oSeq (oMv (kc .nilSl) s010) <|
    oMv g031 s011)) <|
   cExit 0)
   (cSkip)) <|
  cSeq (cReg 5 (
   oSeq (oMv g001 s032) <|
   oSeq (oGen (.mkfn (.func 154) [] [(.t 4), (.t 6), (.t 7)]) 1 s033) <|
   oSeq (oCallF 96 (fun T => [g032 T, g033 T]) s034) <|
   oSeq (oMv g034 s010) <|
   oMv (kc (.int .i64 0)) s011)) <|
  cExit 0⟩
noncomputable def ffn154 : FFn := ⟨5, 18, [(7, (some (some 2)))],
  cSeq (cReg 2 (
   oSeq (oBox 40 g001 0 s006) <|
   oAlloc 40 [(.bool false), .nilSl] 1 s007)) <|
  cSeq (cDrw 11 (
   dSeq (dLook 0 [] (oLoadN 2 g002 s010)) <|
   dSeq (dLook 0 [] (oLoadN 2 g006 s011)) <|
   dSeq (dAct 0 [] (oCallF 122 (fun T => [g010 T, g011 T]) s012)) <|
   dSeq (dLook 1 [] (oLoadN 2 g003 s013)) <|
   dSeq (dLook 1 [] (oLoad g004 s014)) <|
   dSeq (dLook 0 [] (oMv g000 s015)) <|
   dSeq (dLook 0 [] (oP (vIdx 2 g014 g015) s016)) <|
   dSeq (dLook 1 [] (oLoadN 2 g016 s017)) <|
   dSeq (dAct 0 [] (oCallF 122 (fun T => [g013 T, g017 T]) s020)) <|
   dSeq (dAct 0 [] (oCallF 121 (fun T => [g012 T, g020 T]) s021)) <|
   dSeq (dAct 0 [] (oStoreN 2 g007 g021 noPut)) <|
   dNop)
   (ckSeq (ckOne g013 3 [] (oLoadN 2 g003 s013)) <|
  ckSeq (ckOne g014 3 [] (oLoad g004 s014)) <|
  ckSeq (ckOne g017 3 [] (oLoadN 2 g016 s017)) <|
  ckNop) []) <|
  cExit 0⟩
noncomputable def ffn96 : FFn := ⟨2, 27, [(4, none)],
  cSeq (cReg 1 (
   oMv (kc .nilSl) s004)) <|
  cSeq (cReg 4 (
   oSeq (oMv g000 s010) <|
   oSeq (oP (vLen g010) s011) <|
   oSeq (oGen (.mksl 40 2 32 [(.bool false), .nilSl] (.t 9) (.t 9)) 2 s012) <|
   oMv g012 s005)) <|
  cSeq (cSeq (cReg 3 (
   oSeq (oMv g000 s013) <|
   oSeq (oP (vLen g013) s014) <|
   oMv (kc (.int .i64 0)) s015)) <|
  cBlock 1 (cLoop 1000000 (cSeq (cReg 1 (
     oP (vLss g015 g014) s016)) <|
    cSeq (cCond g016
     (cSkip)
     (cExit 1)) <|
    cSeq (cBlock 3 (cSeq (cReg 6 (
      oSeq (oMv g015 s017) <|
      oSeq (oP (vIdx 2 g013 g015) s020) <|
      oSeq (oLoadN 2 g020 s021) <|
      oSeq (oAlloc 40 [(.bool false), .nilSl] 3 s007) <|
      oSeq (oMv g017 s006) <|
      oStoreN 2 g007 g021 noPut)) <|
     cReg 8 (
      oSeq (oMv g005 s022) <|
      oSeq (oMv g006 s023) <|
      oSeq (oMv g001 s024) <|
      oSeq (oMv g006 s025) <|
      oSeq (oLoadN 2 g007 s026) <|
      oSeq (oCall g024 (fun T => [g025 T, g026 T]) s027) <|
      oSeq (oP (vIdx 2 g022 g023) s030) <|
      oStoreN 2 g030 g027 noPut))) <|
    cReg 2 (
     oSeq (oP (vAdd g015 (kc (.int .i64 1))) s031) <|
     oMv g031 s015)))) <|
  cSeq (cReg 2 (
   oSeq (oMv g005 s032) <|
   oMv g032 s004)) <|
  cExit 0⟩
noncomputable def ffn99 : FFn := ⟨1, 24, [(2, none), (3, none)],
  cSeq (cReg 2 (
   oSeq (oMv (kc .nilSl) s002) <|
   oMv (kc (.int .i64 0)) s003)) <|
  cSeq (cReg 8 (
   oSeq (oMv g000 s007) <|
   oSeq (oCallF 130 (fun T => [g007 T]) s010) <|
   oSeq (oMv g010 s006) <|
   oSeq (oP (vExt 0 g006) s011) <|
   oSeq (oP (vExt 1 g006) s012) <|
   oSeq (oAlloc 38 [.nilSl] 5 s004) <|
   oSeq (oStore g004 g011 noPut) <|
   oMv g012 s005)) <|
  cSeq (cBlock 1 (cSeq (cReg 3 (
    oSeq (oMv g005 s014) <|
    oSeq (oP (vNeq g014 (kc (.int .i64 0))) s015) <|
    oMv g015 s013)) <|
   cCond g013
    (cSeq (cReg 3 (
     oSeq (oMv g005 s016) <|
     oSeq (oMv (kc .nilSl) s002) <|
     oMv g016 s003)) <|
    cExit 0)
    (cSeq (cReg 4 (
     oSeq (oLoad g004 s020) <|
     oSeq (oP (vLen g020) s021) <|
     oSeq (oP (vEql g021 (kc (.int .i64 0))) s022) <|
     oMv g022 s017)) <|
    cCond g017
     (cSeq (cReg 4 (
      oSeq (oMv g000 s023) <|
      oSeq (oCallF 74 (fun T => [g023 T]) s024) <|
      oSeq (oMv g024 s002) <|
      oMv (kc (.int .i64 0)) s003)) <|
     cExit 0)
     (cSkip)))) <|
  cSeq (cReg 5 (
   oSeq (oMv g000 s025) <|
   oSeq (oGen (.mkfn (.func 131) [] [(.t 4)]) 1 s026) <|
   oSeq (oCallF 96 (fun T => [g025 T, g026 T]) s027) <|
   oSeq (oMv g027 s002) <|
   oMv (kc (.int .i64 0)) s003)) <|
  cExit 0⟩
noncomputable def ffn130 : FFn := ⟨1, 25, [(2, none), (3, none)],
  cSeq (cReg 2 (
   oSeq (oMv (kc .nilSl) s002) <|
   oMv (kc (.int .i64 0)) s003)) <|
  cSeq (cSeq (cReg 4 (
   oSeq (oMv g000 s006) <|
   oSeq (oBuildSlice 36 1 [.nilSl] 1 [((0, 1), g006)] 1 s007) <|
   oSeq (oCallF 78 (fun T => [g007 T]) s010) <|
   oMv g010 s003)) <|
  cSeq (cReg 2 (
   oSeq (oMv g003 s011) <|
   oP (vNeq g011 (kc (.int .i64 0))) s012)) <|
  cCond g012
   (cExit 0)
   (cSkip)) <|
  cSeq (cSeq (cReg 3 (
   oSeq (oMv g000 s013) <|
   oSeq (oP (vLen g013) s014) <|
   oMv (kc (.int .i64 0)) s015)) <|
  cBlock 1 (cLoop 1000000 (cSeq (cReg 1 (
     oP (vLss g015 g014) s016)) <|
    cSeq (cCond g016
     (cSkip)
     (cExit 1)) <|
    cSeq (cBlock 3 (cSeq (cReg 4 (
      oSeq (oP (vIdx 2 g013 g015) s017) <|
      oSeq (oLoadN 2 g017 s020) <|
      oSeq (oAlloc 40 [(.bool false), .nilSl] 2 s005) <|
      oStoreN 2 g005 g020 noPut)) <|
     cReg 8 (
      oSeq (oMv g002 s022) <|
      oSeq (oP (vFA 1 g005) s023) <|
      oSeq (oLoad g023 s024) <|
      oSeq (oCallF 157 (fun T => [g022 T, g024 T]) s025) <|
      oSeq (oMv g025 s021) <|
      oSeq (oP (vExt 0 g021) s026) <|
      oSeq (oP (vExt 1 g021) s027) <|
      oMv g026 s002))) <|
    cReg 2 (
     oSeq (oP (vAdd g015 (kc (.int .i64 1))) s030) <|
     oMv g030 s015)))) <|
  cExit 0⟩
noncomputable def ffn157 : FFn := ⟨2, 31, [(4, none), (5, none)],
  cSeq (cReg 2 (
   oSeq (oMv (kc .nilSl) s004) <|
   oMv (kc (.int .i64 0)) s005)) <|
  cSeq (cSeq (cReg 5 (
   oSeq (oMv g000 s012) <|
   oSeq (oMv g001 s013) <|
   oSeq (oBuildSlice 38 1 [.nilSl, .nilSl] 2 [((0, 1), g012), ((1, 1), g013)] 2 s014) <|
   oSeq (oCallF 179 (fun T => [g014 T]) s015) <|
   oMv g015 s006)) <|
  cSeq (cReg 2 (
   oSeq (oMv g006 s016) <|
   oP (vNeq g016 (kc (.int .i64 0))) s017)) <|
  cCond g017
   (cSeq (cReg 3 (
    oSeq (oMv g006 s020) <|
    oSeq (oMv (kc .nilSl) s004) <|
    oMv g020 s005)) <|
   cExit 0)
   (cSkip)) <|
  cSeq (cBlock 1 (cLoop 1000000 (cSeq (cSeq (cReg 3 (
     oSeq (oMv g001 s021) <|
     oSeq (oP (vLen g021) s022) <|
     oP (vGtr g022 (kc (.int .i64 0))) s023)) <|
    cCond g023
     (cSkip)
     (cExit 1)) <|
    cBlock 3 (cSeq (cReg 10 (
      oSeq (oMv g000 s025) <|
      oSeq (oMv g001 s026) <|
      oSeq (oCallF 180 (fun T => [g025 T, g026 T]) s027) <|
      oSeq (oMv g027 s024) <|
      oSeq (oP (vExt 0 g024) s030) <|
      oSeq (oP (vExt 1 g024) s031) <|
      oSeq (oP (vExt 2 g024) s032) <|
      oSeq (oMv g030 s007) <|
      oSeq (oMv g031 s010) <|
      oMv g032 s011)) <|
     cReg 4 (
      oSeq (oMv g001 s033) <|
      oSeq (oMv g010 s034) <|
      oSeq (oMv g033 s000) <|
      oMv g034 s001))))) <|
  cSeq (cReg 4 (
   oSeq (oMv g000 s035) <|
   oSeq (oGen (.append 1 8 52 [(.int .u64 0)] (.c .nilSl) (.t 29)) 1 s036) <|
   oSeq (oMv g036 s004) <|
   oMv (kc (.int .i64 0)) s005)) <|
  cExit 0⟩
noncomputable def ffn179 : FFn := ⟨1, 18, [(2, none)],
  cSeq (cReg 1 (
   oMv (kc (.int .i64 0)) s002)) <|
  cSeq (cSeq (cReg 3 (
   oSeq (oMv g000 s006) <|
   oSeq (oP (vLen g006) s007) <|
   oMv (kc (.int .i64 0)) s010)) <|
  cBlock 1 (cLoop 1000000 (cSeq (cReg 1 (
     oP (vLss g010 g007) s011)) <|
    cSeq (cCond g011
     (cSkip)
     (cExit 1)) <|
    cSeq (cBlock 3 (cSeq (cReg 3 (
      oSeq (oP (vIdx 1 g006 g010) s012) <|
      oSeq (oLoad g012 s013) <|
      oMv g013 s004)) <|
     cSeq (cReg 3 (
      oSeq (oMv g004 s014) <|
      oSeq (oCallF 64 (fun T => [g014 T]) s015) <|
      oMv g015 s005)) <|
     cSeq (cReg 2 (
      oSeq (oMv g005 s016) <|
      oP (vNeq g016 (kc (.int .i64 0))) s017)) <|
     cCond g017
      (cSeq (cReg 2 (
       oSeq (oMv g005 s020) <|
       oMv g020 s002)) <|
      cExit 0)
      (cSkip))) <|
    cReg 2 (
     oSeq (oP (vAdd g010 (kc (.int .i64 1))) s021) <|
     oMv g021 s010)))) <|
  cSeq (cReg 1 (
   oMv (kc (.int .i64 0)) s002)) <|
  cExit 0⟩
noncomputable def ffn180 : FFn := ⟨2, 123, [(4, none), (5, none), (6, none)],
  cSeq (cReg 3 (
   oSeq (oMv (kc .nilSl) s004) <|
   oSeq (oMv (kc .nilSl) s005) <|
   oMv (kc (.int .i64 0)) s006)) <|
  cSeq (cSeq (cReg 4 (
   oSeq (oMv g000 s023) <|
   oSeq (oMv g001 s024) <|
   oSeq (oCallF 204 (fun T => [g023 T, g024 T]) s025) <|
   oMv g025 s006)) <|
  cSeq (cReg 2 (
   oSeq (oMv g006 s026) <|
   oP (vNeq g026 (kc (.int .i64 0))) s027)) <|
  cCond g027
   (cExit 0)
   (cSkip)) <|
  cSeq (cSeq (cReg 3 (
   oSeq (oMv g001 s030) <|
   oSeq (oP (vLen g030) s031) <|
   oP (vEql g031 (kc (.int .i64 1))) s032)) <|
  cCond g032
   (cSeq (cReg 12 (
    oSeq (oMv g000 s034) <|
    oSeq (oMv g001 s035) <|
    oSeq (oP (vIdx 1 g035 (kc (.int .i64 0))) s036) <|
    oSeq (oLoad g036 s037) <|
    oSeq (oCallF 205 (fun T => [g034 T, g037 T]) s040) <|
    oSeq (oMv g040 s033) <|
    oSeq (oP (vExt 0 g033) s041) <|
    oSeq (oP (vExt 1 g033) s042) <|
    oSeq (oP (vExt 2 g033) s043) <|
    oSeq (oMv g041 s007) <|
    oSeq (oMv g042 s010) <|
    oMv g043 s011)) <|
   cSeq (cReg 7 (
    oSeq (oMv g007 s044) <|
    oSeq (oMv g010 s045) <|
    oSeq (oCallF 21 (fun T => [g045 T]) s046) <|
    oSeq (oMv g011 s047) <|
    oSeq (oMv g044 s004) <|
    oSeq (oMv g046 s005) <|
    oMv g047 s006)) <|
   cExit 0)
   (cSkip)) <|
  cSeq (cSeq (cReg 5 (
   oSeq (oMv g000 s050) <|
   oSeq (oP (vLen g050) s051) <|
   oSeq (oMv g001 s052) <|
   oSeq (oP (vLen g052) s053) <|
   oP (vLss g051 g053) s054)) <|
  cCond g054
   (cSeq (cReg 5 (
    oSeq (oMv g000 s055) <|
    oSeq (oCallF 98 (fun T => [g055 T]) s056) <|
    oSeq (oMv (kc .nilSl) s004) <|
    oSeq (oMv g056 s005) <|
    oMv (kc (.int .i64 0)) s006)) <|
   cExit 0)
   (cSkip)) <|
  cSeq (cReg 8 (
   oSeq (oMv g001 s057) <|
   oSeq (oMv g001 s060) <|
   oSeq (oP (vLen g060) s061) <|
   oSeq (oP (vSub g061 (kc (.int .i64 1))) s062) <|
   oSeq (oP (vIdx 1 g057 g062) s063) <|
   oSeq (oLoad g063 s064) <|
   oSeq (oCallF 206 (fun T => [g064 T]) s065) <|
   oMv g065 s012)) <|
  cSeq (cReg 8 (
   oSeq (oMv g000 s067) <|
   oSeq (oMv g012 s070) <|
   oSeq (oCallF 207 (fun T => [g067 T, g070 T]) s071) <|
   oSeq (oMv g071 s066) <|
   oSeq (oP (vExt 0 g066) s072) <|
   oSeq (oP (vExt 1 g066) s073) <|
   oSeq (oMv g072 s013) <|
   oMv g073 s014)) <|
  cSeq (cReg 8 (
   oSeq (oMv g001 s075) <|
   oSeq (oMv g012 s076) <|
   oSeq (oCallF 207 (fun T => [g075 T, g076 T]) s077) <|
   oSeq (oMv g077 s074) <|
   oSeq (oP (vExt 0 g074) s100) <|
   oSeq (oP (vExt 1 g074) s101) <|
   oSeq (oMv g100 s015) <|
   oMv g101 s016)) <|
  cSeq (cReg 12 (
   oSeq (oMv g013 s102) <|
   oSeq (oMv g000 s103) <|
   oSeq (oP (vLen g103) s104) <|
   oSeq (oP (vAdd g104 (kc (.int .i64 1))) s105) <|
   oSeq (oMv g013 s106) <|
   oSeq (oP (vLen g106) s107) <|
   oSeq (oP (vSub g105 g107) s110) <|
   oSeq (oGen (.appendZ 1 8 52 [(.int .u64 0)] (.t 66) (.t 72)) 7 s111) <|
   oSeq (oMv g015 s112) <|
   oSeq (oP (vBuild [.nilSl, .nilSl] [((0, 1), g111), ((1, 1), g112)]) s113) <|
   oSeq (oBox 233 g113 10 s114) <|
   oMv g114 s017)) <|
  cSeq (cReg 8 (
   oSeq (oMv g000 s115) <|
   oSeq (oP (vLen g115) s116) <|
   oSeq (oMv g001 s117) <|
   oSeq (oP (vLen g117) s120) <|
   oSeq (oP (vSub g116 g120) s121) <|
   oSeq (oP (vAdd g121 (kc (.int .i64 1))) s122) <|
   oSeq (oGen (.mksl 52 1 8 [(.int .u64 0)] (.t 82) (.t 82)) 6 s123) <|
   oMv g123 s004)) <|
  cSeq (cSeq (cReg 4 (
   oSeq (oMv g004 s124) <|
   oSeq (oP (vLen g124) s125) <|
   oSeq (oP (vSub g125 (kc (.int .i64 1))) s126) <|
   oMv g126 s020)) <|
  cBlock 1 (cLoop 1000000 (cSeq (cSeq (cReg 2 (
     oSeq (oMv g020 s127) <|
     oP (vGeq g127 (kc (.int .i64 0))) s130)) <|
    cCond g130
     (cSkip)
     (cExit 1)) <|
    cSeq (cBlock 3 (cSeq (cReg 4 (
      oSeq (oMv g017 s133) <|
      oSeq (oMv g020 s134) <|
      oSeq (oCallF 208 (fun T => [g133 T, g134 T]) s135) <|
      oMv g135 s021)) <|
     cSeq (cSeq (cReg 5 (
      oSeq (oMv g017 s136) <|
      oSeq (oMv g021 s137) <|
      oSeq (oMv g020 s140) <|
      oSeq (oCallF 209 (fun T => [g136 T, g137 T, g140 T]) s141) <|
      oMv g141 s022)) <|
     cBlock 5 (cLoop 1000000 (cSeq (cSeq (cReg 1 (
        oMv g022 s142)) <|
       cCond g142
        (cSkip)
        (cExit 5)) <|
       cSeq (cBlock 7 (cReg 3 (
         oSeq (oMv g021 s147) <|
         oSeq (oP (vSub g147 (kc (.int .u64 1))) s150) <|
         oMv g150 s021))) <|
       cReg 5 (
        oSeq (oMv g017 s143) <|
        oSeq (oMv g020 s144) <|
        oSeq (oCallF 210 (fun T => [g143 T, g144 T]) s145) <|
        oSeq (oGen (.un .not (.t 101)) 3 s146) <|
        oMv g146 s022)))) <|
     cReg 5 (
      oSeq (oMv g004 s151) <|
      oSeq (oMv g020 s152) <|
      oSeq (oMv g021 s153) <|
      oSeq (oP (vIdx 1 g151 g152) s154) <|
      oStore g154 g153 noPut))) <|
    cReg 3 (
     oSeq (oMv g020 s131) <|
     oSeq (oP (vSub g131 (kc (.int .i64 1))) s132) <|
     oMv g132 s020)))) <|
  cSeq (cReg 12 (
   oSeq (oMv g017 s156) <|
   oSeq (oGen (.nilCheck (.t 110)) 1 s157) <|
   oSeq (oP (vFA 0 g157) s160) <|
   oSeq (oLoad g160 s161) <|
   oSeq (oCallF 212 (fun T => [g161 T]) s162) <|
   oSeq (oMv g012 s163) <|
   oSeq (oCallF 211 (fun T => [g162 T, g163 T]) s164) <|
   oSeq (oMv g164 s155) <|
   oSeq (oP (vExt 0 g155) s165) <|
   oSeq (oP (vExt 1 g155) s166) <|
   oSeq (oMv g165 s005) <|
   oMv g166 s006)) <|
  cSeq (cReg 7 (
   oSeq (oMv g004 s167) <|
   oSeq (oCallF 212 (fun T => [g167 T]) s170) <|
   oSeq (oMv g005 s171) <|
   oSeq (oMv g006 s172) <|
   oSeq (oMv g170 s004) <|
   oSeq (oMv g171 s005) <|
   oMv g172 s006)) <|
  cExit 0⟩
noncomputable def ffn204 : FFn := ⟨2, 18, [(4, none)],
  cSeq (cReg 1 (
   oMv (kc (.int .i64 0)) s004)) <|
  cSeq (cBlock 1 (cSeq (cReg 9 (
    oSeq (oMv g000 s006) <|
    oSeq (oCallF 64 (fun T => [g006 T]) s007) <|
    oSeq (oP (vNeq g007 (kc (.int .i64 0))) s010) <|
    oSeq (oMv g010 s011) <|
    oSeq (oGuard g011 false s012 (oMv g001 s012)) <|
    oSeq (oGuard g011 false s013 (oCallF 64 (fun T => [g012 T]) s013)) <|
    oSeq (oGuard g011 false s014 (oP (vNeq g013 (kc (.int .i64 0))) s014)) <|
    oSeq (oP (vPick g011 (kc (.bool true)) g014) s015) <|
    oMv g015 s005)) <|
   cCond g005
    (cSeq (cReg 1 (
     oMv (kc (.int .i64 8)) s004)) <|
    cExit 0)
    (cSeq (cReg 4 (
     oSeq (oMv g001 s017) <|
     oSeq (oP (vLen g017) s020) <|
     oSeq (oP (vEql g020 (kc (.int .i64 0))) s021) <|
     oMv g021 s016)) <|
    cCond g016
     (cSeq (cReg 1 (
      oMv (kc (.int .i64 30)) s004)) <|
     cExit 0)
     (cSkip)))) <|
  cSeq (cReg 1 (
   oMv (kc (.int .i64 0)) s004)) <|
  cExit 0⟩
noncomputable def ffn205 : FFn := ⟨2, 36, [(4, (some none)), (5, (some none)), (6, none)],
  cSeq (cReg 4 (
   oSeq (oBox 52 g001 0 s003) <|
   oSeq (oAlloc 38 [.nilSl] 1 s004) <|
   oSeq (oAlloc 52 [(.int .u64 0)] 2 s005) <|
   oMv (kc (.int .i64 0)) s006)) <|
  cSeq (cBlock 1 (cSeq (cReg 4 (
    oSeq (oMv g000 s012) <|
    oSeq (oCallF 64 (fun T => [g012 T]) s013) <|
    oSeq (oP (vNeq g013 (kc (.int .i64 0))) s014) <|
    oMv g014 s011)) <|
   cCond g011
    (cSeq (cReg 3 (
     oSeq (oStore g004 (kc .nilSl) noPut) <|
     oSeq (oStore g005 (kc (.int .u64 0)) noPut) <|
     oMv (kc (.int .i64 8)) s006)) <|
    cExit 0)
    (cSeq (cReg 3 (
     oSeq (oLoad g003 s016) <|
     oSeq (oP (vEql g016 (kc (.int .u64 0))) s017) <|
     oMv g017 s015)) <|
    cCond g015
     (cSeq (cReg 3 (
      oSeq (oStore g004 (kc .nilSl) noPut) <|
      oSeq (oStore g005 (kc (.int .u64 0)) noPut) <|
      oMv (kc (.int .i64 30)) s006)) <|
     cExit 0)
     (cSkip)))) <|
  cSeq (cReg 4 (
   oSeq (oMv g000 s020) <|
   oSeq (oP (vLen g020) s021) <|
   oSeq (oGen (.mksl 52 1 8 [(.int .u64 0)] (.t 17) (.t 17)) 2 s022) <|
   oStore g004 g022 noPut)) <|
  cSeq (cSeq (cReg 2 (
   oSeq (oMv g000 s023) <|
   oCallF 221 (fun T => [g023 T]) s024)) <|
  cBlock 3 (cSlow 1000000 false 36 (.rangeFunc (.t 20) [21, 22] (.seq (.region [
    ⟨(some 7), .mv (.t 21), none⟩]) <|
   .region [
    ⟨(some 8), .mv (.t 22), none⟩]) (.block 2 (.draw [
      ⟨(some 24), .load none (.t 4), none, [(4, none)], 0, [(0, []), (1, [])]⟩,
      ⟨(some 25), .mv (.t 7), none, [(7, none)], 0, [(0, []), (1, [])]⟩,
      ⟨(some 26), .load none (.t 5), none, [(5, none)], 0, [(0, [])]⟩,
      ⟨(some 27), .mv (.t 8), none, [(8, none)], 0, [(0, [])]⟩,
      ⟨(some 28), .load none (.t 3), none, [(3, none)], 0, [(0, [])]⟩,
      ⟨(some 29), .call (.c (.fn (.func 222) [] [])) [(.t 26), (.t 27), (.t 28)], none, [(26, (some 2)), (27, (some 3)), (28, (some 4))], 2, [(0, [])]⟩,
      ⟨(some 23), .mv (.t 29), none, [(29, (some 5))], 0, [(1, [])]⟩,
      ⟨(some 30), .extract 0 (.t 23), none, [(23, (some 6))], 0, [(1, [])]⟩,
      ⟨(some 31), .extract 1 (.t 23), none, [(23, (some 6))], 0, [(1, []), (2, [])]⟩,
      ⟨(some 32), .indexAddr 1 (.t 24) (.t 25), none, [(24, (some 0)), (25, (some 1))], 0, [(1, [])]⟩,
      ⟨none, .store 1 (.t 32) (.t 30), none, [(32, (some 9)), (30, (some 7))], 2, [(1, [])]⟩,
      ⟨none, .store 1 (.t 5) (.t 31), none, [(5, none), (31, (some 8))], 2, [(2, [])]⟩] []))))) <|
  cSeq (cDrw 6 (
   dSeq (dLook 0 [] (oLoad g004 s041)) <|
   dSeq (dAct 0 [] (oCallF 212 (fun T => [g041 T]) s042)) <|
   dSeq (dLook 1 [] (oLoad g005 s043)) <|
   dSeq (dAct 0 [] (oStore g004 g042 noPut)) <|
   dSeq (dAct 0 [] (oStore g005 g043 noPut)) <|
   dSeq (dLook 0 [] (oMv (kc (.int .i64 0)) s006)) <|
   dNop)
   (ckSeq (ckOne g043 2 [] (oLoad g005 s043)) <|
  ckSeq (ckOne g043 1 [] (oLoad g005 s043)) <|
  ckNop) []) <|
  cExit 0⟩
noncomputable def ffn221 : FFn := ⟨1, 4, [(2, none)],
  cSeq (cReg 2 (
   oSeq (oBox 38 g000 0 s001) <|
   oMv (kc .nilFn) s002)) <|
  cSeq (cReg 2 (
   oSeq (oGen (.mkfn (.func 229) [] [(.t 1)]) 0 s003) <|
   oMv g003 s002)) <|
  cExit 0⟩
noncomputable def ffn229 : FFn := ⟨2, 19, [],
  cSeq (cReg 4 (
   oSeq (oLoad g001 s004) <|
   oSeq (oP (vLen g004) s005) <|
   oSeq (oP (vSub g005 (kc (.int .i64 1))) s006) <|
   oMv g006 s003)) <|
  cBlock 1 (cLoop 1000000 (cSeq (cSeq (cReg 2 (
     oSeq (oMv g003 s007) <|
     oP (vGeq g007 (kc (.int .i64 0))) s010)) <|
    cCond g010
     (cSkip)
     (cExit 1)) <|
    cSeq (cBlock 3 (cSeq (cReg 8 (
      oSeq (oMv g000 s013) <|
      oSeq (oMv g003 s014) <|
      oSeq (oLoad g001 s015) <|
      oSeq (oMv g003 s016) <|
      oSeq (oP (vIdx 1 g015 g016) s017) <|
      oSeq (oLoad g017 s020) <|
      oSeq (oCall g013 (fun T => [g014 T, g020 T]) s021) <|
      oGen (.un .not (.t 17)) 7 s022)) <|
     cCond g022
      (cExit 0)
      (cSkip))) <|
    cReg 3 (
     oSeq (oMv g003 s011) <|
     oSeq (oP (vSub g011 (kc (.int .i64 1))) s012) <|
     oMv g012 s003)))⟩
noncomputable def ffn222 : FFn := ⟨3, 135, [(6, none), (7, none)],
  cSeq (cReg 2 (
   oSeq (oMv (kc (.int .u64 0)) s006) <|
   oMv (kc (.int .u64 0)) s007)) <|
  cSeq (cSeq (cReg 2 (
   oSeq (oMv g002 s023) <|
   oP (vEql g023 (kc (.int .u64 0))) s024)) <|
  cCond g024
   (cReg 2 (
    oSeq (oGen (.bad) 0 s025) <|
    oGen (.panic (.t 21)) 1 noPut))
   (cSkip)) <|
  cSeq (cSeq (cReg 3 (
   oSeq (oMv g002 s026) <|
   oSeq (oMv g000 s027) <|
   oP (vLeq g026 g027) s030)) <|
  cCond g030
   (cReg 2 (
    oSeq (oGen (.bad) 0 s031) <|
    oGen (.panic (.t 25)) 1 noPut))
   (cSkip)) <|
  cSeq (cSeq (cReg 2 (
   oSeq (oMv g000 s032) <|
   oP (vEql g032 (kc (.int .u64 0))) s033)) <|
  cCond g033
   (cSeq (cDrw 8 (
    dSeq (dLook 0 [] (oMv g001 s034)) <|
    dSeq (dLook 0 [] (oMv g002 s035)) <|
    dSeq (dLook 0 [] (oGen (.bin .quo .int (.t 28) (.t 29)) 2 s036)) <|
    dSeq (dLook 0 [] (oMv g001 s037)) <|
    dSeq (dLook 0 [] (oMv g002 s040)) <|
    dSeq (dLook 0 [] (oGen (.bin .rem .int (.t 31) (.t 32)) 5 s041)) <|
    dSeq (dLook 0 [] (oMv g036 s006)) <|
    dSeq (dLook 0 [] (oMv g041 s007)) <|
    dNop)
    (ckNop) []) <|
   cExit 0)
   (cSkip)) <|
  cSeq (cReg 4 (
   oSeq (oMv g002 s042) <|
   oSeq (oCallF 206 (fun T => [g042 T]) s043) <|
   oSeq (oGen (.conv .u64 (.t 35)) 2 s044) <|
   oMv g044 s010)) <|
  cSeq (cReg 4 (
   oSeq (oMv g002 s045) <|
   oSeq (oMv g010 s046) <|
   oSeq (oGen (.bin .shl .int (.t 37) (.t 38)) 2 s047) <|
   oMv g047 s002)) <|
  cSeq (cReg 3 (
   oSeq (oMv g002 s050) <|
   oSeq (oGen (.bin .shr .int (.t 40) (.c (.int .u64 32))) 1 s051) <|
   oMv g051 s011)) <|
  cSeq (cReg 3 (
   oSeq (oMv g002 s052) <|
   oSeq (oGen (.bin .and .int (.t 42) (.c (.int .u64 4294967295))) 1 s053) <|
   oMv g053 s012)) <|
  cSeq (cReg 9 (
   oSeq (oMv g000 s054) <|
   oSeq (oMv g010 s055) <|
   oSeq (oGen (.bin .shl .int (.t 44) (.t 45)) 2 s056) <|
   oSeq (oMv g001 s057) <|
   oSeq (oMv g010 s060) <|
   oSeq (oP (vSub (kc (.int .u64 64)) g060) s061) <|
   oSeq (oGen (.bin .shr .int (.t 47) (.t 49)) 6 s062) <|
   oSeq (oGen (.bin .or .int (.t 46) (.t 50)) 7 s063) <|
   oMv g063 s013)) <|
  cSeq (cReg 4 (
   oSeq (oMv g001 s064) <|
   oSeq (oMv g010 s065) <|
   oSeq (oGen (.bin .shl .int (.t 52) (.t 53)) 2 s066) <|
   oMv g066 s014)) <|
  cSeq (cReg 3 (
   oSeq (oMv g014 s067) <|
   oSeq (oGen (.bin .shr .int (.t 55) (.c (.int .u64 32))) 1 s070) <|
   oMv g070 s015)) <|
  cSeq (cReg 3 (
   oSeq (oMv g014 s071) <|
   oSeq (oGen (.bin .and .int (.t 57) (.c (.int .u64 4294967295))) 1 s072) <|
   oMv g072 s016)) <|
  cSeq (cReg 4 (
   oSeq (oMv g013 s073) <|
   oSeq (oMv g011 s074) <|
   oSeq (oGen (.bin .quo .int (.t 59) (.t 60)) 2 s075) <|
   oMv g075 s017)) <|
  cSeq (cReg 6 (
   oSeq (oMv g013 s076) <|
   oSeq (oMv g017 s077) <|
   oSeq (oMv g011 s100) <|
   oSeq (oP (vMul g077 g100) s101) <|
   oSeq (oP (vSub g076 g101) s102) <|
   oMv g102 s020)) <|
  cSeq (cBlock 1 (cLoop 1000000 (cSeq (cSeq (cReg 12 (
     oSeq (oMv g017 s103) <|
     oSeq (oP (vGeq g103 (kc (.int .u64 4294967296))) s104) <|
     oSeq (oMv g104 s105) <|
     oSeq (oGuard g105 false s106 (oMv g017 s106)) <|
     oSeq (oGuard g105 false s107 (oMv g012 s107)) <|
     oSeq (oGuard g105 false s110 (oP (vMul g106 g107) s110)) <|
     oSeq (oGuard g105 false s111 (oMv g020 s111)) <|
     oSeq (oGuard g105 false s112 (oP (vMul (kc (.int .u64 4294967296)) g111) s112)) <|
     oSeq (oGuard g105 false s113 (oMv g015 s113)) <|
     oSeq (oGuard g105 false s114 (oP (vAdd g112 g113) s114)) <|
     oSeq (oGuard g105 false s115 (oP (vGtr g110 g114) s115)) <|
     oP (vPick g105 (kc (.bool true)) g115) s116)) <|
    cCond g116
     (cSkip)
     (cExit 1)) <|
    cBlock 3 (cSeq (cReg 3 (
      oSeq (oMv g017 s117) <|
      oSeq (oP (vSub g117 (kc (.int .u64 1))) s120) <|
      oMv g120 s017)) <|
     cSeq (cReg 4 (
      oSeq (oMv g020 s121) <|
      oSeq (oMv g011 s122) <|
      oSeq (oP (vAdd g121 g122) s123) <|
      oMv g123 s020)) <|
     cSeq (cReg 2 (
      oSeq (oMv g020 s124) <|
      oP (vGeq g124 (kc (.int .u64 4294967296))) s125)) <|
     cCond g125
      (cExit 1)
      (cSkip))))) <|
  cSeq (cReg 9 (
   oSeq (oMv g013 s126) <|
   oSeq (oP (vMul g126 (kc (.int .u64 4294967296))) s127) <|
   oSeq (oMv g015 s130) <|
   oSeq (oP (vAdd g127 g130) s131) <|
   oSeq (oMv g017 s132) <|
   oSeq (oMv g002 s133) <|
   oSeq (oP (vMul g132 g133) s134) <|
   oSeq (oP (vSub g131 g134) s135) <|
   oMv g135 s021)) <|
  cSeq (cReg 4 (
   oSeq (oMv g021 s136) <|
   oSeq (oMv g011 s137) <|
   oSeq (oGen (.bin .quo .int (.t 94) (.t 95)) 2 s140) <|
   oMv g140 s022)) <|
  cSeq (cReg 6 (
   oSeq (oMv g021 s141) <|
   oSeq (oMv g022 s142) <|
   oSeq (oMv g011 s143) <|
   oSeq (oP (vMul g142 g143) s144) <|
   oSeq (oP (vSub g141 g144) s145) <|
   oMv g145 s020)) <|
  cSeq (cBlock 5 (cLoop 1000000 (cSeq (cSeq (cReg 12 (
     oSeq (oMv g022 s146) <|
     oSeq (oP (vGeq g146 (kc (.int .u64 4294967296))) s147) <|
     oSeq (oMv g147 s150) <|
     oSeq (oGuard g150 false s151 (oMv g022 s151)) <|
     oSeq (oGuard g150 false s152 (oMv g012 s152)) <|
     oSeq (oGuard g150 false s153 (oP (vMul g151 g152) s153)) <|
     oSeq (oGuard g150 false s154 (oMv g020 s154)) <|
     oSeq (oGuard g150 false s155 (oP (vMul (kc (.int .u64 4294967296)) g154) s155)) <|
     oSeq (oGuard g150 false s156 (oMv g016 s156)) <|
     oSeq (oGuard g150 false s157 (oP (vAdd g155 g156) s157)) <|
     oSeq (oGuard g150 false s160 (oP (vGtr g153 g157) s160)) <|
     oP (vPick g150 (kc (.bool true)) g160) s161)) <|
    cCond g161
     (cSkip)
     (cExit 5)) <|
    cBlock 7 (cSeq (cReg 3 (
      oSeq (oMv g022 s162) <|
      oSeq (oP (vSub g162 (kc (.int .u64 1))) s163) <|
      oMv g163 s022)) <|
     cSeq (cReg 4 (
      oSeq (oMv g020 s164) <|
      oSeq (oMv g011 s165) <|
      oSeq (oP (vAdd g164 g165) s166) <|
      oMv g166 s020)) <|
     cSeq (cReg 2 (
      oSeq (oMv g020 s167) <|
      oP (vGeq g167 (kc (.int .u64 4294967296))) s170)) <|
     cCond g170
      (cExit 5)
      (cSkip))))) <|
  cSeq (cReg 16 (
   oSeq (oMv g017 s171) <|
   oSeq (oP (vMul g171 (kc (.int .u64 4294967296))) s172) <|
   oSeq (oMv g022 s173) <|
   oSeq (oP (vAdd g172 g173) s174) <|
   oSeq (oMv g021 s175) <|
   oSeq (oP (vMul g175 (kc (.int .u64 4294967296))) s176) <|
   oSeq (oMv g016 s177) <|
   oSeq (oP (vAdd g176 g177) s200) <|
   oSeq (oMv g022 s201) <|
   oSeq (oMv g002 s202) <|
   oSeq (oP (vMul g201 g202) s203) <|
   oSeq (oP (vSub g200 g203) s204) <|
   oSeq (oMv g010 s205) <|
   oSeq (oGen (.bin .shr .int (.t 132) (.t 133)) 13 s206) <|
   oSeq (oMv g174 s006) <|
   oMv g206 s007)) <|
  cExit 0⟩
noncomputable def ffn111 : FFn := ⟨1, 25, [(2, none)],
  cSeq (cReg 1 (
   oMv (kc (.int .i64 0)) s002)) <|
  cSeq (cSeq (cReg 2 (
   oSeq (oMv g000 s003) <|
   oP (vGeq g003 (kc (.int .u64 4294967296))) s004)) <|
  cCond g004
   (cSeq (cReg 3 (
    oSeq (oMv g000 s005) <|
    oSeq (oGen (.bin .shr .int (.t 5) (.c (.int .u64 32))) 1 s006) <|
    oMv g006 s000)) <|
   cReg 1 (
    oMv (kc (.int .i64 32)) s002))
   (cSkip)) <|
  cSeq (cSeq (cReg 2 (
   oSeq (oMv g000 s007) <|
   oP (vGeq g007 (kc (.int .u64 65536))) s010)) <|
  cCond g010
   (cSeq (cReg 3 (
    oSeq (oMv g000 s011) <|
    oSeq (oGen (.bin .shr .int (.t 9) (.c (.int .u64 16))) 1 s012) <|
    oMv g012 s000)) <|
   cReg 3 (
    oSeq (oMv g002 s013) <|
    oSeq (oP (vAdd g013 (kc (.int .i64 16))) s014) <|
    oMv g014 s002))
   (cSkip)) <|
  cSeq (cSeq (cReg 2 (
   oSeq (oMv g000 s015) <|
   oP (vGeq g015 (kc (.int .u64 256))) s016)) <|
  cCond g016
   (cSeq (cReg 3 (
    oSeq (oMv g000 s017) <|
    oSeq (oGen (.bin .shr .int (.t 15) (.c (.int .u64 8))) 1 s020) <|
    oMv g020 s000)) <|
   cReg 3 (
    oSeq (oMv g002 s021) <|
    oSeq (oP (vAdd g021 (kc (.int .i64 8))) s022) <|
    oMv g022 s002))
   (cSkip)) <|
  cSeq (cReg 7 (
   oSeq (oMv g002 s023) <|
   oSeq (oMv g000 s024) <|
   oSeq (oGen (.conv .u8 (.t 20)) 2 s025) <|
   oSeq (oGen (.indexStr (.c (.str ⟨#[0, 1, 2, 2, 3, 3, 3, 3, 4, 4, 4, 4, 4, 4, 4, 4, 5, 5, 5, 5, 5, 5, 5, 5, 5, 5, 5, 5, 5, 5, 5, 5, 6, 6, 6, 6, 6, 6, 6, 6, 6, 6, 6, 6, 6, 6, 6, 6, 6, 6, 6, 6, 6, 6, 6, 6, 6, 6, 6, 6, 6, 6, 6, 6, 7, 7, 7, 7, 7, 7, 7, 7, 7, 7, 7, 7, 7, 7, 7, 7, 7, 7, 7, 7, 7, 7, 7, 7, 7, 7, 7, 7, 7, 7, 7, 7, 7, 7, 7, 7, 7, 7, 7, 7, 7, 7, 7, 7, 7, 7, 7, 7, 7, 7, 7, 7, 7, 7, 7, 7, 7, 7, 7, 7, 7, 7, 7, 7, 8, 8, 8, 8, 8, 8, 8, 8, 8, 8, 8, 8, 8, 8, 8, 8, 8, 8, 8, 8, 8, 8, 8, 8, 8, 8, 8, 8, 8, 8, 8, 8, 8, 8, 8, 8, 8, 8, 8, 8, 8, 8, 8, 8, 8, 8, 8, 8, 8, 8, 8, 8, 8, 8, 8, 8, 8, 8, 8, 8, 8, 8, 8, 8, 8, 8, 8, 8, 8, 8, 8, 8, 8, 8, 8, 8, 8, 8, 8, 8, 8, 8, 8, 8, 8, 8, 8, 8, 8, 8, 8, 8, 8, 8, 8, 8, 8, 8, 8, 8, 8, 8, 8, 8, 8, 8, 8, 8, 8, 8, 8, 8, 8, 8, 8, 8, 8, 8, 8, 8, 8, 8, 8, 8, 8, 8, 8, 8]⟩)) (.t 21)) 3 s026) <|
   oSeq (oGen (.conv .i64 (.t 22)) 4 s027) <|
   oSeq (oP (vAdd g023 g027) s030) <|
   oMv g030 s002)) <|
  cExit 0⟩
noncomputable def ffn212 : FFn := ⟨1, 22, [(2, none)],
  cSeq (cReg 1 (
   oMv (kc .nilSl) s002)) <|
  cSeq (cBlock 1 (cLoop 1000000 (cSeq (cSeq (cReg 12 (
     oSeq (oMv g000 s003) <|
     oSeq (oP (vLen g003) s004) <|
     oSeq (oP (vGtr g004 (kc (.int .i64 0))) s005) <|
     oSeq (oMv g005 s006) <|
     oSeq (oGuard g006 true s007 (oMv g000 s007)) <|
     oSeq (oGuard g006 true s010 (oMv g000 s010)) <|
     oSeq (oGuard g006 true s011 (oP (vLen g010) s011)) <|
     oSeq (oGuard g006 true s012 (oP (vSub g011 (kc (.int .i64 1))) s012)) <|
     oSeq (oGuard g006 true s013 (oP (vIdx 1 g007 g012) s013)) <|
     oSeq (oGuard g006 true s014 (oLoad g013 s014)) <|
     oSeq (oGuard g006 true s015 (oP (vEql g014 (kc (.int .u64 0))) s015)) <|
     oP (vPick g006 g015 (kc (.bool false))) s016)) <|
    cCond g016
     (cSkip)
     (cExit 1)) <|
    cBlock 3 (cReg 6 (
      oSeq (oMv g000 s017) <|
      oSeq (oMv g000 s020) <|
      oSeq (oP (vLen g020) s021) <|
      oSeq (oP (vSub g021 (kc (.int .i64 1))) s022) <|
      oSeq (oGen (.slice 1 (.t 15) none (some (.t 18)) none) 4 s023) <|
      oMv g023 s000))))) <|
  cSeq (cReg 3 (
   oSeq (oMv g000 s024) <|
   oSeq (oCallF 60 (fun T => [g024 T]) s025) <|
   oMv g025 s002)) <|
  cExit 0⟩
noncomputable def ffn74 : FFn := ⟨1, 5, [(2, none)],
  cSeq (cReg 1 (
   oMv (kc .nilSl) s002)) <|
  cSeq (cReg 3 (
   oSeq (oMv g000 s003) <|
   oSeq (oCallF 96 (fun T => [g003 T, (.fn (.func 97) [] [])]) s004) <|
   oMv g004 s002)) <|
  cExit 0⟩
noncomputable def ffn97 : FFn := ⟨2, 11, [(4, (some (some 2)))],
  cSeq (cReg 2 (
   oSeq (oBox 40 g001 0 s003) <|
   oAlloc 40 [(.bool false), .nilSl] 1 s004)) <|
  cSeq (cDrw 7 (
   dSeq (dLook 0 [] (oP (vFA 0 g003) s005)) <|
   dSeq (dLook 0 [] (oLoad g005 s006)) <|
   dSeq (dLook 0 [] (oP (vFA 1 g003) s007)) <|
   dSeq (dLook 0 [] (oLoad g007 s010)) <|
   dSeq (dAct 0 [] (oCallF 98 (fun T => [g010 T]) s011)) <|
   dSeq (dLook 0 [] (oP (vBuild [(.bool false), .nilSl] [((0, 1), g006), ((1, 1), g011)]) s012)) <|
   dSeq (dAct 0 [] (oStoreN 2 g004 g012 noPut)) <|
   dNop)
   (ckSeq (ckOne g006 1 [] (oLoad g005 s006)) <|
  ckNop) []) <|
  cExit 0⟩
noncomputable def ffn131 : FFn := ⟨3, 16, [(5, (some (some 2)))],
  cSeq (cReg 2 (
   oSeq (oBox 40 g001 0 s004) <|
   oAlloc 40 [(.bool false), .nilSl] 1 s005)) <|
  cSeq (cReg 10 (
   oSeq (oLoadN 2 g004 s011) <|
   oSeq (oLoad g002 s012) <|
   oSeq (oP (vBuild [(.bool false), .nilSl] [((1, 1), g012)]) s013) <|
   oSeq (oCallF 132 (fun T => [g011 T, g013 T]) s014) <|
   oSeq (oMv g014 s010) <|
   oSeq (oP (vExt 0 g010) s015) <|
   oSeq (oP (vExt 1 g010) s016) <|
   oSeq (oAlloc 40 [(.bool false), .nilSl] 7 s006) <|
   oSeq (oStoreN 2 g006 g015 noPut) <|
   oMv g016 s007)) <|
  cSeq (cReg 2 (
   oSeq (oLoadN 2 g006 s017) <|
   oStoreN 2 g005 g017 noPut)) <|
  cExit 0⟩
noncomputable def ffn132 : FFn := ⟨2, 27, [(4, (some (some 2))), (5, none)],
  cSeq (cReg 4 (
   oSeq (oBox 40 g000 0 s002) <|
   oSeq (oBox 40 g001 1 s003) <|
   oSeq (oAlloc 40 [(.bool false), .nilSl] 2 s004) <|
   oMv (kc (.int .i64 0)) s005)) <|
  cSeq (cReg 13 (
   oSeq (oLoadN 2 g002 s013) <|
   oSeq (oLoadN 2 g003 s014) <|
   oSeq (oCallF 158 (fun T => [g013 T, g014 T]) s015) <|
   oSeq (oMv g015 s012) <|
   oSeq (oP (vExt 0 g012) s016) <|
   oSeq (oP (vExt 1 g012) s017) <|
   oSeq (oP (vExt 2 g012) s020) <|
   oSeq (oP (vExt 3 g012) s021) <|
   oSeq (oAlloc 40 [(.bool false), .nilSl] 8 s006) <|
   oSeq (oStoreN 2 g006 g016 noPut) <|
   oSeq (oMv g017 s007) <|
   oSeq (oMv g020 s010) <|
   oMv g021 s011)) <|
  cSeq (cBlock 1 (cSeq (cReg 3 (
    oSeq (oMv g011 s023) <|
    oSeq (oP (vNeq g023 (kc (.int .i64 0))) s024) <|
    oMv g024 s022)) <|
   cCond g022
    (cSeq (cReg 4 (
     oSeq (oP (vBuild [(.bool false), .nilSl] []) s025) <|
     oSeq (oMv g011 s026) <|
     oSeq (oStoreN 2 g004 g025 noPut) <|
     oMv g026 s005)) <|
    cExit 0)
    (cSeq (cReg 2 (
     oSeq (oMv g007 s030) <|
     oMv g030 s027)) <|
    cCond g027
     (cSeq (cReg 3 (
      oSeq (oP (vBuild [(.bool false), .nilSl] []) s031) <|
      oSeq (oStoreN 2 g004 g031 noPut) <|
      oMv (kc (.int .i64 6)) s005)) <|
     cExit 0)
     (cSkip)))) <|
  cSeq (cReg 3 (
   oSeq (oLoadN 2 g006 s032) <|
   oSeq (oStoreN 2 g004 g032 noPut) <|
   oMv (kc (.int .i64 0)) s005)) <|
  cExit 0⟩
noncomputable def ffn158 : FFn := ⟨2, 38, [(4, (some (some 2))), (5, none), (6, none), (7, none)],
  cSeq (cReg 6 (
   oSeq (oBox 40 g000 0 s002) <|
   oSeq (oBox 40 g001 1 s003) <|
   oSeq (oAlloc 40 [(.bool false), .nilSl] 2 s004) <|
   oSeq (oMv (kc (.bool false)) s005) <|
   oSeq (oMv (kc (.bool false)) s006) <|
   oMv (kc (.int .i64 0)) s007)) <|
  cSeq (cSeq (cReg 5 (
   oSeq (oLoadN 2 g002 s012) <|
   oSeq (oLoadN 2 g003 s013) <|
   oSeq (oBuildSlice 40 2 [(.bool false), .nilSl, (.bool false), .nilSl] 2 [((0, 2), g012), ((2, 2), g013)] 2 s014) <|
   oSeq (oCallF 139 (fun T => [g014 T]) s015) <|
   oMv g015 s007)) <|
  cSeq (cReg 2 (
   oSeq (oMv g007 s016) <|
   oP (vNeq g016 (kc (.int .i64 0))) s017)) <|
  cCond g017
   (cExit 0)
   (cSkip)) <|
  cSeq (cReg 12 (
   oSeq (oP (vFA 1 g002) s021) <|
   oSeq (oLoad g021 s022) <|
   oSeq (oP (vFA 1 g003) s023) <|
   oSeq (oLoad g023 s024) <|
   oSeq (oCallF 180 (fun T => [g022 T, g024 T]) s025) <|
   oSeq (oMv g025 s020) <|
   oSeq (oP (vExt 0 g020) s026) <|
   oSeq (oP (vExt 1 g020) s027) <|
   oSeq (oP (vExt 2 g020) s030) <|
   oSeq (oMv g026 s010) <|
   oSeq (oMv g027 s011) <|
   oMv g030 s007)) <|
  cSeq (cReg 6 (
   oSeq (oP (vFA 0 g002) s031) <|
   oSeq (oLoad g031 s032) <|
   oSeq (oP (vFA 0 g003) s033) <|
   oSeq (oLoad g033 s034) <|
   oSeq (oGen (.bin .neq .bool (.t 26) (.t 28)) 4 s035) <|
   oMv g035 s006)) <|
  cSeq (cReg 12 (
   oSeq (oMv g006 s036) <|
   oSeq (oMv g010 s037) <|
   oSeq (oCallF 20 (fun T => [g036 T, g037 T]) s040) <|
   oSeq (oMv g011 s041) <|
   oSeq (oP (vLen g041) s042) <|
   oSeq (oP (vGtr g042 (kc (.int .i64 0))) s043) <|
   oSeq (oMv g006 s044) <|
   oSeq (oMv g007 s045) <|
   oSeq (oStoreN 2 g004 g040 noPut) <|
   oSeq (oMv g043 s005) <|
   oSeq (oMv g044 s006) <|
   oMv g045 s007)) <|
  cExit 0⟩
noncomputable def ffn72 : FFn := ⟨3, 81, [(6, none)],
  cSeq (cReg 1 (
   oMv (kc .nilSl) s006)) <|
  cSeq (cReg 8 (
   oSeq (oMv g000 s014) <|
   oSeq (oGen (.nilCheck (.t 12)) 1 s015) <|
   oSeq (oP (vFA 0 g015) s016) <|
   oSeq (oLoad g016 s017) <|
   oSeq (oMv g002 s020) <|
   oSeq (oP (vIdx 1 g017 g020) s021) <|
   oSeq (oLoad g021 s022) <|
   oMv g022 s006)) <|
  cSeq (cReg 5 (
   oSeq (oMv g001 s023) <|
   oSeq (oMv g006 s024) <|
   oSeq (oCallF 70 (fun T => [g023 T, g024 T]) s025) <|
   oSeq (oAlloc 40 [(.bool false), .nilSl] 3 s007) <|
   oStoreN 2 g007 g025 noPut)) <|
  cSeq (cSeq (cReg 2 (
   oSeq (oP (vFA 0 g007) s026) <|
   oLoad g026 s027)) <|
  cCond g027
   (cSeq (cReg 7 (
    oSeq (oMv g006 s031) <|
    oSeq (oCallF 11 (fun _ => [(.int .i64 (-1))]) s032) <|
    oSeq (oCallF 92 (fun T => [g031 T, g032 T]) s033) <|
    oSeq (oMv g033 s030) <|
    oSeq (oP (vExt 0 g030) s034) <|
    oSeq (oP (vExt 1 g030) s035) <|
    oMv g034 s006)) <|
   cReg 3 (
    oSeq (oLoadN 2 g007 s036) <|
    oSeq (oCallF 91 (fun T => [g036 T]) s037) <|
    oStoreN 2 g007 g037 noPut))
   (cSkip)) <|
  cSeq (cReg 13 (
   oSeq (oMv g000 s040) <|
   oSeq (oMv g000 s041) <|
   oSeq (oGen (.nilCheck (.t 33)) 2 s042) <|
   oSeq (oP (vFA 0 g042) s043) <|
   oSeq (oLoad g043 s044) <|
   oSeq (oCallF 94 (fun T => [g044 T]) s045) <|
   oSeq (oMv g002 s046) <|
   oSeq (oMv g002 s047) <|
   oSeq (oP (vAdd g047 (kc (.int .i64 1))) s050) <|
   oSeq (oCallF 93 (fun T => [g045 T, g046 T, g050 T]) s051) <|
   oSeq (oGen (.nilCheck (.t 32)) 10 s052) <|
   oSeq (oP (vFA 0 g052) s053) <|
   oStore g053 g051 noPut)) <|
  cSeq (cSeq (cDrw 9 (
   dSeq (dLook 0 [] (oMv g000 s054)) <|
   dSeq (dLook 0 [] (oGen (.nilCheck (.t 44)) 1 s055)) <|
   dSeq (dLook 0 [] (oP (vFA 0 g055) s056)) <|
   dSeq (dLook 0 [] (oMv g000 s057)) <|
   dSeq (dLook 0 [] (oGen (.nilCheck (.t 47)) 4 s060)) <|
   dSeq (dLook 0 [] (oP (vFA 1 g060) s061)) <|
   dSeq (dMake 6 (oBuildSlice 131 1 [.nilPtr, .nilPtr] 2 [((0, 1), g056), ((1, 1), g061)] 6 s062)) <|
   dSeq (dLook 0 [] (oP (vLen g062) s063)) <|
   dSeq (dLook 0 [] (oMv (kc (.int .i64 0)) s064)) <|
   dNop)
   (ckNop) [(6, 2)]) <|
  cBlock 1 (cLoop 1000000 (cSeq (cReg 1 (
     oP (vLss g064 g063) s065)) <|
    cSeq (cCond g065
     (cSkip)
     (cExit 1)) <|
    cSeq (cBlock 3 (cSeq (cReg 3 (
      oSeq (oP (vIdx 1 g062 g064) s066) <|
      oSeq (oLoad g066 s067) <|
      oMv g067 s011)) <|
     cSeq (cReg 5 (
      oSeq (oMv g011 s070) <|
      oSeq (oGen (.nilCheck (.t 56)) 1 s071) <|
      oSeq (oLoad g071 s072) <|
      oSeq (oP (vLen g072) s073) <|
      oMv (kc (.int .i64 0)) s074)) <|
     cBlock 5 (cLoop 1000000 (cSeq (cReg 1 (
        oP (vLss g074 g073) s075)) <|
       cSeq (cCond g075
        (cSkip)
        (cExit 5)) <|
       cSeq (cBlock 7 (cSeq (cReg 5 (
         oSeq (oMv g074 s076) <|
         oSeq (oP (vIdx 1 g072 g074) s077) <|
         oSeq (oLoad g077 s100) <|
         oSeq (oMv g076 s012) <|
         oMv g100 s013)) <|
        cDrw 14 (
         dSeq (dLook 0 [] (oMv g011 s101)) <|
         dSeq (dLook 0 [] (oGen (.nilCheck (.t 65)) 1 s102)) <|
         dSeq (dLook 0 [] (oLoad g102 s103)) <|
         dSeq (dLook 0 [] (oMv g012 s104)) <|
         dSeq (dLook 0 [] (oLoadN 2 g007 s105)) <|
         dSeq (dLook 0 [] (oMv g013 s106)) <|
         dSeq (dLook 0 [] (oMv g001 s107)) <|
         dSeq (dLook 0 [] (oMv g013 s110)) <|
         dSeq (dAct 0 [] (oCallF 70 (fun T => [g107 T, g110 T]) s111)) <|
         dSeq (dAct 0 [] (oCallF 91 (fun T => [g111 T]) s112)) <|
         dSeq (dLook 0 [] (oMv g006 s113)) <|
         dSeq (dAct 0 [] (oCallF 90 (fun T => [g105 T, g106 T, g112 T, g113 T]) s114)) <|
         dSeq (dLook 0 [] (oP (vIdx 1 g103 g104) s115)) <|
         dSeq (dAct 0 [] (oStore g115 g114 noPut)) <|
         dNop)
         (ckSeq (ckOne g103 3 [] (oLoad g102 s103)) <|
        ckSeq (ckOne g103 2 [] (oLoad g102 s103)) <|
        ckSeq (ckOne g103 1 [] (oLoad g102 s103)) <|
        ckSeq (ckOne g105 3 [] (oLoadN 2 g007 s105)) <|
        ckSeq (ckOne g105 2 [] (oLoadN 2 g007 s105)) <|
        ckNop) [])) <|
       cReg 2 (
        oSeq (oP (vAdd g074 (kc (.int .i64 1))) s116) <|
        oMv g116 s074))))) <|
    cReg 2 (
     oSeq (oP (vAdd g064 (kc (.int .i64 1))) s117) <|
     oMv g117 s064)))) <|
  cSeq (cReg 2 (
   oSeq (oMv g006 s120) <|
   oMv g120 s006)) <|
  cExit 0⟩
noncomputable def ffn94 : FFn := ⟨1, 8, [(2, none)],
  cSeq (cReg 1 (
   oMv (kc .nilSl) s002)) <|
  cSeq (cSeq (cReg 2 (
   oSeq (oMv g000 s003) <|
   oGen (.bin .eql .sl (.t 3) (.c .nilSl)) 1 s004)) <|
  cCond g004
   (cSeq (cReg 1 (
    oMv (kc .nilSl) s002)) <|
   cExit 0)
   (cSkip)) <|
  cSeq (cReg 4 (
   oSeq (oBuildSlice 36 1 [] 0 [] 0 s005) <|
   oSeq (oMv g000 s006) <|
   oSeq (oGen (.append 1 24 36 [.nilSl] (.t 5) (.t 6)) 2 s007) <|
   oMv g007 s002)) <|
  cExit 0⟩
noncomputable def ffn93 : FFn := ⟨3, 33, [(6, none)],
  cSeq (cReg 1 (
   oMv (kc .nilSl) s006)) <|
  cSeq (cReg 6 (
   oSeq (oMv g000 s010) <|
   oSeq (oMv g001 s011) <|
   oSeq (oMv g002 s012) <|
   oSeq (oMv g000 s013) <|
   oSeq (oP (vLen g013) s014) <|
   oGen (.slice 1 (.t 8) (some (.t 9)) (some (.t 10)) (some (.t 12))) 5 s015)) <|
  cSeq (cSeq (cReg 3 (
   oSeq (oMv g001 s016) <|
   oSeq (oMv g002 s017) <|
   oP (vEql g016 g017) s020)) <|
  cCond g020
   (cSeq (cReg 2 (
    oSeq (oMv g000 s021) <|
    oMv g021 s006)) <|
   cExit 0)
   (cSkip)) <|
  cSeq (cReg 3 (
   oSeq (oMv g000 s022) <|
   oSeq (oP (vLen g022) s023) <|
   oMv g023 s007)) <|
  cSeq (cDrw 8 (
   dSeq (dLook 0 [] (oMv g000 s024)) <|
   dSeq (dLook 0 [] (oMv g001 s025)) <|
   dSeq (dLook 0 [] (oGen (.slice 1 (.t 20) none (some (.t 21)) none) 2 s026)) <|
   dSeq (dLook 0 [] (oMv g000 s027)) <|
   dSeq (dLook 0 [] (oMv g002 s030)) <|
   dSeq (dLook 0 [] (oGen (.slice 1 (.t 23) (some (.t 24)) none none) 5 s031)) <|
   dSeq (dAct 0 [] (oGen (.append 1 24 36 [.nilSl] (.t 22) (.t 25)) 6 s032)) <|
   dSeq (dLook 0 [] (oMv g032 s000)) <|
   dNop)
   (ckNop) []) <|
  cSeq (cReg 6 (
   oSeq (oMv g000 s033) <|
   oSeq (oMv g000 s034) <|
   oSeq (oP (vLen g034) s035) <|
   oSeq (oMv g007 s036) <|
   oSeq (oGen (.slice 1 (.t 27) (some (.t 29)) (some (.t 30)) none) 4 s037) <|
   oGen (.clear 1 [.nilSl] (.t 31)) 5 noPut)) <|
  cSeq (cReg 2 (
   oSeq (oMv g000 s040) <|
   oMv g040 s006)) <|
  cExit 0⟩
noncomputable def ffn49 : FFn := ⟨1, 15, [(2, none), (3, none)],
  cSeq (cReg 2 (
   oSeq (oMv (kc .nilSl) s002) <|
   oMv (kc (.int .i64 0)) s003)) <|
  cSeq (cSeq (cReg 3 (
   oSeq (oMv g000 s005) <|
   oSeq (oCallF 67 (fun T => [g005 T]) s006) <|
   oMv g006 s004)) <|
  cSeq (cReg 2 (
   oSeq (oMv g004 s007) <|
   oP (vNeq g007 (kc (.int .i64 0))) s010)) <|
  cCond g010
   (cSeq (cReg 3 (
    oSeq (oMv g004 s011) <|
    oSeq (oMv (kc .nilSl) s002) <|
    oMv g011 s003)) <|
   cExit 0)
   (cSkip)) <|
  cSeq (cReg 7 (
   oSeq (oMv g000 s012) <|
   oSeq (oCallF 73 (fun T => [g012 T]) s013) <|
   oSeq (oGen (.nilCheck (.t 11)) 2 s014) <|
   oSeq (oP (vFA 0 g014) s015) <|
   oSeq (oLoad g015 s016) <|
   oSeq (oMv g016 s002) <|
   oMv (kc (.int .i64 0)) s003)) <|
  cExit 0⟩
noncomputable def ffn73 : FFn := ⟨1, 22, [(2, none)],
  cSeq (cReg 1 (
   oMv (kc .nilPtr) s002)) <|
  cSeq (cReg 3 (
   oSeq (oP (vBuild [.nilSl] []) s007) <|
   oSeq (oBox 105 g007 1 s010) <|
   oMv g010 s003)) <|
  cSeq (cReg 3 (
   oSeq (oMv g003 s011) <|
   oSeq (oGen (.mkfn (.func 95) [(.t 9)] []) 1 s012) <|
   oMv g012 s004)) <|
  cSeq (cSeq (cReg 3 (
   oSeq (oMv g000 s013) <|
   oSeq (oP (vLen g013) s014) <|
   oMv (kc (.int .i64 0)) s015)) <|
  cBlock 1 (cLoop 1000000 (cSeq (cReg 1 (
     oP (vLss g015 g014) s016)) <|
    cSeq (cCond g016
     (cSkip)
     (cExit 1)) <|
    cSeq (cBlock 3 (cSeq (cReg 3 (
      oSeq (oP (vIdx 1 g013 g015) s017) <|
      oSeq (oLoad g017 s020) <|
      oMv g020 s006)) <|
     cReg 3 (
      oSeq (oMv g004 s021) <|
      oSeq (oMv g006 s022) <|
      oCall g021 (fun T => [g022 T]) s023))) <|
    cReg 2 (
     oSeq (oP (vAdd g015 (kc (.int .i64 1))) s024) <|
     oMv g024 s015)))) <|
  cSeq (cReg 2 (
   oSeq (oMv g003 s025) <|
   oMv g025 s002)) <|
  cExit 0⟩
noncomputable def ffn95 : FFn := ⟨2, 79, [],
  cSeq (cReg 4 (
   oSeq (oMv g000 s010) <|
   oSeq (oMv g001 s011) <|
   oSeq (oCallF 75 (fun T => [g010 T, g011 T]) s012) <|
   oMv g012 s001)) <|
  cSeq (cReg 3 (
   oSeq (oMv g001 s013) <|
   oSeq (oCallF 101 (fun T => [g013 T]) s014) <|
   oMv g014 s004)) <|
  cSeq (cSeq (cReg 2 (
   oSeq (oMv g004 s015) <|
   oP (vLss g015 (kc (.int .i64 0))) s016)) <|
  cCond g016
   (cExit 0)
   (cSkip)) <|
  cSeq (cSeq (cReg 5 (
   oSeq (oMv g001 s017) <|
   oSeq (oMv g004 s020) <|
   oSeq (oP (vIdx 2 g017 g020) s021) <|
   oSeq (oP (vFA 0 g021) s022) <|
   oLoad g022 s023)) <|
  cCond g023
   (cReg 7 (
    oSeq (oMv g001 s025) <|
    oSeq (oCallF 11 (fun _ => [(.int .i64 (-1))]) s026) <|
    oSeq (oCallF 92 (fun T => [g025 T, g026 T]) s027) <|
    oSeq (oMv g027 s024) <|
    oSeq (oP (vExt 0 g024) s030) <|
    oSeq (oP (vExt 1 g024) s031) <|
    oMv g030 s001))
   (cSkip)) <|
  cSeq (cSeq (cReg 6 (
   oSeq (oMv g000 s032) <|
   oSeq (oGen (.nilCheck (.t 26)) 1 s033) <|
   oSeq (oP (vFA 0 g033) s034) <|
   oSeq (oLoad g034 s035) <|
   oSeq (oP (vLen g035) s036) <|
   oMv (kc (.int .i64 0)) s037)) <|
  cBlock 1 (cLoop 1000000 (cSeq (cReg 1 (
     oP (vLss g037 g036) s040)) <|
    cSeq (cCond g040
     (cSkip)
     (cExit 1)) <|
    cSeq (cBlock 3 (cSeq (cReg 5 (
      oSeq (oMv g037 s041) <|
      oSeq (oP (vIdx 1 g035 g037) s042) <|
      oSeq (oLoad g042 s043) <|
      oSeq (oMv g041 s005) <|
      oMv g043 s006)) <|
     cDrw 11 (
      dSeq (dLook 0 [] (oMv g000 s044)) <|
      dSeq (dLook 0 [] (oGen (.nilCheck (.t 36)) 1 s045)) <|
      dSeq (dLook 0 [] (oP (vFA 0 g045) s046)) <|
      dSeq (dLook 0 [] (oLoad g046 s047)) <|
      dSeq (dLook 0 [] (oMv g005 s050)) <|
      dSeq (dLook 0 [] (oMv g006 s051)) <|
      dSeq (dLook 0 [] (oMv g001 s052)) <|
      dSeq (dLook 0 [] (oMv g004 s053)) <|
      dSeq (dAct 0 [] (oCallF 100 (fun T => [g051 T, g052 T, g053 T]) s054)) <|
      dSeq (dLook 0 [] (oP (vIdx 1 g047 g050) s055)) <|
      dSeq (dAct 0 [] (oStore g055 g054 noPut)) <|
      dNop)
      (ckSeq (ckOne g047 1 [] (oLoad g046 s047)) <|
     ckNop) [])) <|
    cReg 2 (
     oSeq (oP (vAdd g037 (kc (.int .i64 1))) s056) <|
     oMv g056 s037)))) <|
  cSeq (cReg 1 (
   oMv (kc (.int .i64 0)) s007)) <|
  cSeq (cBlock 5 (cLoop 1000000 (cSeq (cSeq (cReg 19 (
     oSeq (oMv g007 s057) <|
     oSeq (oMv g000 s060) <|
     oSeq (oGen (.nilCheck (.t 48)) 2 s061) <|
     oSeq (oP (vFA 0 g061) s062) <|
     oSeq (oLoad g062 s063) <|
     oSeq (oP (vLen g063) s064) <|
     oSeq (oP (vLss g057 g064) s065) <|
     oSeq (oMv g065 s066) <|
     oSeq (oGuard g066 true s067 (oMv g000 s067)) <|
     oSeq (oGuard g066 true s070 (oGen (.nilCheck (.t 55)) 9 s070)) <|
     oSeq (oGuard g066 true s071 (oP (vFA 0 g070) s071)) <|
     oSeq (oGuard g066 true s072 (oLoad g071 s072)) <|
     oSeq (oGuard g066 true s073 (oMv g007 s073)) <|
     oSeq (oGuard g066 true s074 (oP (vIdx 1 g072 g073) s074)) <|
     oSeq (oGuard g066 true s075 (oLoad g074 s075)) <|
     oSeq (oGuard g066 true s076 (oCallF 101 (fun T => [g075 T]) s076)) <|
     oSeq (oGuard g066 true s077 (oMv g004 s077)) <|
     oSeq (oGuard g066 true s100 (oCallF 128 (fun T => [g076 T, g077 T]) s100)) <|
     oP (vPick g066 g100 (kc (.bool false))) s101)) <|
    cCond g101
     (cSkip)
     (cExit 5)) <|
    cBlock 7 (cReg 3 (
      oSeq (oMv g007 s102) <|
      oSeq (oP (vAdd g102 (kc (.int .i64 1))) s103) <|
      oMv g103 s007))))) <|
  cReg 12 (
   oSeq (oMv g000 s104) <|
   oSeq (oMv g000 s105) <|
   oSeq (oGen (.nilCheck (.t 69)) 2 s106) <|
   oSeq (oP (vFA 0 g106) s107) <|
   oSeq (oLoad g107 s110) <|
   oSeq (oMv g007 s111) <|
   oSeq (oMv g001 s112) <|
   oSeq (oBuildSlice 36 1 [.nilSl] 1 [((0, 1), g112)] 7 s113) <|
   oSeq (oCallF 129 (fun T => [g110 T, g111 T, g113 T]) s114) <|
   oSeq (oGen (.nilCheck (.t 68)) 9 s115) <|
   oSeq (oP (vFA 0 g115) s116) <|
   oStore g116 g114 noPut)⟩
noncomputable def ffn75 : FFn := ⟨2, 28, [(4, none)],
  cSeq (cReg 1 (
   oMv (kc .nilSl) s004)) <|
  cSeq (cReg 6 (
   oSeq (oMv g001 s010) <|
   oSeq (oCallF 99 (fun T => [g010 T]) s011) <|
   oSeq (oMv g011 s007) <|
   oSeq (oP (vExt 0 g007) s012) <|
   oSeq (oP (vExt 1 g007) s013) <|
   oMv g012 s001)) <|
  cSeq (cSeq (cReg 6 (
   oSeq (oMv g000 s014) <|
   oSeq (oGen (.nilCheck (.t 12)) 1 s015) <|
   oSeq (oP (vFA 0 g015) s016) <|
   oSeq (oLoad g016 s017) <|
   oSeq (oP (vLen g017) s020) <|
   oMv (kc (.int .i64 0)) s021)) <|
  cBlock 1 (cLoop 1000000 (cSeq (cReg 1 (
     oP (vLss g021 g020) s022)) <|
    cSeq (cCond g022
     (cSkip)
     (cExit 1)) <|
    cSeq (cBlock 3 (cSeq (cReg 3 (
      oSeq (oP (vIdx 1 g017 g021) s023) <|
      oSeq (oLoad g023 s024) <|
      oMv g024 s006)) <|
     cReg 6 (
      oSeq (oMv g001 s025) <|
      oSeq (oMv g006 s026) <|
      oSeq (oMv g006 s027) <|
      oSeq (oCallF 101 (fun T => [g027 T]) s030) <|
      oSeq (oCallF 100 (fun T => [g025 T, g026 T, g030 T]) s031) <|
      oMv g031 s001))) <|
    cReg 2 (
     oSeq (oP (vAdd g021 (kc (.int .i64 1))) s032) <|
     oMv g032 s021)))) <|
  cSeq (cReg 2 (
   oSeq (oMv g001 s033) <|
   oMv g033 s004)) <|
  cExit 0⟩
noncomputable def ffn101 : FFn := ⟨1, 16, [(2, (some none))],
  cSeq (cReg 2 (
   oSeq (oBox 36 g000 0 s001) <|
   oAlloc 3 [(.int .i64 0)] 1 s002)) <|
  cSeq (cSeq (cReg 3 (
   oSeq (oLoad g001 s004) <|
   oSeq (oP (vLen g004) s005) <|
   oCallF 133 (fun T => [g005 T]) s006)) <|
  cBlock 1 (cSlow 1000000 false 16 (.rangeFunc (.t 6) [7] (.region [
    ⟨(some 3), .mv (.t 7), none⟩]) (.block 1 (.seq (.region [
      ⟨(some 8), .load none (.t 1), none⟩,
      ⟨(some 9), .mv (.t 3), none⟩,
      ⟨(some 10), .indexAddr 2 (.t 8) (.t 9), none⟩,
      ⟨(some 11), .fieldAddr 1 (.t 10), none⟩,
      ⟨(some 12), .load none (.t 11), none⟩,
      ⟨(some 13), .len (.t 12), none⟩,
      ⟨(some 14), .bin .gtr .int (.t 13) (.c (.int .i64 0)), none⟩]) <|
     .cond (.t 14)
      (.seq (.region [
       ⟨(some 15), .mv (.t 3), none⟩,
       ⟨none, .store 1 (.t 2) (.t 15), none⟩]) <|
      .ret)
      (.skip)))))) <|
  cSeq (cReg 1 (
   oStore g002 (kc (.int .i64 (-1))) noPut)) <|
  cExit 0⟩
noncomputable def ffn133 : FFn := ⟨1, 4, [(2, none)],
  cSeq (cReg 2 (
   oSeq (oBox 3 g000 0 s001) <|
   oMv (kc .nilFn) s002)) <|
  cSeq (cReg 2 (
   oSeq (oGen (.mkfn (.func 159) [] [(.t 1)]) 0 s003) <|
   oMv g003 s002)) <|
  cExit 0⟩
noncomputable def ffn159 : FFn := ⟨2, 17, [],
  cSeq (cSeq (cReg 1 (
   oMv (kc (.int .i64 1)) s003)) <|
  cBlock 1 (cLoop 1000000 (cSeq (cSeq (cReg 3 (
     oSeq (oMv g003 s004) <|
     oSeq (oLoad g001 s005) <|
     oP (vLss g004 g005) s006)) <|
    cCond g006
     (cSkip)
     (cExit 1)) <|
    cSeq (cBlock 3 (cSeq (cReg 4 (
      oSeq (oMv g000 s011) <|
      oSeq (oMv g003 s012) <|
      oSeq (oCall g011 (fun T => [g012 T]) s013) <|
      oGen (.un .not (.t 11)) 3 s014)) <|
     cCond g014
      (cExit 0)
      (cSkip))) <|
    cReg 3 (
     oSeq (oMv g003 s007) <|
     oSeq (oP (vAdd g007 (kc (.int .i64 1))) s010) <|
     oMv g010 s003)))) <|
  cSeq (cReg 2 (
   oSeq (oLoad g001 s015) <|
   oP (vGtr g015 (kc (.int .i64 0))) s016)) <|
  cCond g016
   (cReg 2 (
    oSeq (oMv g000 s017) <|
    oCall g017 (fun _ => [(.int .i64 0)]) s020))
   (cSkip)⟩
noncomputable def ffn100 : FFn := ⟨3, 44, [(6, none)],
  cSeq (cReg 1 (
   oMv (kc .nilSl) s006)) <|
  cSeq (cSeq (cReg 7 (
   oSeq (oMv g000 s013) <|
   oSeq (oMv g002 s014) <|
   oSeq (oP (vIdx 2 g013 g014) s015) <|
   oSeq (oP (vFA 1 g015) s016) <|
   oSeq (oLoad g016 s017) <|
   oSeq (oP (vLen g017) s020) <|
   oP (vEql g020 (kc (.int .i64 0))) s021)) <|
  cCond g021
   (cSeq (cReg 2 (
    oSeq (oMv g000 s022) <|
    oMv g022 s006)) <|
   cExit 0)
   (cSkip)) <|
  cSeq (cReg 11 (
   oSeq (oMv g000 s024) <|
   oSeq (oMv g002 s025) <|
   oSeq (oP (vIdx 2 g024 g025) s026) <|
   oSeq (oLoadN 2 g026 s027) <|
   oSeq (oCallF 126 (fun T => [g027 T]) s030) <|
   oSeq (oMv g030 s023) <|
   oSeq (oP (vExt 0 g023) s031) <|
   oSeq (oP (vExt 1 g023) s032) <|
   oSeq (oAlloc 40 [(.bool false), .nilSl] 8 s007) <|
   oSeq (oStoreN 2 g007 g031 noPut) <|
   oMv g032 s010)) <|
  cSeq (cDrw 13 (
   dSeq (dLook 0 [] (oMv g001 s034)) <|
   dSeq (dLook 0 [] (oMv g002 s035)) <|
   dSeq (dLook 0 [] (oP (vIdx 2 g034 g035) s036)) <|
   dSeq (dLook 0 [] (oLoadN 2 g036 s037)) <|
   dSeq (dLook 0 [] (oMv g000 s040)) <|
   dSeq (dLook 0 [] (oLoadN 2 g007 s041)) <|
   dSeq (dLook 0 [] (oMv g001 s042)) <|
   dSeq (dAct 0 [] (oCallF 125 (fun T => [g037 T, g040 T, g041 T, g042 T]) s043)) <|
   dSeq (dLook 0 [] (oMv g043 s033)) <|
   dSeq (dLook 0 [] (oP (vExt 0 g033) s044)) <|
   dSeq (dLook 0 [] (oP (vExt 1 g033) s045)) <|
   dSeq (dLook 0 [] (oMv g044 s011)) <|
   dSeq (dLook 0 [] (oMv g045 s012)) <|
   dNop)
   (ckNop) []) <|
  cSeq (cReg 6 (
   oSeq (oMv g011 s047) <|
   oSeq (oCallF 99 (fun T => [g047 T]) s050) <|
   oSeq (oMv g050 s046) <|
   oSeq (oP (vExt 0 g046) s051) <|
   oSeq (oP (vExt 1 g046) s052) <|
   oMv g051 s011)) <|
  cSeq (cReg 2 (
   oSeq (oMv g011 s053) <|
   oMv g053 s006)) <|
  cExit 0⟩
noncomputable def ffn128 : FFn := ⟨2, 21, [(4, none)],
  cSeq (cReg 1 (
   oMv (kc (.bool false)) s004)) <|
  cSeq (cReg 17 (
   oSeq (oMv g000 s005) <|
   oSeq (oMv g001 s006) <|
   oSeq (oP (vNeq g005 g006) s007) <|
   oSeq (oMv g007 s010) <|
   oSeq (oGuard g010 true s011 (oMv g000 s011)) <|
   oSeq (oGuard g010 true s012 (oP (vNeq g011 (kc (.int .i64 0))) s012)) <|
   oSeq (oP (vPick g010 g012 (kc (.bool false))) s013) <|
   oSeq (oMv g013 s014) <|
   oSeq (oGuard g014 true s015 (oMv g001 s015)) <|
   oSeq (oGuard g014 true s016 (oP (vEql g015 (kc (.int .i64 0))) s016)) <|
   oSeq (oGuard g014 true s017 (oMv g016 s017)) <|
   oSeq (oGuard g017 false s020 (oMv g000 s020)) <|
   oSeq (oGuard g017 false s021 (oMv g001 s021)) <|
   oSeq (oGuard g017 false s022 (oP (vLss g020 g021) s022)) <|
   oSeq (oGuard g014 true s023 (oP (vPick g017 (kc (.bool true)) g022) s023)) <|
   oSeq (oP (vPick g014 g023 (kc (.bool false))) s024) <|
   oMv g024 s004)) <|
  cExit 0⟩
noncomputable def ffn50 : FFn := ⟨2, 36, [(4, none), (5, none)],
  cSeq (cReg 2 (
   oSeq (oMv (kc .nilSl) s004) <|
   oMv (kc (.int .i64 0)) s005)) <|
  cSeq (cSeq (cReg 3 (
   oSeq (oMv g001 s010) <|
   oSeq (oCallF 67 (fun T => [g010 T]) s011) <|
   oMv g011 s006)) <|
  cSeq (cReg 2 (
   oSeq (oMv g006 s012) <|
   oP (vNeq g012 (kc (.int .i64 0))) s013)) <|
  cCond g013
   (cSeq (cReg 3 (
    oSeq (oMv g006 s014) <|
    oSeq (oMv (kc .nilSl) s004) <|
    oMv g014 s005)) <|
   cExit 0)
   (cSkip)) <|
  cSeq (cSeq (cReg 4 (
   oSeq (oMv g000 s015) <|
   oSeq (oBuildSlice 36 1 [.nilSl] 1 [((0, 1), g015)] 1 s016) <|
   oSeq (oCallF 67 (fun T => [g016 T]) s017) <|
   oMv g017 s007)) <|
  cSeq (cReg 2 (
   oSeq (oMv g007 s020) <|
   oP (vNeq g020 (kc (.int .i64 0))) s021)) <|
  cCond g021
   (cSeq (cReg 3 (
    oSeq (oMv g007 s022) <|
    oSeq (oMv (kc .nilSl) s004) <|
    oMv g022 s005)) <|
   cExit 0)
   (cSkip)) <|
  cSeq (cSeq (cReg 12 (
   oSeq (oMv g001 s023) <|
   oSeq (oP (vLen g023) s024) <|
   oSeq (oP (vGtr g024 (kc (.int .i64 0))) s025) <|
   oSeq (oMv g025 s026) <|
   oSeq (oGuard g026 true s027 (oMv g001 s027)) <|
   oSeq (oGuard g026 true s030 (oP (vIdx 1 g027 (kc (.int .i64 0))) s030)) <|
   oSeq (oGuard g026 true s031 (oLoad g030 s031)) <|
   oSeq (oGuard g026 true s032 (oP (vLen g031) s032)) <|
   oSeq (oGuard g026 true s033 (oMv g000 s033)) <|
   oSeq (oGuard g026 true s034 (oP (vLen g033) s034)) <|
   oSeq (oGuard g026 true s035 (oP (vNeq g032 g034) s035)) <|
   oP (vPick g026 g035 (kc (.bool false))) s036)) <|
  cCond g036
   (cSeq (cReg 2 (
    oSeq (oMv (kc .nilSl) s004) <|
    oMv (kc (.int .i64 70)) s005)) <|
   cExit 0)
   (cSkip)) <|
  cSeq (cReg 7 (
   oSeq (oMv g001 s037) <|
   oSeq (oCallF 73 (fun T => [g037 T]) s040) <|
   oSeq (oMv g000 s041) <|
   oSeq (oCallF 75 (fun T => [g040 T, g041 T]) s042) <|
   oSeq (oCallF 74 (fun T => [g042 T]) s043) <|
   oSeq (oMv g043 s004) <|
   oMv (kc (.int .i64 0)) s005)) <|
  cExit 0⟩
noncomputable def ffn51 : FFn := ⟨2, 14, [],
  cSeq (cReg 3 (
   oSeq (oMv g000 s005) <|
   oSeq (oP (vLen g005) s006) <|
   oMv g006 s004)) <|
  cReg 7 (
   oSeq (oMv g000 s007) <|
   oSeq (oMv g004 s010) <|
   oSeq (oMv g004 s011) <|
   oSeq (oGen (.conv .u64 (.t 9)) 3 s012) <|
   oSeq (oCallF 77 (fun T => [g012 T]) s013) <|
   oSeq (oMv g001 s014) <|
   oCallF 76 (fun T => [g007 T, (.int .i64 0), g010 T, g013 T, g014 T]) s015)⟩
noncomputable def ffn77 : FFn := ⟨1, 8, [(2, none)],
  cSeq (cReg 1 (
   oMv (kc (.int .i64 0)) s002)) <|
  cSeq (cCond (kc (.bool false))
   (cSeq (cReg 4 (
    oSeq (oMv g000 s003) <|
    oSeq (oGen (.conv .u32 (.t 3)) 1 s004) <|
    oSeq (oCallF 110 (fun T => [g004 T]) s005) <|
    oMv g005 s002)) <|
   cExit 0)
   (cSkip)) <|
  cSeq (cReg 3 (
   oSeq (oMv g000 s006) <|
   oSeq (oCallF 111 (fun T => [g006 T]) s007) <|
   oMv g007 s002)) <|
  cExit 0⟩
noncomputable def ffn76 : FFn := ⟨5, 148, [],
  cSeq (cReg 1 (
   oMv (kc (.bool true)) s012)) <|
  cSeq (cReg 1 (
   oMv (kc (.bool true)) s013)) <|
  cBlock 1 (cLoop 1000000 (cBlock 3 (cSeq (cReg 4 (
      oSeq (oMv g002 s025) <|
      oSeq (oMv g001 s026) <|
      oSeq (oP (vSub g025 g026) s027) <|
      oMv g027 s014)) <|
     cSeq (cSeq (cReg 2 (
      oSeq (oMv g014 s030) <|
      oP (vLeq g030 (kc (.int .i64 12))) s031)) <|
     cCond g031
      (cSeq (cReg 5 (
       oSeq (oMv g000 s032) <|
       oSeq (oMv g001 s033) <|
       oSeq (oMv g002 s034) <|
       oSeq (oMv g004 s035) <|
       oCallF 102 (fun T => [g032 T, g033 T, g034 T, g035 T]) s036)) <|
      cExit 0)
      (cSkip)) <|
     cSeq (cSeq (cReg 2 (
      oSeq (oMv g003 s037) <|
      oP (vEql g037 (kc (.int .i64 0))) s040)) <|
     cCond g040
      (cSeq (cReg 5 (
       oSeq (oMv g000 s041) <|
       oSeq (oMv g001 s042) <|
       oSeq (oMv g002 s043) <|
       oSeq (oMv g004 s044) <|
       oCallF 103 (fun T => [g041 T, g042 T, g043 T, g044 T]) s045)) <|
      cExit 0)
      (cSkip)) <|
     cSeq (cSeq (cReg 2 (
      oSeq (oMv g012 s046) <|
      oGen (.un .not (.t 38)) 1 s047)) <|
     cCond g047
      (cSeq (cReg 5 (
       oSeq (oMv g000 s050) <|
       oSeq (oMv g001 s051) <|
       oSeq (oMv g002 s052) <|
       oSeq (oMv g004 s053) <|
       oCallF 104 (fun T => [g050 T, g051 T, g052 T, g053 T]) s054)) <|
      cReg 3 (
       oSeq (oMv g003 s055) <|
       oSeq (oP (vSub g055 (kc (.int .i64 1))) s056) <|
       oMv g056 s003))
      (cSkip)) <|
     cSeq (cReg 10 (
      oSeq (oMv g000 s060) <|
      oSeq (oMv g001 s061) <|
      oSeq (oMv g002 s062) <|
      oSeq (oMv g004 s063) <|
      oSeq (oCallF 105 (fun T => [g060 T, g061 T, g062 T, g063 T]) s064) <|
      oSeq (oMv g064 s057) <|
      oSeq (oP (vExt 0 g057) s065) <|
      oSeq (oP (vExt 1 g057) s066) <|
      oSeq (oMv g065 s015) <|
      oMv g066 s016)) <|
     cSeq (cSeq (cReg 2 (
      oSeq (oMv g016 s067) <|
      oP (vEql g067 (kc (.int .i64 2))) s070)) <|
     cCond g070
      (cSeq (cReg 5 (
       oSeq (oMv g000 s071) <|
       oSeq (oMv g001 s072) <|
       oSeq (oMv g002 s073) <|
       oSeq (oMv g004 s074) <|
       oCallF 106 (fun T => [g071 T, g072 T, g073 T, g074 T]) s075)) <|
      cSeq (cReg 7 (
       oSeq (oMv g002 s076) <|
       oSeq (oP (vSub g076 (kc (.int .i64 1))) s077) <|
       oSeq (oMv g015 s100) <|
       oSeq (oMv g001 s101) <|
       oSeq (oP (vSub g100 g101) s102) <|
       oSeq (oP (vSub g077 g102) s103) <|
       oMv g103 s015)) <|
      cReg 1 (
       oMv (kc (.int .i64 1)) s016))
      (cSkip)) <|
     cSeq (cSeq (cReg 8 (
      oSeq (oMv g012 s104) <|
      oSeq (oMv g104 s105) <|
      oSeq (oGuard g105 true s106 (oMv g013 s106)) <|
      oSeq (oP (vPick g105 g106 (kc (.bool false))) s107) <|
      oSeq (oMv g107 s110) <|
      oSeq (oGuard g110 true s111 (oMv g016 s111)) <|
      oSeq (oGuard g110 true s112 (oP (vEql g111 (kc (.int .i64 1))) s112)) <|
      oP (vPick g110 g112 (kc (.bool false))) s113)) <|
     cCond g113
      (cSeq (cReg 5 (
       oSeq (oMv g000 s114) <|
       oSeq (oMv g001 s115) <|
       oSeq (oMv g002 s116) <|
       oSeq (oMv g004 s117) <|
       oCallF 107 (fun T => [g114 T, g115 T, g116 T, g117 T]) s120)) <|
      cCond g120
       (cExit 0)
       (cSkip))
      (cSkip)) <|
     cSeq (cSeq (cDrw 17 (
      dSeq (dLook 0 [] (oMv g001 s121)) <|
      dSeq (dLook 0 [] (oP (vGtr g121 (kc (.int .i64 0))) s122)) <|
      dSeq (dLook 0 [] (oMv g122 s123)) <|
      dSeq (dLook 0 [] (oGuard g123 true s124 (oMv g004 s124))) <|
      dSeq (dLook 0 [] (oGuard g123 true s125 (oMv g000 s125))) <|
      dSeq (dLook 0 [] (oGuard g123 true s126 (oMv g001 s126))) <|
      dSeq (dLook 0 [] (oGuard g123 true s127 (oP (vSub g126 (kc (.int .i64 1))) s127))) <|
      dSeq (dLook 0 [] (oGuard g123 true s130 (oP (vIdx 1 g125 g127) s130))) <|
      dSeq (dLook 0 [] (oGuard g123 true s131 (oLoad g130 s131))) <|
      dSeq (dLook 0 [] (oGuard g123 true s132 (oMv g000 s132))) <|
      dSeq (dLook 0 [] (oGuard g123 true s133 (oMv g015 s133))) <|
      dSeq (dLook 0 [] (oGuard g123 true s134 (oP (vIdx 1 g132 g133) s134))) <|
      dSeq (dLook 0 [] (oGuard g123 true s135 (oLoad g134 s135))) <|
      dSeq (dAct 0 [] (oGuard g123 true s136 (oCall g124 (fun T => [g131 T, g135 T]) s136))) <|
      dSeq (dLook 0 [] (oGuard g123 true s137 (oP (vLss g136 (kc (.int .i64 0))) s137))) <|
      dSeq (dLook 0 [] (oGuard g123 true s140 (oGen (.un .not (.t 95)) 15 s140))) <|
      dSeq (dLook 0 [] (oP (vPick g123 g140 (kc (.bool false))) s141)) <|
      dNop)
      (ckNop) []) <|
     cCond g141
      (cSeq (cReg 7 (
       oSeq (oMv g000 s142) <|
       oSeq (oMv g001 s143) <|
       oSeq (oMv g002 s144) <|
       oSeq (oMv g015 s145) <|
       oSeq (oMv g004 s146) <|
       oSeq (oCallF 108 (fun T => [g142 T, g143 T, g144 T, g145 T, g146 T]) s147) <|
       oMv g147 s017)) <|
      cSeq (cReg 2 (
       oSeq (oMv g017 s150) <|
       oMv g150 s001)) <|
      cExit 3)
      (cSkip)) <|
     cSeq (cReg 11 (
      oSeq (oMv g000 s152) <|
      oSeq (oMv g001 s153) <|
      oSeq (oMv g002 s154) <|
      oSeq (oMv g015 s155) <|
      oSeq (oMv g004 s156) <|
      oSeq (oCallF 109 (fun T => [g152 T, g153 T, g154 T, g155 T, g156 T]) s157) <|
      oSeq (oMv g157 s151) <|
      oSeq (oP (vExt 0 g151) s160) <|
      oSeq (oP (vExt 1 g151) s161) <|
      oSeq (oMv g160 s020) <|
      oMv g161 s021)) <|
     cSeq (cReg 2 (
      oSeq (oMv g021 s162) <|
      oMv g162 s013)) <|
     cSeq (cReg 8 (
      oSeq (oMv g020 s163) <|
      oSeq (oMv g001 s164) <|
      oSeq (oP (vSub g163 g164) s165) <|
      oSeq (oMv g002 s166) <|
      oSeq (oMv g020 s167) <|
      oSeq (oP (vSub g166 g167) s170) <|
      oSeq (oMv g165 s022) <|
      oMv g170 s023)) <|
     cSeq (cReg 3 (
      oSeq (oMv g014 s171) <|
      oSeq (oGen (.bin .quo .int (.t 121) (.c (.int .i64 8))) 1 s172) <|
      oMv g172 s024)) <|
     cSeq (cReg 3 (
      oSeq (oMv g022 s173) <|
      oSeq (oMv g023 s174) <|
      oP (vLss g173 g174) s175)) <|
     cCond g175
      (cSeq (cReg 4 (
       oSeq (oMv g022 s176) <|
       oSeq (oMv g024 s177) <|
       oSeq (oP (vGeq g176 g177) s200) <|
       oMv g200 s012)) <|
      cSeq (cReg 6 (
       oSeq (oMv g000 s201) <|
       oSeq (oMv g001 s202) <|
       oSeq (oMv g020 s203) <|
       oSeq (oMv g003 s204) <|
       oSeq (oMv g004 s205) <|
       oCallF 76 (fun T => [g201 T, g202 T, g203 T, g204 T, g205 T]) s206)) <|
      cReg 3 (
       oSeq (oMv g020 s207) <|
       oSeq (oP (vAdd g207 (kc (.int .i64 1))) s210) <|
       oMv g210 s001))
      (cSeq (cReg 4 (
       oSeq (oMv g023 s211) <|
       oSeq (oMv g024 s212) <|
       oSeq (oP (vGeq g211 g212) s213) <|
       oMv g213 s012)) <|
      cSeq (cReg 7 (
       oSeq (oMv g000 s214) <|
       oSeq (oMv g020 s215) <|
       oSeq (oP (vAdd g215 (kc (.int .i64 1))) s216) <|
       oSeq (oMv g002 s217) <|
       oSeq (oMv g003 s220) <|
       oSeq (oMv g004 s221) <|
       oCallF 76 (fun T => [g214 T, g216 T, g217 T, g220 T, g221 T]) s222)) <|
      cReg 2 (
       oSeq (oMv g020 s223) <|
       oMv g223 s002)))))⟩
noncomputable def ffn102 : FFn := ⟨4, 53, [],
  cSeq (cReg 3 (
   oSeq (oMv g001 s012) <|
   oSeq (oP (vAdd g012 (kc (.int .i64 1))) s013) <|
   oMv g013 s010)) <|
  cBlock 1 (cLoop 1000000 (cSeq (cSeq (cReg 3 (
     oSeq (oMv g010 s014) <|
     oSeq (oMv g002 s015) <|
     oP (vLss g014 g015) s016)) <|
    cCond g016
     (cSkip)
     (cExit 1)) <|
    cSeq (cBlock 3 (cSeq (cReg 2 (
      oSeq (oMv g010 s021) <|
      oMv g021 s011)) <|
     cBlock 5 (cLoop 1000000 (cSeq (cSeq (cDrw 17 (
        dSeq (dLook 0 [] (oMv g011 s022)) <|
        dSeq (dLook 0 [] (oMv g001 s023)) <|
        dSeq (dLook 0 [] (oP (vGtr g022 g023) s024)) <|
        dSeq (dLook 0 [] (oMv g024 s025)) <|
        dSeq (dLook 0 [] (oGuard g025 true s026 (oMv g003 s026))) <|
        dSeq (dLook 0 [] (oGuard g025 true s027 (oMv g000 s027))) <|
        dSeq (dLook 0 [] (oGuard g025 true s030 (oMv g011 s030))) <|
        dSeq (dLook 0 [] (oGuard g025 true s031 (oP (vIdx 1 g027 g030) s031))) <|
        dSeq (dLook 0 [] (oGuard g025 true s032 (oLoad g031 s032))) <|
        dSeq (dLook 0 [] (oGuard g025 true s033 (oMv g000 s033))) <|
        dSeq (dLook 0 [] (oGuard g025 true s034 (oMv g011 s034))) <|
        dSeq (dLook 0 [] (oGuard g025 true s035 (oP (vSub g034 (kc (.int .i64 1))) s035))) <|
        dSeq (dLook 0 [] (oGuard g025 true s036 (oP (vIdx 1 g033 g035) s036))) <|
        dSeq (dLook 0 [] (oGuard g025 true s037 (oLoad g036 s037))) <|
        dSeq (dAct 0 [] (oGuard g025 true s040 (oCall g026 (fun T => [g032 T, g037 T]) s040))) <|
        dSeq (dLook 0 [] (oGuard g025 true s041 (oP (vLss g040 (kc (.int .i64 0))) s041))) <|
        dSeq (dLook 0 [] (oP (vPick g025 g041 (kc (.bool false))) s042)) <|
        dNop)
        (ckNop) []) <|
       cCond g042
        (cSkip)
        (cExit 5)) <|
       cSeq (cBlock 7 (cDrw 18 (
         dSeq (dLook 0 [] (oMv g000 s045)) <|
         dSeq (dLook 0 [] (oMv g011 s046)) <|
         dSeq (dLook 0 [] (oMv g000 s047)) <|
         dSeq (dLook 0 [] (oMv g011 s050)) <|
         dSeq (dLook 0 [] (oP (vSub g050 (kc (.int .i64 1))) s051)) <|
         dSeq (dLook 0 [] (oMv g000 s052)) <|
         dSeq (dLook 0 [] (oMv g011 s053)) <|
         dSeq (dLook 0 [] (oP (vSub g053 (kc (.int .i64 1))) s054)) <|
         dSeq (dLook 0 [] (oP (vIdx 1 g052 g054) s055)) <|
         dSeq (dLook 0 [] (oLoad g055 s056)) <|
         dSeq (dLook 0 [] (oMv g000 s057)) <|
         dSeq (dLook 0 [] (oMv g011 s060)) <|
         dSeq (dLook 0 [] (oP (vIdx 1 g057 g060) s061)) <|
         dSeq (dLook 0 [] (oLoad g061 s062)) <|
         dSeq (dLook 0 [] (oP (vIdx 1 g045 g046) s063)) <|
         dSeq (dAct 0 [] (oStore g063 g056 noPut)) <|
         dSeq (dLook 0 [] (oP (vIdx 1 g047 g051) s064)) <|
         dSeq (dAct 0 [] (oStore g064 g062 noPut)) <|
         dNop)
         (ckNop) [])) <|
       cReg 3 (
        oSeq (oMv g011 s043) <|
        oSeq (oP (vSub g043 (kc (.int .i64 1))) s044) <|
        oMv g044 s011))))) <|
    cReg 3 (
     oSeq (oMv g010 s017) <|
     oSeq (oP (vAdd g017 (kc (.int .i64 1))) s020) <|
     oMv g020 s010)))⟩
end Go.Proofs.YtmchbjommpmlkaaGreat.Ev
