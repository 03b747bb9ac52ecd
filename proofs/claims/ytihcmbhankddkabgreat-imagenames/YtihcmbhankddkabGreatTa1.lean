/-
  The code of the law's functions, printed by program off the translation.
-/
import Derived.Test.YtihcmbhankddkabGreatEvSlots
namespace Go.Proofs.YtihcmbhankddkabGreat.Ev
open Go
set_option maxRecDepth 1000000
set_option linter.all false
noncomputable def ffn132 : FFn := ⟨4, 53, [],
  cSeq (cReg 3 (
   oSeq (oMv g001 s012) <|
   oSeq (oP (vAdd g012 (kc (.int .i64 1))) s013) <|
   oMv g013 s010)) <|
  cBlock 1 (cLoop 1000000 (cSeq (cSeq (cReg 3 (
     oSeq (oMv g010 s014) <|
     oSeq (oMv g002 s015) <|
     oP (vLss g014 g015) s016)) <|
    cCond g016
     (cSkip)
     (cExit 1)) <|
    cSeq (cBlock 3 (cSeq (cReg 2 (
      oSeq (oMv g010 s021) <|
      oMv g021 s011)) <|
     cBlock 5 (cLoop 1000000 (cSeq (cSeq (cDrw 17 (
        dSeq (dLook 0 [] (oMv g011 s022)) <|
        dSeq (dLook 0 [] (oMv g001 s023)) <|
        dSeq (dLook 0 [] (oP (vGtr g022 g023) s024)) <|
        dSeq (dLook 0 [] (oMv g024 s025)) <|
        dSeq (dLook 0 [] (oGuard g025 true s026 (oMv g003 s026))) <|
        dSeq (dLook 0 [] (oGuard g025 true s027 (oMv g000 s027))) <|
        dSeq (dLook 0 [] (oGuard g025 true s030 (oMv g011 s030))) <|
        dSeq (dLook 0 [] (oGuard g025 true s031 (oP (vIdx 1 g027 g030) s031))) <|
        dSeq (dLook 0 [] (oGuard g025 true s032 (oLoad g031 s032))) <|
        dSeq (dLook 0 [] (oGuard g025 true s033 (oMv g000 s033))) <|
        dSeq (dLook 0 [] (oGuard g025 true s034 (oMv g011 s034))) <|
        dSeq (dLook 0 [] (oGuard g025 true s035 (oP (vSub g034 (kc (.int .i64 1))) s035))) <|
        dSeq (dLook 0 [] (oGuard g025 true s036 (oP (vIdx 1 g033 g035) s036))) <|
        dSeq (dLook 0 [] (oGuard g025 true s037 (oLoad g036 s037))) <|
        dSeq (dAct 0 [] (oGuard g025 true s040 (oCall g026 (fun T => [g032 T, g037 T]) s040))) <|
        dSeq (dLook 0 [] (oGuard g025 true s041 (oP (vLss g040 (kc (.int .i64 0))) s041))) <|
        dSeq (dLook 0 [] (oP (vPick g025 g041 (kc (.bool false))) s042)) <|
        dNop)
        (ckNop) []) <|
       cCond g042
        (cSkip)
        (cExit 5)) <|
       cSeq (cBlock 7 (cDrw 18 (
         dSeq (dLook 0 [] (oMv g000 s045)) <|
         dSeq (dLook 0 [] (oMv g011 s046)) <|
         dSeq (dLook 0 [] (oMv g000 s047)) <|
         dSeq (dLook 0 [] (oMv g011 s050)) <|
         dSeq (dLook 0 [] (oP (vSub g050 (kc (.int .i64 1))) s051)) <|
         dSeq (dLook 0 [] (oMv g000 s052)) <|
         dSeq (dLook 0 [] (oMv g011 s053)) <|
         dSeq (dLook 0 [] (oP (vSub g053 (kc (.int .i64 1))) s054)) <|
         dSeq (dLook 0 [] (oP (vIdx 1 g052 g054) s055)) <|
         dSeq (dLook 0 [] (oLoad g055 s056)) <|
         dSeq (dLook 0 [] (oMv g000 s057)) <|
         dSeq (dLook 0 [] (oMv g011 s060)) <|
         dSeq (dLook 0 [] (oP (vIdx 1 g057 g060) s061)) <|
         dSeq (dLook 0 [] (oLoad g061 s062)) <|
         dSeq (dLook 0 [] (oP (vIdx 1 g045 g046) s063)) <|
         dSeq (dAct 0 [] (oStore g063 g056 noPut)) <|
         dSeq (dLook 0 [] (oP (vIdx 1 g047 g051) s064)) <|
         dSeq (dAct 0 [] (oStore g064 g062 noPut)) <|
         dNop)
         (ckNop) [])) <|
       cReg 3 (
        oSeq (oMv g011 s043) <|
        oSeq (oP (vSub g043 (kc (.int .i64 1))) s044) <|
        oMv g044 s011))))) <|
    cReg 3 (
     oSeq (oMv g010 s017) <|
     oSeq (oP (vAdd g017 (kc (.int .i64 1))) s020) <|
     oMv g020 s010)))⟩
noncomputable def ffn75 : FFn := ⟨2, 14, [(4, none)],
  cSeq (cReg 1 (
   oMv (kc (.int .i64 0)) s004)) <|
  cSeq (cReg 8 (
   oSeq (oMv g000 s010) <|
   oSeq (oMv g001 s011) <|
   oSeq (oCallF 76 (fun T => [g010 T, g011 T]) s012) <|
   oSeq (oMv g012 s007) <|
   oSeq (oP (vExt 0 g007) s013) <|
   oSeq (oP (vExt 1 g007) s014) <|
   oSeq (oMv g013 s005) <|
   oMv g014 s006)) <|
  cSeq (cReg 2 (
   oSeq (oMv g005 s015) <|
   oMv g015 s004)) <|
  cExit 0⟩
noncomputable def ffn76 : FFn := ⟨2, 17, [(4, none), (5, none)],
  cSeq (cReg 2 (
   oSeq (oMv (kc (.int .i64 0)) s004) <|
   oMv (kc (.int .i64 0)) s005)) <|
  cSeq (cSeq (cReg 5 (
   oSeq (oMv g000 s007) <|
   oSeq (oMv g001 s010) <|
   oSeq (oBuildSlice 31 1 [.nilSl, .nilSl] 2 [((0, 1), g007), ((1, 1), g010)] 2 s011) <|
   oSeq (oCallF 59 (fun T => [g011 T]) s012) <|
   oMv g012 s006)) <|
  cSeq (cReg 2 (
   oSeq (oMv g006 s013) <|
   oP (vNeq g013 (kc (.int .i64 0))) s014)) <|
  cCond g014
   (cSeq (cReg 3 (
    oSeq (oMv g006 s015) <|
    oSeq (oMv (kc (.int .i64 0)) s004) <|
    oMv g015 s005)) <|
   cExit 0)
   (cSkip)) <|
  cSeq (cReg 5 (
   oSeq (oMv g000 s016) <|
   oSeq (oMv g001 s017) <|
   oSeq (oCallF 107 (fun T => [g016 T, g017 T, (.fn (.func 108) [] [])]) s020) <|
   oSeq (oMv g020 s004) <|
   oMv (kc (.int .i64 0)) s005)) <|
  cExit 0⟩
noncomputable def ffn107 : FFn := ⟨3, 39, [(6, none)],
  cSeq (cReg 1 (
   oMv (kc (.int .i64 0)) s006)) <|
  cSeq (cSeq (cReg 3 (
   oSeq (oMv g000 s013) <|
   oSeq (oP (vLen g013) s014) <|
   oMv (kc (.int .i64 0)) s015)) <|
  cBlock 1 (cLoop 1000000 (cSeq (cReg 1 (
     oP (vLss g015 g014) s016)) <|
    cSeq (cCond g016
     (cSkip)
     (cExit 1)) <|
    cSeq (cBlock 3 (cSeq (cReg 6 (
      oSeq (oMv g015 s017) <|
      oSeq (oP (vIdx 2 g013 g015) s020) <|
      oSeq (oLoadN 2 g020 s021) <|
      oSeq (oAlloc 40 [(.bool false), .nilSl] 3 s010) <|
      oSeq (oMv g017 s007) <|
      oStoreN 2 g010 g021 noPut)) <|
     cSeq (cSeq (cReg 4 (
      oSeq (oMv g007 s022) <|
      oSeq (oMv g001 s023) <|
      oSeq (oP (vLen g023) s024) <|
      oP (vGeq g022 g024) s025)) <|
     cCond g025
      (cSeq (cReg 1 (
       oMv (kc (.int .i64 1)) s006)) <|
      cExit 0)
      (cSkip)) <|
     cSeq (cReg 6 (
      oSeq (oMv g001 s026) <|
      oSeq (oMv g007 s027) <|
      oSeq (oP (vIdx 2 g026 g027) s030) <|
      oSeq (oLoadN 2 g030 s031) <|
      oSeq (oAlloc 40 [(.bool false), .nilSl] 4 s011) <|
      oStoreN 2 g011 g031 noPut)) <|
     cSeq (cReg 5 (
      oSeq (oMv g002 s032) <|
      oSeq (oLoadN 2 g010 s033) <|
      oSeq (oLoadN 2 g011 s034) <|
      oSeq (oCall g032 (fun T => [g033 T, g034 T]) s035) <|
      oMv g035 s012)) <|
     cSeq (cReg 2 (
      oSeq (oMv g012 s036) <|
      oP (vNeq g036 (kc (.int .i64 0))) s037)) <|
     cCond g037
      (cSeq (cReg 2 (
       oSeq (oMv g012 s040) <|
       oMv g040 s006)) <|
      cExit 0)
      (cSkip))) <|
    cReg 2 (
     oSeq (oP (vAdd g015 (kc (.int .i64 1))) s041) <|
     oMv g041 s015)))) <|
  cSeq (cSeq (cReg 5 (
   oSeq (oMv g000 s042) <|
   oSeq (oP (vLen g042) s043) <|
   oSeq (oMv g001 s044) <|
   oSeq (oP (vLen g044) s045) <|
   oP (vLss g043 g045) s046)) <|
  cCond g046
   (cSeq (cReg 1 (
    oMv (kc (.int .i64 (-1))) s006)) <|
   cExit 0)
   (cSkip)) <|
  cSeq (cReg 1 (
   oMv (kc (.int .i64 0)) s006)) <|
  cExit 0⟩
noncomputable def ffn108 : FFn := ⟨2, 14, [(4, none)],
  cSeq (cReg 3 (
   oSeq (oBox 40 g000 0 s002) <|
   oSeq (oBox 40 g001 1 s003) <|
   oMv (kc (.int .i64 0)) s004)) <|
  cSeq (cReg 8 (
   oSeq (oLoadN 2 g002 s010) <|
   oSeq (oLoadN 2 g003 s011) <|
   oSeq (oCallF 50 (fun T => [g010 T, g011 T]) s012) <|
   oSeq (oMv g012 s007) <|
   oSeq (oP (vExt 0 g007) s013) <|
   oSeq (oP (vExt 1 g007) s014) <|
   oSeq (oMv g013 s005) <|
   oMv g014 s006)) <|
  cSeq (cReg 2 (
   oSeq (oMv g005 s015) <|
   oMv g015 s004)) <|
  cExit 0⟩
noncomputable def ffn50 : FFn := ⟨2, 19, [(4, none), (5, none)],
  cSeq (cReg 4 (
   oSeq (oBox 40 g000 0 s002) <|
   oSeq (oBox 40 g001 1 s003) <|
   oSeq (oMv (kc (.int .i64 0)) s004) <|
   oMv (kc (.int .i64 0)) s005)) <|
  cSeq (cReg 9 (
   oSeq (oLoadN 2 g002 s011) <|
   oSeq (oLoadN 2 g003 s012) <|
   oSeq (oCallF 83 (fun T => [g011 T, g012 T]) s013) <|
   oSeq (oMv g013 s010) <|
   oSeq (oP (vExt 0 g010) s014) <|
   oSeq (oP (vExt 1 g010) s015) <|
   oSeq (oAlloc 40 [(.bool false), .nilSl] 6 s006) <|
   oSeq (oStoreN 2 g006 g014 noPut) <|
   oMv g015 s007)) <|
  cSeq (cSeq (cReg 2 (
   oSeq (oMv g007 s016) <|
   oP (vNeq g016 (kc (.int .i64 0))) s017)) <|
  cCond g017
   (cSeq (cReg 3 (
    oSeq (oMv g007 s020) <|
    oSeq (oMv (kc (.int .i64 0)) s004) <|
    oMv g020 s005)) <|
   cExit 0)
   (cSkip)) <|
  cSeq (cReg 4 (
   oSeq (oLoadN 2 g006 s021) <|
   oSeq (oCallF 84 (fun T => [g021 T]) s022) <|
   oSeq (oMv g022 s004) <|
   oMv (kc (.int .i64 0)) s005)) <|
  cExit 0⟩
noncomputable def ffn83 : FFn := ⟨2, 23, [(4, (some (some 2))), (5, none)],
  cSeq (cReg 4 (
   oSeq (oBox 40 g000 0 s002) <|
   oSeq (oBox 40 g001 1 s003) <|
   oSeq (oAlloc 40 [(.bool false), .nilSl] 2 s004) <|
   oMv (kc (.int .i64 0)) s005)) <|
  cSeq (cSeq (cReg 5 (
   oSeq (oLoadN 2 g002 s007) <|
   oSeq (oLoadN 2 g003 s010) <|
   oSeq (oBuildSlice 40 2 [(.bool false), .nilSl, (.bool false), .nilSl] 2 [((0, 2), g007), ((2, 2), g010)] 2 s011) <|
   oSeq (oCallF 85 (fun T => [g011 T]) s012) <|
   oMv g012 s006)) <|
  cSeq (cReg 2 (
   oSeq (oMv g006 s013) <|
   oP (vNeq g013 (kc (.int .i64 0))) s014)) <|
  cCond g014
   (cSeq (cReg 4 (
    oSeq (oP (vBuild [(.bool false), .nilSl] []) s015) <|
    oSeq (oMv g006 s016) <|
    oSeq (oStoreN 2 g004 g015 noPut) <|
    oMv g016 s005)) <|
   cExit 0)
   (cSkip)) <|
  cSeq (cDrw 10 (
   dSeq (dLook 0 [] (oLoadN 2 g002 s017)) <|
   dSeq (dLook 0 [] (oP (vFA 0 g003) s020)) <|
   dSeq (dLook 0 [] (oLoad g020 s021)) <|
   dSeq (dLook 0 [] (oGen (.un .not (.t 17)) 3 s022)) <|
   dSeq (dLook 0 [] (oP (vFA 1 g003) s023)) <|
   dSeq (dLook 0 [] (oLoad g023 s024)) <|
   dSeq (dAct 0 [] (oCallF 43 (fun T => [g022 T, g024 T]) s025)) <|
   dSeq (dAct 0 [] (oCallF 87 (fun T => [g017 T, g025 T]) s026)) <|
   dSeq (dAct 0 [] (oStoreN 2 g004 g026 noPut)) <|
   dSeq (dLook 0 [] (oMv (kc (.int .i64 0)) s005)) <|
   dNop)
   (ckSeq (ckOne g017 2 [] (oLoadN 2 g002 s017)) <|
  ckNop) []) <|
  cExit 0⟩
noncomputable def ffn40 : FFn := ⟨2, 9, [(4, none)],
  cSeq (cReg 1 (
   oMv (kc (.bool false)) s004)) <|
  cSeq (cReg 5 (
   oSeq (oMv g000 s005) <|
   oSeq (oMv g001 s006) <|
   oSeq (oCallF 77 (fun T => [g005 T, g006 T]) s007) <|
   oSeq (oP (vGeq g007 (kc (.int .i64 0))) s010) <|
   oMv g010 s004)) <|
  cExit 0⟩
noncomputable def ffn41 : FFn := ⟨1, 6, [(2, none)],
  cSeq (cReg 1 (
   oMv (kc (.bool false)) s002)) <|
  cSeq (cReg 4 (
   oSeq (oMv g000 s003) <|
   oSeq (oCallF 42 (fun T => [g003 T]) s004) <|
   oSeq (oP (vGtr g004 (kc (.int .i64 0))) s005) <|
   oMv g005 s002)) <|
  cExit 0⟩
noncomputable def ffn42 : FFn := ⟨1, 16, [(2, none)],
  cSeq (cReg 1 (
   oMv (kc (.int .i64 0)) s002)) <|
  cSeq (cSeq (cReg 3 (
   oSeq (oMv g000 s005) <|
   oSeq (oP (vLen g005) s006) <|
   oP (vEql g006 (kc (.int .i64 0))) s007)) <|
  cCond g007
   (cSeq (cReg 1 (
    oMv (kc (.int .i64 0)) s002)) <|
   cExit 0)
   (cSkip)) <|
  cSeq (cReg 9 (
   oSeq (oMv g000 s011) <|
   oSeq (oP (vIdx 2 g011 (kc (.int .i64 0))) s012) <|
   oSeq (oLoadN 2 g012 s013) <|
   oSeq (oCallF 78 (fun T => [g013 T]) s014) <|
   oSeq (oMv g014 s010) <|
   oSeq (oP (vExt 0 g010) s015) <|
   oSeq (oP (vExt 1 g010) s016) <|
   oSeq (oMv g015 s003) <|
   oMv g016 s004)) <|
  cSeq (cReg 2 (
   oSeq (oMv g003 s017) <|
   oMv g017 s002)) <|
  cExit 0⟩
noncomputable def ffn17 : FFn := ⟨2, 22, [(4, (some (some 3))), (5, none)],
  cSeq (cReg 2 (
   oSeq (oAlloc 25 [(.int .i64 0), .nilSl, .nilSl] 0 s004) <|
   oMv (kc (.int .i64 0)) s005)) <|
  cSeq (cSeq (cReg 3 (
   oSeq (oMv g001 s007) <|
   oSeq (oP (vLen g007) s010) <|
   oP (vGeq g010 (kc (.int .i64 1024))) s011)) <|
  cCond g011
   (cSeq (cReg 3 (
    oSeq (oP (vBuild [(.int .i64 0), .nilSl, .nilSl] []) s012) <|
    oSeq (oStoreN 3 g004 g012 noPut) <|
    oMv (kc (.int .i64 4)) s005)) <|
   cExit 0)
   (cSkip)) <|
  cSeq (cReg 4 (
   oSeq (oMv g000 s013) <|
   oSeq (oMv g001 s014) <|
   oSeq (oCallF 37 (fun T => [g013 T, g014 T]) s015) <|
   oMv g015 s006)) <|
  cSeq (cSeq (cReg 3 (
   oSeq (oMv g006 s016) <|
   oSeq (oP (vLen g016) s017) <|
   oP (vGeq g017 (kc (.int .i64 1024))) s020)) <|
  cCond g020
   (cSeq (cReg 3 (
    oSeq (oP (vBuild [(.int .i64 0), .nilSl, .nilSl] []) s021) <|
    oSeq (oStoreN 3 g004 g021 noPut) <|
    oMv (kc (.int .i64 4)) s005)) <|
   cExit 0)
   (cSkip)) <|
  cSeq (cReg 6 (
   oSeq (oMv g000 s022) <|
   oSeq (oMv g006 s023) <|
   oSeq (oMv g001 s024) <|
   oSeq (oP (vBuild [(.int .i64 0), .nilSl, .nilSl] [((0, 1), g022), ((1, 1), g023), ((2, 1), g024)]) s025) <|
   oSeq (oStoreN 3 g004 g025 noPut) <|
   oMv (kc (.int .i64 0)) s005)) <|
  cExit 0⟩
noncomputable def ffn37 : FFn := ⟨2, 84, [(4, none)],
  cSeq (cReg 1 (
   oMv (kc .nilSl) s004)) <|
  cSeq (cReg 2 (
   oSeq (oMv (kc .nilSl) s005) <|
   oMv (kc .nilSl) s006)) <|
  cSeq (cReg 1 (
   oMv (kc (.bool false)) s007)) <|
  cSeq (cSeq (cReg 3 (
   oSeq (oMv g001 s021) <|
   oSeq (oP (vLen g021) s022) <|
   oMv (kc (.int .i64 0)) s023)) <|
  cBlock 1 (cLoop 1000000 (cSeq (cReg 1 (
     oP (vLss g023 g022) s024)) <|
    cSeq (cCond g024
     (cSkip)
     (cExit 1)) <|
    cSeq (cBlock 3 (cSeq (cReg 4 (
      oSeq (oP (vIdx 2 g021 g023) s025) <|
      oSeq (oLoadN 2 g025 s026) <|
      oSeq (oAlloc 62 [(.int .u8 0), .nilSl] 2 s011) <|
      oStoreN 2 g011 g026 noPut)) <|
     cSeq (cReg 2 (
      oSeq (oP (vFA 0 g011) s027) <|
      oLoad g027 s030)) <|
     cBlock 5 (cSeq (cBlock 11 (cSeq (cBlock 9 (cSeq (cBlock 7 (cSeq (cSeq (cSeq (cReg 2 (
          oSeq (oP (vEql g030 (kc (.int .u8 1))) s032) <|
          oMv g032 s031)) <|
         cCond g031
          (cExit 7)
          (cSkip)) <|
         cSeq (cReg 2 (
          oSeq (oP (vEql g030 (kc (.int .u8 3))) s034) <|
          oMv g034 s033)) <|
         cCond g033
          (cExit 9)
          (cSkip)) <|
         cExit 11)) <|
        cSeq (cSeq (cReg 6 (
         oSeq (oMv g005 s035) <|
         oSeq (oP (vFA 1 g011) s036) <|
         oSeq (oLoad g036 s037) <|
         oSeq (oBuildSlice 31 1 [.nilSl] 1 [((0, 1), g037)] 3 s040) <|
         oSeq (oGen (.append 1 24 31 [.nilSl] (.t 29) (.t 32)) 4 s041) <|
         oMv g041 s005)) <|
        cExit 3) <|
        cExit 5)) <|
       cReg 1 (
        oMv (kc (.bool true)) s007))) <|
      cSeq (cReg 6 (
       oSeq (oMv g006 s042) <|
       oSeq (oP (vFA 1 g011) s043) <|
       oSeq (oLoad g043 s044) <|
       oSeq (oBuildSlice 31 1 [.nilSl] 1 [((0, 1), g044)] 3 s045) <|
       oSeq (oGen (.append 1 24 31 [.nilSl] (.t 34) (.t 37)) 4 s046) <|
       oMv g046 s006)) <|
      cExit 5))) <|
    cReg 2 (
     oSeq (oP (vAdd g023 (kc (.int .i64 1))) s047) <|
     oMv g047 s023)))) <|
  cSeq (cSeq (cReg 2 (
   oSeq (oMv g007 s050) <|
   oGen (.un .not (.t 40)) 1 s051)) <|
  cCond g051
   (cSeq (cReg 5 (
    oSeq (oMv g000 s052) <|
    oSeq (oCallF 38 (fun T => [g052 T, (.int .i64 (-1))]) s053) <|
    oSeq (oP (vBuild [.nilSl, (.bool false)] [((0, 1), g053)]) s054) <|
    oSeq (oBuildSlice 34 2 [.nilSl, (.bool false)] 1 [((0, 2), g054)] 3 s055) <|
    oMv g055 s004)) <|
   cExit 0)
   (cSkip)) <|
  cSeq (cReg 12 (
   oSeq (oMv g000 s057) <|
   oSeq (oP (vAdd g057 (kc (.int .i64 1))) s060) <|
   oSeq (oMv g005 s061) <|
   oSeq (oMv g006 s062) <|
   oSeq (oCallF 39 (fun T => [g060 T, g061 T, g062 T]) s063) <|
   oSeq (oMv g063 s056) <|
   oSeq (oP (vExt 0 g056) s064) <|
   oSeq (oP (vExt 1 g056) s065) <|
   oSeq (oP (vExt 2 g056) s066) <|
   oSeq (oMv g064 s012) <|
   oSeq (oMv g065 s013) <|
   oMv g066 s014)) <|
  cSeq (cSeq (cReg 3 (
   oSeq (oMv g012 s067) <|
   oSeq (oP (vLen g067) s070) <|
   oMv (kc (.int .i64 0)) s071)) <|
  cBlock 13 (cLoop 1000000 (cSeq (cReg 1 (
     oP (vLss g071 g070) s072)) <|
    cSeq (cCond g072
     (cSkip)
     (cExit 13)) <|
    cSeq (cBlock 15 (cSeq (cReg 3 (
      oSeq (oP (vIdx 1 g067 g071) s073) <|
      oSeq (oLoad g073 s074) <|
      oMv g074 s016)) <|
     cReg 6 (
      oSeq (oMv g004 s075) <|
      oSeq (oMv g016 s076) <|
      oSeq (oP (vBuild [.nilSl, (.bool false)] [((0, 1), g076), ((1, 1), (kc (.bool true)))]) s077) <|
      oSeq (oBuildSlice 34 2 [.nilSl, (.bool false)] 1 [((0, 2), g077)] 3 s100) <|
      oSeq (oGen (.append 2 32 34 [.nilSl, (.bool false)] (.t 61) (.t 64)) 4 s101) <|
      oMv g101 s004))) <|
    cReg 2 (
     oSeq (oP (vAdd g071 (kc (.int .i64 1))) s102) <|
     oMv g102 s071)))) <|
  cSeq (cSeq (cReg 3 (
   oSeq (oMv g013 s103) <|
   oSeq (oP (vLen g103) s104) <|
   oMv (kc (.int .i64 0)) s105)) <|
  cBlock 17 (cLoop 1000000 (cSeq (cReg 1 (
     oP (vLss g105 g104) s106)) <|
    cSeq (cCond g106
     (cSkip)
     (cExit 17)) <|
    cSeq (cBlock 19 (cSeq (cReg 3 (
      oSeq (oP (vIdx 1 g103 g105) s107) <|
      oSeq (oLoad g107 s110) <|
      oMv g110 s020)) <|
     cSeq (cReg 5 (
      oSeq (oMv g020 s111) <|
      oSeq (oMv g000 s112) <|
      oSeq (oCallF 38 (fun T => [g112 T, (.int .i64 1)]) s113) <|
      oSeq (oCallF 67 (fun T => [g111 T, g113 T]) s114) <|
      oGen (.un .not (.t 76)) 4 s115)) <|
     cCond g115
      (cReg 6 (
       oSeq (oMv g004 s116) <|
       oSeq (oMv g020 s117) <|
       oSeq (oP (vBuild [.nilSl, (.bool false)] [((0, 1), g117)]) s120) <|
       oSeq (oBuildSlice 34 2 [.nilSl, (.bool false)] 1 [((0, 2), g120)] 3 s121) <|
       oSeq (oGen (.append 2 32 34 [.nilSl, (.bool false)] (.t 78) (.t 81)) 4 s122) <|
       oMv g122 s004))
      (cSkip))) <|
    cReg 2 (
     oSeq (oP (vAdd g105 (kc (.int .i64 1))) s123) <|
     oMv g123 s105)))) <|
  cExit 0⟩
noncomputable def ffn67 : FFn := ⟨2, 8, [(4, none)],
  cSeq (cReg 1 (
   oMv (kc (.bool false)) s004)) <|
  cSeq (cReg 4 (
   oSeq (oMv g000 s005) <|
   oSeq (oMv g001 s006) <|
   oSeq (oCallF 95 (fun T => [g005 T, g006 T, (.fn (.func 55) [] [])]) s007) <|
   oMv g007 s004)) <|
  cExit 0⟩
noncomputable def ffn95 : FFn := ⟨3, 32, [(6, none)],
  cSeq (cReg 1 (
   oMv (kc (.bool false)) s006)) <|
  cSeq (cSeq (cReg 5 (
   oSeq (oMv g000 s012) <|
   oSeq (oP (vLen g012) s013) <|
   oSeq (oMv g001 s014) <|
   oSeq (oP (vLen g014) s015) <|
   oP (vNeq g013 g015) s016)) <|
  cCond g016
   (cSeq (cReg 1 (
    oMv (kc (.bool false)) s006)) <|
   cExit 0)
   (cSkip)) <|
  cSeq (cSeq (cReg 3 (
   oSeq (oMv g000 s017) <|
   oSeq (oP (vLen g017) s020) <|
   oMv (kc (.int .i64 0)) s021)) <|
  cBlock 1 (cLoop 1000000 (cSeq (cReg 1 (
     oP (vLss g021 g020) s022)) <|
    cSeq (cCond g022
     (cSkip)
     (cExit 1)) <|
    cSeq (cBlock 3 (cSeq (cReg 6 (
      oSeq (oMv g021 s023) <|
      oSeq (oP (vIdx 2 g017 g021) s024) <|
      oSeq (oLoadN 2 g024 s025) <|
      oSeq (oAlloc 40 [(.bool false), .nilSl] 3 s010) <|
      oSeq (oMv g023 s007) <|
      oStoreN 2 g010 g025 noPut)) <|
     cSeq (cReg 6 (
      oSeq (oMv g001 s026) <|
      oSeq (oMv g007 s027) <|
      oSeq (oP (vIdx 2 g026 g027) s030) <|
      oSeq (oLoadN 2 g030 s031) <|
      oSeq (oAlloc 40 [(.bool false), .nilSl] 4 s011) <|
      oStoreN 2 g011 g031 noPut)) <|
     cSeq (cReg 5 (
      oSeq (oMv g002 s032) <|
      oSeq (oLoadN 2 g010 s033) <|
      oSeq (oLoadN 2 g011 s034) <|
      oSeq (oCall g032 (fun T => [g033 T, g034 T]) s035) <|
      oGen (.un .not (.t 29)) 4 s036)) <|
     cCond g036
      (cSeq (cReg 1 (
       oMv (kc (.bool false)) s006)) <|
      cExit 0)
      (cSkip))) <|
    cReg 2 (
     oSeq (oP (vAdd g021 (kc (.int .i64 1))) s037) <|
     oMv g037 s021)))) <|
  cSeq (cReg 1 (
   oMv (kc (.bool true)) s006)) <|
  cExit 0⟩
noncomputable def ffn55 : FFn := ⟨2, 17, [(4, none)],
  cSeq (cReg 3 (
   oSeq (oBox 40 g000 0 s002) <|
   oSeq (oBox 40 g001 1 s003) <|
   oMv (kc (.bool false)) s004)) <|
  cSeq (cReg 13 (
   oSeq (oP (vFA 0 g002) s005) <|
   oSeq (oLoad g005 s006) <|
   oSeq (oP (vFA 0 g003) s007) <|
   oSeq (oLoad g007 s010) <|
   oSeq (oGen (.bin .eql .bool (.t 6) (.t 8)) 4 s011) <|
   oSeq (oMv g011 s012) <|
   oSeq (oGuard g012 true s013 (oP (vFA 1 g002) s013)) <|
   oSeq (oGuard g012 true s014 (oLoad g013 s014)) <|
   oSeq (oGuard g012 true s015 (oP (vFA 1 g003) s015)) <|
   oSeq (oGuard g012 true s016 (oLoad g015 s016)) <|
   oSeq (oGuard g012 true s017 (oCallF 88 (fun T => [g014 T, g016 T]) s017)) <|
   oSeq (oP (vPick g012 g017 (kc (.bool false))) s020) <|
   oMv g020 s004)) <|
  cExit 0⟩
noncomputable def ffn88 : FFn := ⟨2, 26, [(4, none)],
  cSeq (cReg 1 (
   oMv (kc (.bool false)) s004)) <|
  cSeq (cSeq (cReg 5 (
   oSeq (oMv g000 s006) <|
   oSeq (oP (vLen g006) s007) <|
   oSeq (oMv g001 s010) <|
   oSeq (oP (vLen g010) s011) <|
   oP (vNeq g007 g011) s012)) <|
  cCond g012
   (cSeq (cReg 1 (
    oMv (kc (.bool false)) s004)) <|
   cExit 0)
   (cSkip)) <|
  cSeq (cSeq (cReg 3 (
   oSeq (oMv g000 s013) <|
   oSeq (oP (vLen g013) s014) <|
   oMv (kc (.int .i64 0)) s015)) <|
  cBlock 1 (cLoop 1000000 (cSeq (cReg 1 (
     oP (vLss g015 g014) s016)) <|
    cSeq (cCond g016
     (cSkip)
     (cExit 1)) <|
    cSeq (cBlock 3 (cSeq (cReg 2 (
      oSeq (oMv g015 s017) <|
      oMv g017 s005)) <|
     cSeq (cDrw 9 (
      dSeq (dLook 0 [] (oMv g000 s020)) <|
      dSeq (dLook 0 [] (oMv g005 s021)) <|
      dSeq (dLook 0 [] (oP (vIdx 1 g020 g021) s022)) <|
      dSeq (dLook 0 [] (oLoad g022 s023)) <|
      dSeq (dLook 0 [] (oMv g001 s024)) <|
      dSeq (dLook 0 [] (oMv g005 s025)) <|
      dSeq (dLook 0 [] (oP (vIdx 1 g024 g025) s026)) <|
      dSeq (dLook 0 [] (oLoad g026 s027)) <|
      dSeq (dLook 0 [] (oP (vNeq g023 g027) s030)) <|
      dNop)
      (ckNop) []) <|
     cCond g030
      (cSeq (cReg 1 (
       oMv (kc (.bool false)) s004)) <|
      cExit 0)
      (cSkip))) <|
    cReg 2 (
     oSeq (oP (vAdd g015 (kc (.int .i64 1))) s031) <|
     oMv g031 s015)))) <|
  cSeq (cReg 1 (
   oMv (kc (.bool true)) s004)) <|
  cExit 0⟩
noncomputable def ffn7 : FFn := ⟨1, 8, [(2, (some (some 3))), (3, none)],
  cSeq (cReg 2 (
   oSeq (oAlloc 25 [(.int .i64 0), .nilSl, .nilSl] 0 s002) <|
   oMv (kc (.int .i64 0)) s003)) <|
  cSeq (cReg 6 (
   oSeq (oMv g000 s004) <|
   oSeq (oCallF 5 (fun T => [g004 T, .nilSl]) s005) <|
   oSeq (oP (vExt 0 g005) s006) <|
   oSeq (oP (vExt 1 g005) s007) <|
   oSeq (oStoreN 3 g002 g006 noPut) <|
   oMv g007 s003)) <|
  cExit 0⟩
noncomputable def ffn8 : FFn := ⟨4, 114, [(8, (some (some 3))), (9, none)],
  cSeq (cReg 6 (
   oSeq (oBox 25 g000 0 s004) <|
   oSeq (oBox 3 g001 1 s005) <|
   oSeq (oBox 31 g002 2 s006) <|
   oSeq (oBox 44 g003 3 s007) <|
   oSeq (oAlloc 25 [(.int .i64 0), .nilSl, .nilSl] 4 s010) <|
   oMv (kc (.int .i64 0)) s011)) <|
  cSeq (cSeq (cReg 4 (
   oSeq (oLoadN 3 g004 s021) <|
   oSeq (oLoad g005 s022) <|
   oSeq (oCallF 20 (fun T => [g021 T, g022 T]) s023) <|
   oMv g023 s012)) <|
  cSeq (cReg 2 (
   oSeq (oMv g012 s024) <|
   oP (vNeq g024 (kc (.int .i64 0))) s025)) <|
  cCond g025
   (cSeq (cReg 4 (
    oSeq (oP (vBuild [(.int .i64 0), .nilSl, .nilSl] []) s026) <|
    oSeq (oMv g012 s027) <|
    oSeq (oStoreN 3 g010 g026 noPut) <|
    oMv g027 s011)) <|
   cExit 0)
   (cSkip)) <|
  cSeq (cSeq (cReg 8 (
   oSeq (oLoad g006 s030) <|
   oSeq (oCallF 21 (fun T => [g030 T]) s031) <|
   oSeq (oP (vNeq g031 (kc (.int .i64 0))) s032) <|
   oSeq (oMv g032 s033) <|
   oSeq (oGuard g033 false s034 (oLoadN 6 g007 s034)) <|
   oSeq (oGuard g033 false s035 (oCallF 22 (fun T => [g034 T]) s035)) <|
   oSeq (oGuard g033 false s036 (oP (vNeq g035 (kc (.int .i64 0))) s036)) <|
   oP (vPick g033 (kc (.bool true)) g036) s037)) <|
  cCond g037
   (cSeq (cReg 3 (
    oSeq (oP (vBuild [(.int .i64 0), .nilSl, .nilSl] []) s040) <|
    oSeq (oStoreN 3 g010 g040 noPut) <|
    oMv (kc (.int .i64 8)) s011)) <|
   cExit 0)
   (cSkip)) <|
  cSeq (cSeq (cReg 4 (
   oSeq (oLoadN 3 g004 s041) <|
   oSeq (oLoad g006 s042) <|
   oSeq (oCallF 23 (fun T => [g041 T, g042 T]) s043) <|
   oMv g043 s013)) <|
  cSeq (cReg 2 (
   oSeq (oMv g013 s044) <|
   oP (vNeq g044 (kc (.int .i64 0))) s045)) <|
  cCond g045
   (cSeq (cReg 4 (
    oSeq (oP (vBuild [(.int .i64 0), .nilSl, .nilSl] []) s046) <|
    oSeq (oMv g013 s047) <|
    oSeq (oStoreN 3 g010 g046 noPut) <|
    oMv g047 s011)) <|
   cExit 0)
   (cSkip)) <|
  cSeq (cReg 1 (
   oAlloc 23 [.nilSl] 0 s014)) <|
  cSeq (cReg 3 (
   oSeq (oGen (.mkfn (.func 24) [] [(.t 12)]) 0 s050) <|
   oSeq (oAlloc 63 [.nilFn] 1 s015) <|
   oStore g015 g050 noPut)) <|
  cSeq (cSeq (cReg 4 (
   oSeq (oP (vFA 2 g004) s051) <|
   oSeq (oLoad g051 s052) <|
   oSeq (oP (vLen g052) s053) <|
   oMv (kc (.int .i64 0)) s054)) <|
  cBlock 1 (cLoop 1000000 (cSeq (cReg 1 (
     oP (vLss g054 g053) s055)) <|
    cSeq (cCond g055
     (cSkip)
     (cExit 1)) <|
    cSeq (cBlock 3 (cSeq (cReg 4 (
      oSeq (oP (vIdx 2 g052 g054) s056) <|
      oSeq (oLoadN 2 g056 s057) <|
      oSeq (oAlloc 62 [(.int .u8 0), .nilSl] 2 s017) <|
      oStoreN 2 g017 g057 noPut)) <|
     cSeq (cSeq (cReg 3 (
      oSeq (oP (vFA 0 g017) s060) <|
      oSeq (oLoad g060 s061) <|
      oP (vNeq g061 (kc (.int .u8 3))) s062)) <|
     cCond g062
      (cSeq (cDrw 7 (
       dSeq (dLook 0 [] (oLoad g015 s063)) <|
       dSeq (dLook 0 [] (oLoadN 2 g017 s064)) <|
       dSeq (dLook 0 [] (oLoad g005 s065)) <|
       dSeq (dLook 0 [] (oLoad g006 s066)) <|
       dSeq (dLook 0 [] (oP (vBuild [(.bool false), .nilSl] []) s067)) <|
       dSeq (dAct 0 [] (oCallF 25 (fun T => [g064 T, g065 T, g066 T, g067 T]) s070)) <|
       dSeq (dAct 0 [] (oCall g063 (fun T => [g070 T]) s071)) <|
       dNop)
       (ckSeq (ckOne g063 1 [] (oLoad g015 s063)) <|
      ckNop) []) <|
      cExit 3)
      (cSkip)) <|
     cSeq (cReg 2 (
      oSeq (oLoadN 6 g007 s072) <|
      oCallF 26 (fun T => [g072 T]) s073)) <|
     cBlock 5 (cSlow 1000000 false 114 (.rangeFunc (.t 59) [60] (.region [
       ⟨(some 16), .alloc 40 [(.bool false), .nilSl], none⟩,
       ⟨none, .store 2 (.t 16) (.t 60), none⟩]) (.block 3 (.draw [
         ⟨(some 61), .load none (.t 13), none, [(13, none)], 0, [(0, []), (1, [])]⟩,
         ⟨(some 62), .load (some 2) (.t 15), none, [(15, none)], 0, [(0, [])]⟩,
         ⟨(some 63), .load none (.t 5), none, [(5, none)], 0, [(0, [])]⟩,
         ⟨(some 64), .load none (.t 6), none, [(6, none)], 0, [(0, [])]⟩,
         ⟨(some 65), .load (some 2) (.t 16), none, [(16, none)], 0, [(0, [])]⟩,
         ⟨(some 66), .call (.c (.fn (.func 25) [] [])) [(.t 62), (.t 63), (.t 64), (.t 65)], none, [(62, (some 1)), (63, (some 2)), (64, (some 3)), (65, (some 4))], 2, [(0, [])]⟩,
         ⟨(some 67), .call (.t 61) [(.t 66)], none, [(61, (some 0)), (66, (some 5))], 2, [(1, [])]⟩] [])))))) <|
    cReg 2 (
     oSeq (oP (vAdd g054 (kc (.int .i64 1))) s104) <|
     oMv g104 s054)))) <|
  cSeq (cBlock 9 (cSeq (cReg 4 (
    oSeq (oLoad g014 s106) <|
    oSeq (oP (vLen g106) s107) <|
    oSeq (oP (vEql g107 (kc (.int .i64 0))) s110) <|
    oMv g110 s105)) <|
   cCond g105
    (cSkip)
    (cSeq (cReg 9 (
     oSeq (oP (vFA 0 g007) s112) <|
     oSeq (oP (vFA 0 g112) s113) <|
     oSeq (oLoad g113 s114) <|
     oSeq (oMv g114 s115) <|
     oSeq (oGuard g115 true s116 (oP (vFA 3 g007) s116)) <|
     oSeq (oGuard g115 true s117 (oP (vFA 0 g116) s117)) <|
     oSeq (oGuard g115 true s120 (oLoad g117 s120)) <|
     oSeq (oP (vPick g115 g120 (kc (.bool false))) s121) <|
     oMv g121 s111)) <|
    cCond g111
     (cDrw 6 (
      dSeq (dLook 0 [] (oLoad g015 s122)) <|
      dSeq (dLook 0 [] (oP (vFA 0 g004) s123)) <|
      dSeq (dLook 0 [] (oLoad g123 s124)) <|
      dSeq (dLook 0 [] (oLoad g005 s125)) <|
      dSeq (dAct 0 [] (oCallF 27 (fun T => [g124 T, g125 T, (.int .u8 1), (.int .i64 1)]) s126)) <|
      dSeq (dAct 0 [] (oCall g122 (fun T => [g126 T]) s127)) <|
      dNop)
      (ckSeq (ckOne g122 1 [] (oLoad g015 s122)) <|
     ckNop) [])
     (cSeq (cReg 4 (
      oSeq (oP (vFA 0 g007) s131) <|
      oSeq (oP (vFA 0 g131) s132) <|
      oSeq (oLoad g132 s133) <|
      oMv g133 s130)) <|
     cCond g130
      (cDrw 6 (
       dSeq (dLook 0 [] (oLoad g015 s134)) <|
       dSeq (dLook 0 [] (oP (vFA 0 g004) s135)) <|
       dSeq (dLook 0 [] (oLoad g135 s136)) <|
       dSeq (dLook 0 [] (oLoad g005 s137)) <|
       dSeq (dAct 0 [] (oCallF 27 (fun T => [g136 T, g137 T, (.int .u8 2), (.int .i64 (-1))]) s140)) <|
       dSeq (dAct 0 [] (oCall g134 (fun T => [g140 T]) s141)) <|
       dNop)
       (ckSeq (ckOne g134 1 [] (oLoad g015 s134)) <|
      ckNop) [])
      (cSeq (cReg 4 (
       oSeq (oP (vFA 3 g007) s143) <|
       oSeq (oP (vFA 0 g143) s144) <|
       oSeq (oLoad g144 s145) <|
       oMv g145 s142)) <|
      cCond g142
       (cDrw 6 (
        dSeq (dLook 0 [] (oLoad g015 s146)) <|
        dSeq (dLook 0 [] (oP (vFA 0 g004) s147)) <|
        dSeq (dLook 0 [] (oLoad g147 s150)) <|
        dSeq (dLook 0 [] (oLoad g005 s151)) <|
        dSeq (dAct 0 [] (oCallF 27 (fun T => [g150 T, g151 T, (.int .u8 2), (.int .i64 1)]) s152)) <|
        dSeq (dAct 0 [] (oCall g146 (fun T => [g152 T]) s153)) <|
        dNop)
        (ckSeq (ckOne g146 1 [] (oLoad g015 s146)) <|
       ckNop) [])
       (cSkip)))))) <|
  cSeq (cReg 8 (
   oSeq (oP (vFA 0 g004) s154) <|
   oSeq (oLoad g154 s155) <|
   oSeq (oLoad g014 s156) <|
   oSeq (oCallF 28 (fun T => [g155 T, g156 T]) s157) <|
   oSeq (oP (vExt 0 g157) s160) <|
   oSeq (oP (vExt 1 g157) s161) <|
   oSeq (oStoreN 3 g010 g160 noPut) <|
   oMv g161 s011)) <|
  cExit 0⟩
noncomputable def ffn20 : FFn := ⟨2, 18, [(4, none)],
  cSeq (cReg 2 (
   oSeq (oBox 25 g000 0 s002) <|
   oMv (kc (.int .i64 0)) s004)) <|
  cSeq (cBlock 1 (cSeq (cReg 4 (
    oSeq (oLoadN 3 g002 s006) <|
    oSeq (oCallF 45 (fun T => [g006 T]) s007) <|
    oSeq (oP (vNeq g007 (kc (.int .i64 0))) s010) <|
    oMv g010 s005)) <|
   cCond g005
    (cSeq (cReg 1 (
     oMv (kc (.int .i64 8)) s004)) <|
    cExit 0)
    (cSeq (cReg 9 (
     oSeq (oMv g001 s012) <|
     oSeq (oP (vLss g012 (kc (.int .i64 0))) s013) <|
     oSeq (oMv g013 s014) <|
     oSeq (oGuard g014 false s015 (oMv g001 s015)) <|
     oSeq (oGuard g014 false s016 (oP (vFA 0 g002) s016)) <|
     oSeq (oGuard g014 false s017 (oLoad g016 s017)) <|
     oSeq (oGuard g014 false s020 (oP (vGeq g015 g017) s020)) <|
     oSeq (oP (vPick g014 (kc (.bool true)) g020) s021) <|
     oMv g021 s011)) <|
    cCond g011
     (cSeq (cReg 1 (
      oMv (kc (.int .i64 2)) s004)) <|
     cExit 0)
     (cSkip)))) <|
  cSeq (cReg 1 (
   oMv (kc (.int .i64 0)) s004)) <|
  cExit 0⟩
noncomputable def ffn45 : FFn := ⟨1, 45, [(2, none)],
  cSeq (cReg 2 (
   oSeq (oBox 25 g000 0 s001) <|
   oMv (kc (.int .i64 0)) s002)) <|
  cSeq (cSeq (cReg 4 (
   oSeq (oP (vFA 1 g001) s007) <|
   oSeq (oLoad g007 s010) <|
   oSeq (oP (vLen g010) s011) <|
   oP (vLeq g011 (kc (.int .i64 60))) s012)) <|
  cCond g012
   (cSeq (cReg 11 (
    oSeq (oP (vFA 0 g001) s014) <|
    oSeq (oLoad g014 s015) <|
    oSeq (oP (vFA 1 g001) s016) <|
    oSeq (oLoad g016 s017) <|
    oSeq (oCallF 5 (fun T => [g015 T, g017 T]) s020) <|
    oSeq (oMv g020 s013) <|
    oSeq (oP (vExt 0 g013) s021) <|
    oSeq (oP (vExt 1 g013) s022) <|
    oSeq (oAlloc 25 [(.int .i64 0), .nilSl, .nilSl] 8 s003) <|
    oSeq (oStoreN 3 g003 g021 noPut) <|
    oMv g022 s004)) <|
   cSeq (cReg 7 (
    oSeq (oMv g004 s023) <|
    oSeq (oP (vEql g023 (kc (.int .i64 0))) s024) <|
    oSeq (oMv g024 s025) <|
    oSeq (oGuard g025 true s026 (oLoadN 3 g001 s026)) <|
    oSeq (oGuard g025 true s027 (oLoadN 3 g003 s027)) <|
    oSeq (oGuard g025 true s030 (oCallF 80 (fun T => [g026 T, g027 T]) s030)) <|
    oP (vPick g025 g030 (kc (.bool false))) s031)) <|
   cCond g031
    (cSeq (cReg 1 (
     oMv (kc (.int .i64 0)) s002)) <|
    cExit 0)
    (cSkip))
   (cSkip)) <|
  cSeq (cSeq (cReg 4 (
   oSeq (oP (vFA 2 g001) s032) <|
   oSeq (oLoad g032 s033) <|
   oSeq (oP (vLen g033) s034) <|
   oP (vLeq g034 (kc (.int .i64 60))) s035)) <|
  cCond g035
   (cSeq (cReg 11 (
    oSeq (oP (vFA 0 g001) s037) <|
    oSeq (oLoad g037 s040) <|
    oSeq (oP (vFA 2 g001) s041) <|
    oSeq (oLoad g041 s042) <|
    oSeq (oCallF 28 (fun T => [g040 T, g042 T]) s043) <|
    oSeq (oMv g043 s036) <|
    oSeq (oP (vExt 0 g036) s044) <|
    oSeq (oP (vExt 1 g036) s045) <|
    oSeq (oAlloc 25 [(.int .i64 0), .nilSl, .nilSl] 8 s005) <|
    oSeq (oStoreN 3 g005 g044 noPut) <|
    oMv g045 s006)) <|
   cSeq (cReg 7 (
    oSeq (oMv g006 s046) <|
    oSeq (oP (vEql g046 (kc (.int .i64 0))) s047) <|
    oSeq (oMv g047 s050) <|
    oSeq (oGuard g050 true s051 (oLoadN 3 g001 s051)) <|
    oSeq (oGuard g050 true s052 (oLoadN 3 g005 s052)) <|
    oSeq (oGuard g050 true s053 (oCallF 80 (fun T => [g051 T, g052 T]) s053)) <|
    oP (vPick g050 g053 (kc (.bool false))) s054)) <|
   cCond g054
    (cSeq (cReg 1 (
     oMv (kc (.int .i64 0)) s002)) <|
    cExit 0)
    (cSkip))
   (cSkip)) <|
  cSeq (cReg 1 (
   oMv (kc (.int .i64 8)) s002)) <|
  cExit 0⟩
noncomputable def ffn80 : FFn := ⟨2, 28, [(4, none)],
  cSeq (cReg 3 (
   oSeq (oBox 25 g000 0 s002) <|
   oSeq (oBox 25 g001 1 s003) <|
   oMv (kc (.bool false)) s004)) <|
  cSeq (cReg 1 (
   oMv (kc (.fn (.func 110) [] [])) s005)) <|
  cSeq (cReg 1 (
   oMv (kc (.fn (.func 111) [] [])) s006)) <|
  cSeq (cReg 22 (
   oSeq (oP (vFA 0 g002) s007) <|
   oSeq (oLoad g007 s010) <|
   oSeq (oP (vFA 0 g003) s011) <|
   oSeq (oLoad g011 s012) <|
   oSeq (oP (vEql g010 g012) s013) <|
   oSeq (oMv g013 s014) <|
   oSeq (oGuard g014 true s015 (oP (vFA 1 g002) s015)) <|
   oSeq (oGuard g014 true s016 (oLoad g015 s016)) <|
   oSeq (oGuard g014 true s017 (oP (vFA 1 g003) s017)) <|
   oSeq (oGuard g014 true s020 (oLoad g017 s020)) <|
   oSeq (oGuard g014 true s021 (oMv g005 s021)) <|
   oSeq (oGuard g014 true s022 (oCallF 112 (fun T => [g016 T, g020 T, g021 T]) s022)) <|
   oSeq (oP (vPick g014 g022 (kc (.bool false))) s023) <|
   oSeq (oMv g023 s024) <|
   oSeq (oGuard g024 true s025 (oP (vFA 2 g002) s025)) <|
   oSeq (oGuard g024 true s026 (oLoad g025 s026)) <|
   oSeq (oGuard g024 true s027 (oP (vFA 2 g003) s027)) <|
   oSeq (oGuard g024 true s030 (oLoad g027 s030)) <|
   oSeq (oGuard g024 true s031 (oMv g006 s031)) <|
   oSeq (oGuard g024 true s032 (oCallF 113 (fun T => [g026 T, g030 T, g031 T]) s032)) <|
   oSeq (oP (vPick g024 g032 (kc (.bool false))) s033) <|
   oMv g033 s004)) <|
  cExit 0⟩
noncomputable def ffn110 : FFn := ⟨2, 17, [(4, none)],
  cSeq (cReg 3 (
   oSeq (oBox 34 g000 0 s002) <|
   oSeq (oBox 34 g001 1 s003) <|
   oMv (kc (.bool false)) s004)) <|
  cSeq (cReg 13 (
   oSeq (oP (vFA 1 g002) s005) <|
   oSeq (oLoad g005 s006) <|
   oSeq (oP (vFA 1 g003) s007) <|
   oSeq (oLoad g007 s010) <|
   oSeq (oGen (.bin .eql .bool (.t 6) (.t 8)) 4 s011) <|
   oSeq (oMv g011 s012) <|
   oSeq (oGuard g012 true s013 (oP (vFA 0 g002) s013)) <|
   oSeq (oGuard g012 true s014 (oLoad g013 s014)) <|
   oSeq (oGuard g012 true s015 (oP (vFA 0 g003) s015)) <|
   oSeq (oGuard g012 true s016 (oLoad g015 s016)) <|
   oSeq (oGuard g012 true s017 (oCallF 67 (fun T => [g014 T, g016 T]) s017)) <|
   oSeq (oP (vPick g012 g017 (kc (.bool false))) s020) <|
   oMv g020 s004)) <|
  cExit 0⟩
noncomputable def ffn111 : FFn := ⟨2, 17, [(4, none)],
  cSeq (cReg 3 (
   oSeq (oBox 62 g000 0 s002) <|
   oSeq (oBox 62 g001 1 s003) <|
   oMv (kc (.bool false)) s004)) <|
  cSeq (cReg 13 (
   oSeq (oP (vFA 0 g002) s005) <|
   oSeq (oLoad g005 s006) <|
   oSeq (oP (vFA 0 g003) s007) <|
   oSeq (oLoad g007 s010) <|
   oSeq (oP (vEql g006 g010) s011) <|
   oSeq (oMv g011 s012) <|
   oSeq (oGuard g012 true s013 (oP (vFA 1 g002) s013)) <|
   oSeq (oGuard g012 true s014 (oLoad g013 s014)) <|
   oSeq (oGuard g012 true s015 (oP (vFA 1 g003) s015)) <|
   oSeq (oGuard g012 true s016 (oLoad g015 s016)) <|
   oSeq (oGuard g012 true s017 (oCallF 67 (fun T => [g014 T, g016 T]) s017)) <|
   oSeq (oP (vPick g012 g017 (kc (.bool false))) s020) <|
   oMv g020 s004)) <|
  cExit 0⟩
noncomputable def ffn112 : FFn := ⟨3, 32, [(6, none)],
  cSeq (cReg 1 (
   oMv (kc (.bool false)) s006)) <|
  cSeq (cSeq (cReg 5 (
   oSeq (oMv g000 s012) <|
   oSeq (oP (vLen g012) s013) <|
   oSeq (oMv g001 s014) <|
   oSeq (oP (vLen g014) s015) <|
   oP (vNeq g013 g015) s016)) <|
  cCond g016
   (cSeq (cReg 1 (
    oMv (kc (.bool false)) s006)) <|
   cExit 0)
   (cSkip)) <|
  cSeq (cSeq (cReg 3 (
   oSeq (oMv g000 s017) <|
   oSeq (oP (vLen g017) s020) <|
   oMv (kc (.int .i64 0)) s021)) <|
  cBlock 1 (cLoop 1000000 (cSeq (cReg 1 (
     oP (vLss g021 g020) s022)) <|
    cSeq (cCond g022
     (cSkip)
     (cExit 1)) <|
    cSeq (cBlock 3 (cSeq (cReg 6 (
      oSeq (oMv g021 s023) <|
      oSeq (oP (vIdx 2 g017 g021) s024) <|
      oSeq (oLoadN 2 g024 s025) <|
      oSeq (oAlloc 34 [.nilSl, (.bool false)] 3 s010) <|
      oSeq (oMv g023 s007) <|
      oStoreN 2 g010 g025 noPut)) <|
     cSeq (cReg 6 (
      oSeq (oMv g001 s026) <|
      oSeq (oMv g007 s027) <|
      oSeq (oP (vIdx 2 g026 g027) s030) <|
      oSeq (oLoadN 2 g030 s031) <|
      oSeq (oAlloc 34 [.nilSl, (.bool false)] 4 s011) <|
      oStoreN 2 g011 g031 noPut)) <|
     cSeq (cReg 5 (
      oSeq (oMv g002 s032) <|
      oSeq (oLoadN 2 g010 s033) <|
      oSeq (oLoadN 2 g011 s034) <|
      oSeq (oCall g032 (fun T => [g033 T, g034 T]) s035) <|
      oGen (.un .not (.t 29)) 4 s036)) <|
     cCond g036
      (cSeq (cReg 1 (
       oMv (kc (.bool false)) s006)) <|
      cExit 0)
      (cSkip))) <|
    cReg 2 (
     oSeq (oP (vAdd g021 (kc (.int .i64 1))) s037) <|
     oMv g037 s021)))) <|
  cSeq (cReg 1 (
   oMv (kc (.bool true)) s006)) <|
  cExit 0⟩
noncomputable def ffn113 : FFn := ⟨3, 32, [(6, none)],
  cSeq (cReg 1 (
   oMv (kc (.bool false)) s006)) <|
  cSeq (cSeq (cReg 5 (
   oSeq (oMv g000 s012) <|
   oSeq (oP (vLen g012) s013) <|
   oSeq (oMv g001 s014) <|
   oSeq (oP (vLen g014) s015) <|
   oP (vNeq g013 g015) s016)) <|
  cCond g016
   (cSeq (cReg 1 (
    oMv (kc (.bool false)) s006)) <|
   cExit 0)
   (cSkip)) <|
  cSeq (cSeq (cReg 3 (
   oSeq (oMv g000 s017) <|
   oSeq (oP (vLen g017) s020) <|
   oMv (kc (.int .i64 0)) s021)) <|
  cBlock 1 (cLoop 1000000 (cSeq (cReg 1 (
     oP (vLss g021 g020) s022)) <|
    cSeq (cCond g022
     (cSkip)
     (cExit 1)) <|
    cSeq (cBlock 3 (cSeq (cReg 6 (
      oSeq (oMv g021 s023) <|
      oSeq (oP (vIdx 2 g017 g021) s024) <|
      oSeq (oLoadN 2 g024 s025) <|
      oSeq (oAlloc 62 [(.int .u8 0), .nilSl] 3 s010) <|
      oSeq (oMv g023 s007) <|
      oStoreN 2 g010 g025 noPut)) <|
     cSeq (cReg 6 (
      oSeq (oMv g001 s026) <|
      oSeq (oMv g007 s027) <|
      oSeq (oP (vIdx 2 g026 g027) s030) <|
      oSeq (oLoadN 2 g030 s031) <|
      oSeq (oAlloc 62 [(.int .u8 0), .nilSl] 4 s011) <|
      oStoreN 2 g011 g031 noPut)) <|
     cSeq (cReg 5 (
      oSeq (oMv g002 s032) <|
      oSeq (oLoadN 2 g010 s033) <|
      oSeq (oLoadN 2 g011 s034) <|
      oSeq (oCall g032 (fun T => [g033 T, g034 T]) s035) <|
      oGen (.un .not (.t 29)) 4 s036)) <|
     cCond g036
      (cSeq (cReg 1 (
       oMv (kc (.bool false)) s006)) <|
      cExit 0)
      (cSkip))) <|
    cReg 2 (
     oSeq (oP (vAdd g021 (kc (.int .i64 1))) s037) <|
     oMv g037 s021)))) <|
  cSeq (cReg 1 (
   oMv (kc (.bool true)) s006)) <|
  cExit 0⟩
noncomputable def ffn28 : FFn := ⟨2, 29, [(4, (some (some 3))), (5, none)],
  cSeq (cReg 2 (
   oSeq (oAlloc 25 [(.int .i64 0), .nilSl, .nilSl] 0 s004) <|
   oMv (kc (.int .i64 0)) s005)) <|
  cSeq (cSeq (cReg 4 (
   oSeq (oMv g000 s010) <|
   oSeq (oMv g001 s011) <|
   oSeq (oCallF 56 (fun T => [g010 T, g011 T, (.fn (.func 57) [] []), (.fn (.func 58) [] [])]) s012) <|
   oMv g012 s006)) <|
  cSeq (cReg 2 (
   oSeq (oMv g006 s013) <|
   oP (vNeq g013 (kc (.int .i64 0))) s014)) <|
  cCond g014
   (cSeq (cReg 4 (
    oSeq (oP (vBuild [(.int .i64 0), .nilSl, .nilSl] []) s015) <|
    oSeq (oMv g006 s016) <|
    oSeq (oStoreN 3 g004 g015 noPut) <|
    oMv g016 s005)) <|
   cExit 0)
   (cSkip)) <|
  cSeq (cReg 4 (
   oSeq (oMv g000 s017) <|
   oSeq (oMv g001 s020) <|
   oSeq (oCallF 37 (fun T => [g017 T, g020 T]) s021) <|
   oMv g021 s007)) <|
  cSeq (cSeq (cReg 3 (
   oSeq (oMv g007 s022) <|
   oSeq (oP (vLen g022) s023) <|
   oP (vGeq g023 (kc (.int .i64 1024))) s024)) <|
  cCond g024
   (cSeq (cReg 3 (
    oSeq (oP (vBuild [(.int .i64 0), .nilSl, .nilSl] []) s025) <|
    oSeq (oStoreN 3 g004 g025 noPut) <|
    oMv (kc (.int .i64 4)) s005)) <|
   cExit 0)
   (cSkip)) <|
  cSeq (cReg 9 (
   oSeq (oMv g000 s026) <|
   oSeq (oMv g000 s027) <|
   oSeq (oMv g007 s030) <|
   oSeq (oCallF 18 (fun T => [g027 T, g030 T]) s031) <|
   oSeq (oCallF 17 (fun T => [g026 T, g031 T]) s032) <|
   oSeq (oP (vExt 0 g032) s033) <|
   oSeq (oP (vExt 1 g032) s034) <|
   oSeq (oStoreN 3 g004 g033 noPut) <|
   oMv g034 s005)) <|
  cExit 0⟩
noncomputable def ffn56 : FFn := ⟨4, 28, [(8, none)],
  cSeq (cReg 4 (
   oSeq (oBox 3 g000 0 s004) <|
   oSeq (oBox 100 g002 1 s006) <|
   oSeq (oBox 101 g003 2 s007) <|
   oMv (kc (.int .i64 0)) s010)) <|
  cSeq (cBlock 1 (cSeq (cReg 7 (
    oSeq (oLoad g004 s012) <|
    oSeq (oP (vLss g012 (kc (.int .i64 0))) s013) <|
    oSeq (oMv g013 s014) <|
    oSeq (oGuard g014 false s015 (oLoad g004 s015)) <|
    oSeq (oGuard g014 false s016 (oP (vGtr g015 (kc (.int .i64 8))) s016)) <|
    oSeq (oP (vPick g014 (kc (.bool true)) g016) s017) <|
    oMv g017 s011)) <|
   cCond g011
    (cSeq (cReg 1 (
     oMv (kc (.int .i64 2)) s010)) <|
    cExit 0)
    (cSeq (cReg 4 (
     oSeq (oMv g001 s021) <|
     oSeq (oP (vLen g021) s022) <|
     oSeq (oP (vGtr g022 (kc (.int .i64 60))) s023) <|
     oMv g023 s020)) <|
    cCond g020
     (cSeq (cReg 1 (
      oMv (kc (.int .i64 4)) s010)) <|
     cExit 0)
     (cSeq (cReg 4 (
      oSeq (oMv g001 s025) <|
      oSeq (oGen (.mkfn (.func 90) [] [(.t 6), (.t 7)]) 1 s026) <|
      oSeq (oCallF 89 (fun T => [g025 T, g026 T]) s027) <|
      oMv g027 s024)) <|
     cCond g024
      (cSeq (cReg 1 (
       oMv (kc (.int .i64 8)) s010)) <|
      cExit 0)
      (cSeq (cReg 4 (
       oSeq (oMv g001 s031) <|
       oSeq (oGen (.mkfn (.func 91) [] [(.t 6), (.t 4)]) 1 s032) <|
       oSeq (oCallF 89 (fun T => [g031 T, g032 T]) s033) <|
       oMv g033 s030)) <|
      cCond g030
       (cSeq (cReg 1 (
        oMv (kc (.int .i64 70)) s010)) <|
       cExit 0)
       (cSkip)))))) <|
  cSeq (cReg 1 (
   oMv (kc (.int .i64 0)) s010)) <|
  cExit 0⟩
noncomputable def ffn90 : FFn := ⟨3, 15, [(4, none)],
  cSeq (cReg 2 (
   oSeq (oBox 62 g000 0 s003) <|
   oMv (kc (.bool false)) s004)) <|
  cSeq (cReg 11 (
   oSeq (oLoad g001 s005) <|
   oSeq (oLoadN 2 g003 s006) <|
   oSeq (oCall g005 (fun T => [g006 T]) s007) <|
   oSeq (oCallF 21 (fun T => [g007 T]) s010) <|
   oSeq (oP (vNeq g010 (kc (.int .i64 0))) s011) <|
   oSeq (oMv g011 s012) <|
   oSeq (oGuard g012 false s013 (oLoad g002 s013)) <|
   oSeq (oGuard g012 false s014 (oLoadN 2 g003 s014)) <|
   oSeq (oGuard g012 false s015 (oCall g013 (fun T => [g014 T]) s015)) <|
   oSeq (oP (vPick g012 (kc (.bool true)) g015) s016) <|
   oMv g016 s004)) <|
  cExit 0⟩
noncomputable def ffn89 : FFn := ⟨2, 9, [(4, none)],
  cSeq (cReg 1 (
   oMv (kc (.bool false)) s004)) <|
  cSeq (cReg 5 (
   oSeq (oMv g000 s005) <|
   oSeq (oMv g001 s006) <|
   oSeq (oCallF 118 (fun T => [g005 T, g006 T]) s007) <|
   oSeq (oP (vGeq g007 (kc (.int .i64 0))) s010) <|
   oMv g010 s004)) <|
  cExit 0⟩
noncomputable def ffn118 : FFn := ⟨2, 19, [(4, none)],
  cSeq (cReg 1 (
   oMv (kc (.int .i64 0)) s004)) <|
  cSeq (cSeq (cReg 3 (
   oSeq (oMv g000 s006) <|
   oSeq (oP (vLen g006) s007) <|
   oMv (kc (.int .i64 0)) s010)) <|
  cBlock 1 (cLoop 1000000 (cSeq (cReg 1 (
     oP (vLss g010 g007) s011)) <|
    cSeq (cCond g011
     (cSkip)
     (cExit 1)) <|
    cSeq (cBlock 3 (cSeq (cReg 2 (
      oSeq (oMv g010 s012) <|
      oMv g012 s005)) <|
     cSeq (cReg 6 (
      oSeq (oMv g001 s013) <|
      oSeq (oMv g000 s014) <|
      oSeq (oMv g005 s015) <|
      oSeq (oP (vIdx 2 g014 g015) s016) <|
      oSeq (oLoadN 2 g016 s017) <|
      oCall g013 (fun T => [g017 T]) s020)) <|
     cCond g020
      (cSeq (cReg 2 (
       oSeq (oMv g005 s021) <|
       oMv g021 s004)) <|
      cExit 0)
      (cSkip))) <|
    cReg 2 (
     oSeq (oP (vAdd g010 (kc (.int .i64 1))) s022) <|
     oMv g022 s010)))) <|
  cSeq (cReg 1 (
   oMv (kc (.int .i64 (-1))) s004)) <|
  cExit 0⟩
noncomputable def ffn91 : FFn := ⟨3, 12, [(4, none)],
  cSeq (cReg 2 (
   oSeq (oBox 62 g000 0 s003) <|
   oMv (kc (.bool false)) s004)) <|
  cSeq (cDrw 8 (
   dSeq (dLook 0 [] (oLoad g001 s005)) <|
   dSeq (dLook 0 [] (oLoadN 2 g003 s006)) <|
   dSeq (dAct 0 [] (oCall g005 (fun T => [g006 T]) s007)) <|
   dSeq (dLook 0 [] (oP (vLen g007) s010)) <|
   dSeq (dLook 1 [] (oLoad g002 s011)) <|
   dSeq (dLook 0 [] (oP (vAdd g011 (kc (.int .i64 1))) s012)) <|
   dSeq (dLook 0 [] (oP (vNeq g010 g012) s013)) <|
   dSeq (dLook 0 [] (oMv g013 s004)) <|
   dNop)
   (ckSeq (ckOne g011 0 [] (oLoad g002 s011)) <|
  ckNop) []) <|
  cExit 0⟩
noncomputable def ffn57 : FFn := ⟨1, 5, [(2, none)],
  cSeq (cReg 2 (
   oSeq (oBox 62 g000 0 s001) <|
   oMv (kc .nilSl) s002)) <|
  cSeq (cReg 3 (
   oSeq (oP (vFA 1 g001) s003) <|
   oSeq (oLoad g003 s004) <|
   oMv g004 s002)) <|
  cExit 0⟩
noncomputable def ffn58 : FFn := ⟨1, 18, [(2, none)],
  cSeq (cReg 2 (
   oSeq (oBox 62 g000 0 s001) <|
   oMv (kc (.bool false)) s002)) <|
  cSeq (cSeq (cReg 2 (
   oSeq (oP (vFA 0 g001) s003) <|
   oLoad g003 s004)) <|
  cBlock 1 (cSeq (cSeq (cReg 2 (
    oSeq (oP (vEql g004 (kc (.int .u8 1))) s006) <|
    oMv g006 s005)) <|
   cCond g005
    (cSkip)
    (cReg 2 (
     oSeq (oP (vEql g004 (kc (.int .u8 2))) s007) <|
     oMv g007 s005))) <|
   cCond g005
    (cSeq (cReg 5 (
     oSeq (oP (vFA 1 g001) s010) <|
     oSeq (oLoad g010 s011) <|
     oSeq (oCallF 42 (fun T => [g011 T]) s012) <|
     oSeq (oP (vNeq g012 (kc (.int .i64 0))) s013) <|
     oMv g013 s002)) <|
    cExit 0)
    (cSeq (cReg 2 (
     oSeq (oP (vEql g004 (kc (.int .u8 3))) s015) <|
     oMv g015 s014)) <|
    cCond g014
     (cSeq (cReg 5 (
      oSeq (oP (vFA 1 g001) s016) <|
      oSeq (oLoad g016 s017) <|
      oSeq (oCallF 42 (fun T => [g017 T]) s020) <|
      oSeq (oP (vLeq g020 (kc (.int .i64 0))) s021) <|
      oMv g021 s002)) <|
     cExit 0)
     (cSkip)))) <|
  cSeq (cReg 1 (
   oMv (kc (.bool true)) s002)) <|
  cExit 0⟩
noncomputable def ffn22 : FFn := ⟨1, 37, [(2, none)],
  cSeq (cReg 2 (
   oSeq (oBox 44 g000 0 s001) <|
   oMv (kc (.int .i64 0)) s002)) <|
  cSeq (cSeq (cReg 10 (
   oSeq (oP (vFA 0 g001) s005) <|
   oSeq (oLoadN 3 g005 s006) <|
   oSeq (oCallF 49 (fun T => [g006 T]) s007) <|
   oSeq (oGen (.un .not (.t 7)) 3 s010) <|
   oSeq (oMv g010 s011) <|
   oSeq (oGuard g011 false s012 (oP (vFA 3 g001) s012)) <|
   oSeq (oGuard g011 false s013 (oLoadN 3 g012 s013)) <|
   oSeq (oGuard g011 false s014 (oCallF 49 (fun T => [g013 T]) s014)) <|
   oSeq (oGuard g011 false s015 (oGen (.un .not (.t 12)) 8 s015)) <|
   oP (vPick g011 (kc (.bool true)) g015) s016)) <|
  cCond g016
   (cSeq (cReg 1 (
    oMv (kc (.int .i64 8)) s002)) <|
   cExit 0)
   (cSkip)) <|
  cSeq (cSeq (cReg 10 (
   oSeq (oP (vFA 0 g001) s017) <|
   oSeq (oP (vFA 0 g017) s020) <|
   oSeq (oLoad g020 s021) <|
   oSeq (oGen (.un .not (.t 17)) 3 s022) <|
   oSeq (oMv g022 s023) <|
   oSeq (oGuard g023 true s024 (oP (vFA 3 g001) s024)) <|
   oSeq (oGuard g023 true s025 (oP (vFA 0 g024) s025)) <|
   oSeq (oGuard g023 true s026 (oLoad g025 s026)) <|
   oSeq (oGuard g023 true s027 (oGen (.un .not (.t 22)) 8 s027)) <|
   oP (vPick g023 g027 (kc (.bool false))) s030)) <|
  cCond g030
   (cSeq (cReg 12 (
    oSeq (oP (vFA 0 g001) s032) <|
    oSeq (oP (vFA 1 g032) s033) <|
    oSeq (oLoadN 2 g033 s034) <|
    oSeq (oP (vFA 3 g001) s035) <|
    oSeq (oP (vFA 1 g035) s036) <|
    oSeq (oLoadN 2 g036 s037) <|
    oSeq (oCallF 50 (fun T => [g034 T, g037 T]) s040) <|
    oSeq (oMv g040 s031) <|
    oSeq (oP (vExt 0 g031) s041) <|
    oSeq (oP (vExt 1 g031) s042) <|
    oSeq (oMv g041 s003) <|
    oMv g042 s004)) <|
   cSeq (cReg 2 (
    oSeq (oMv g003 s043) <|
    oP (vGtr g043 (kc (.int .i64 0))) s044)) <|
   cCond g044
    (cSeq (cReg 1 (
     oMv (kc (.int .i64 8)) s002)) <|
    cExit 0)
    (cSkip))
   (cSkip)) <|
  cSeq (cReg 1 (
   oMv (kc (.int .i64 0)) s002)) <|
  cExit 0⟩
noncomputable def ffn49 : FFn := ⟨1, 20, [(2, none)],
  cSeq (cReg 2 (
   oSeq (oBox 42 g000 0 s001) <|
   oMv (kc (.bool false)) s002)) <|
  cSeq (cSeq (cReg 2 (
   oSeq (oP (vFA 0 g001) s003) <|
   oLoad g003 s004)) <|
  cCond g004
   (cSeq (cReg 12 (
    oSeq (oP (vFA 1 g001) s005) <|
    oSeq (oP (vFA 0 g005) s006) <|
    oSeq (oLoad g006 s007) <|
    oSeq (oGen (.un .not (.t 7)) 3 s010) <|
    oSeq (oMv g010 s011) <|
    oSeq (oGuard g011 true s012 (oP (vFA 1 g001) s012)) <|
    oSeq (oGuard g011 true s013 (oP (vFA 1 g012) s013)) <|
    oSeq (oGuard g011 true s014 (oLoad g013 s014)) <|
    oSeq (oGuard g011 true s015 (oP (vLen g014) s015)) <|
    oSeq (oGuard g011 true s016 (oP (vEql g015 (kc (.int .i64 0))) s016)) <|
    oSeq (oP (vPick g011 g016 (kc (.bool false))) s017) <|
    oMv g017 s002)) <|
   cExit 0)
   (cSkip)) <|
  cSeq (cReg 5 (
   oSeq (oP (vFA 1 g001) s020) <|
   oSeq (oLoadN 2 g020 s021) <|
   oSeq (oCallF 48 (fun T => [g021 T]) s022) <|
   oSeq (oP (vEql g022 (kc (.int .i64 0))) s023) <|
   oMv g023 s002)) <|
  cExit 0⟩
noncomputable def ffn23 : FFn := ⟨2, 16, [(4, none)],
  cSeq (cReg 2 (
   oSeq (oBox 25 g000 0 s002) <|
   oMv (kc (.int .i64 0)) s004)) <|
  cSeq (cBlock 1 (cSeq (cReg 4 (
    oSeq (oMv g001 s006) <|
    oSeq (oCallF 21 (fun T => [g006 T]) s007) <|
    oSeq (oP (vNeq g007 (kc (.int .i64 0))) s010) <|
    oMv g010 s005)) <|
   cCond g005
    (cSeq (cReg 1 (
     oMv (kc (.int .i64 8)) s004)) <|
    cExit 0)
    (cSeq (cReg 7 (
     oSeq (oMv g001 s012) <|
     oSeq (oP (vLen g012) s013) <|
     oSeq (oP (vFA 0 g002) s014) <|
     oSeq (oLoad g014 s015) <|
     oSeq (oP (vAdd g015 (kc (.int .i64 1))) s016) <|
     oSeq (oP (vNeq g013 g016) s017) <|
     oMv g017 s011)) <|
    cCond g011
     (cSeq (cReg 1 (
      oMv (kc (.int .i64 70)) s004)) <|
     cExit 0)
     (cSkip)))) <|
  cSeq (cReg 1 (
   oMv (kc (.int .i64 0)) s004)) <|
  cExit 0⟩
noncomputable def ffn24 : FFn := ⟨2, 7, [],
  cSeq (cReg 1 (
   oBox 62 g000 0 s002)) <|
  cReg 5 (
   oSeq (oLoad g001 s003) <|
   oSeq (oLoadN 2 g002 s004) <|
   oSeq (oBuildSlice 62 2 [(.int .u8 0), .nilSl] 1 [((0, 2), g004)] 2 s005) <|
   oSeq (oGen (.append 2 32 62 [(.int .u8 0), .nilSl] (.t 3) (.t 5)) 3 s006) <|
   oStore g001 g006 noPut)⟩
noncomputable def ffn25 : FFn := ⟨4, 47, [(8, (some (some 2)))],
  cSeq (cReg 3 (
   oSeq (oBox 62 g000 0 s004) <|
   oSeq (oBox 40 g003 1 s007) <|
   oAlloc 62 [(.int .u8 0), .nilSl] 2 s010)) <|
  cSeq (cReg 10 (
   oSeq (oMv g002 s017) <|
   oSeq (oP (vFA 1 g004) s020) <|
   oSeq (oLoad g020 s021) <|
   oSeq (oCallF 51 (fun T => [g017 T, g021 T]) s022) <|
   oSeq (oMv g022 s016) <|
   oSeq (oP (vExt 0 g016) s023) <|
   oSeq (oP (vExt 1 g016) s024) <|
   oSeq (oAlloc 40 [(.bool false), .nilSl] 7 s011) <|
   oSeq (oStoreN 2 g011 g023 noPut) <|
   oMv g024 s012)) <|
  cSeq (cDrw 12 (
   dSeq (dLook 0 [] (oP (vFA 1 g004) s026)) <|
   dSeq (dLook 0 [] (oLoad g026 s027)) <|
   dSeq (dLook 0 [] (oP (vIdx 2 g027 (kc (.int .i64 0))) s030)) <|
   dSeq (dLook 0 [] (oLoadN 2 g030 s031)) <|
   dSeq (dLook 0 [] (oLoadN 2 g007 s032)) <|
   dSeq (dAct 0 [] (oCallF 52 (fun T => [g031 T, g032 T]) s033)) <|
   dSeq (dLook 0 [] (oMv g033 s025)) <|
   dSeq (dLook 0 [] (oP (vExt 0 g025) s034)) <|
   dSeq (dLook 0 [] (oP (vExt 1 g025) s035)) <|
   dSeq (dMake 9 (oAlloc 40 [(.bool false), .nilSl] 9 s013)) <|
   dSeq (dAct 0 [(9, 0)] (oStoreN 2 g013 g034 noPut)) <|
   dSeq (dLook 0 [] (oMv g035 s014)) <|
   dNop)
   (ckNop) []) <|
  cSeq (cReg 4 (
   oSeq (oP (vFA 1 g004) s036) <|
   oSeq (oLoad g036 s037) <|
   oSeq (oCallF 30 (fun T => [g037 T]) s040) <|
   oMv g040 s015)) <|
  cSeq (cReg 11 (
   oSeq (oMv g015 s042) <|
   oSeq (oMv g001 s043) <|
   oSeq (oP (vAdd g043 (kc (.int .i64 1))) s044) <|
   oSeq (oLoadN 2 g011 s045) <|
   oSeq (oLoadN 2 g013 s046) <|
   oSeq (oCallF 53 (fun T => [g045 T, g046 T]) s047) <|
   oSeq (oMv g047 s041) <|
   oSeq (oP (vExt 0 g041) s050) <|
   oSeq (oP (vExt 1 g041) s051) <|
   oSeq (oP (vIdx 2 g042 g044) s052) <|
   oStoreN 2 g052 g050 noPut)) <|
  cSeq (cReg 5 (
   oSeq (oP (vFA 0 g004) s053) <|
   oSeq (oLoad g053 s054) <|
   oSeq (oMv g015 s055) <|
   oSeq (oP (vBuild [(.int .u8 0), .nilSl] [((0, 1), g054), ((1, 1), g055)]) s056) <|
   oStoreN 2 g010 g056 noPut)) <|
  cExit 0⟩
noncomputable def ffn30 : FFn := ⟨1, 8, [(2, none)],
  cSeq (cReg 1 (
   oMv (kc .nilSl) s002)) <|
  cSeq (cSeq (cReg 2 (
   oSeq (oMv g000 s003) <|
   oGen (.bin .eql .sl (.t 3) (.c .nilSl)) 1 s004)) <|
  cCond g004
   (cSeq (cReg 1 (
    oMv (kc .nilSl) s002)) <|
   cExit 0)
   (cSkip)) <|
  cSeq (cReg 4 (
   oSeq (oBuildSlice 40 2 [] 0 [] 0 s005) <|
   oSeq (oMv g000 s006) <|
   oSeq (oGen (.append 2 32 40 [(.bool false), .nilSl] (.t 5) (.t 6)) 2 s007) <|
   oMv g007 s002)) <|
  cExit 0⟩
noncomputable def ffn26 : FFn := ⟨1, 4, [(2, none)],
  cSeq (cReg 2 (
   oSeq (oBox 44 g000 0 s001) <|
   oMv (kc .nilFn) s002)) <|
  cSeq (cReg 2 (
   oSeq (oGen (.mkfn (.func 54) [] [(.t 1)]) 0 s003) <|
   oMv g003 s002)) <|
  cExit 0⟩
noncomputable def ffn54 : FFn := ⟨2, 50, [],
  cSeq (cDrw 8 (
   dSeq (dLook 0 [] (oP (vFA 0 g001) s005)) <|
   dSeq (dLook 0 [] (oLoadN 3 g005 s006)) <|
   dSeq (dLook 0 [] (oP (vFA 3 g001) s007)) <|
   dSeq (dLook 0 [] (oLoadN 3 g007 s010)) <|
   dSeq (dMake 4 (oAlloc 42 [(.bool false), (.bool false), .nilSl] 4 s003)) <|
   dSeq (dMake 5 (oAlloc 42 [(.bool false), (.bool false), .nilSl] 5 s004)) <|
   dSeq (dAct 0 [(4, 1), (5, 0)] (oStoreN 3 g003 g006 noPut)) <|
   dSeq (dAct 0 [] (oStoreN 3 g004 g010 noPut)) <|
   dNop)
   (ckSeq (ckOne g010 1 [] (oLoadN 3 g007 s010)) <|
  ckNop) []) <|
  cBlock 1 (cSeq (cReg 7 (
    oSeq (oP (vFA 0 g003) s024) <|
    oSeq (oLoad g024 s025) <|
    oSeq (oMv g025 s026) <|
    oSeq (oGuard g026 true s027 (oP (vFA 0 g004) s027)) <|
    oSeq (oGuard g026 true s030 (oLoad g027 s030)) <|
    oSeq (oP (vPick g026 g030 (kc (.bool false))) s031) <|
    oMv g031 s023)) <|
   cCond g023
    (cReg 3 (
     oSeq (oMv g000 s032) <|
     oSeq (oP (vBuild [(.bool false), .nilSl] []) s033) <|
     oCall g032 (fun T => [g033 T]) s034))
    (cSeq (cReg 3 (
     oSeq (oP (vFA 0 g003) s036) <|
     oSeq (oLoad g036 s037) <|
     oMv g037 s035)) <|
    cCond g035
     (cReg 4 (
      oSeq (oMv g000 s040) <|
      oSeq (oP (vFA 1 g004) s041) <|
      oSeq (oLoadN 2 g041 s042) <|
      oCall g040 (fun T => [g042 T]) s043))
     (cSeq (cReg 10 (
      oSeq (oP (vFA 0 g004) s045) <|
      oSeq (oLoad g045 s046) <|
      oSeq (oMv g046 s047) <|
      oSeq (oGuard g047 false s050 (oP (vFA 1 g003) s050)) <|
      oSeq (oGuard g047 false s051 (oLoadN 2 g050 s051)) <|
      oSeq (oGuard g047 false s052 (oP (vFA 1 g004) s052)) <|
      oSeq (oGuard g047 false s053 (oLoadN 2 g052 s053)) <|
      oSeq (oGuard g047 false s054 (oCallF 55 (fun T => [g051 T, g053 T]) s054)) <|
      oSeq (oP (vPick g047 (kc (.bool true)) g054) s055) <|
      oMv g055 s044)) <|
     cCond g044
      (cReg 4 (
       oSeq (oMv g000 s056) <|
       oSeq (oP (vFA 1 g003) s057) <|
       oSeq (oLoadN 2 g057 s060) <|
       oCall g056 (fun T => [g060 T]) s061))
      (cReg 10 (
       oSeq (oMv g000 s011) <|
       oSeq (oP (vFA 1 g003) s012) <|
       oSeq (oLoadN 2 g012 s013) <|
       oSeq (oCall g011 (fun T => [g013 T]) s014) <|
       oSeq (oMv g014 s015) <|
       oSeq (oGuard g015 true s016 (oMv g000 s016)) <|
       oSeq (oGuard g015 true s017 (oP (vFA 1 g004) s017)) <|
       oSeq (oGuard g015 true s020 (oLoadN 2 g017 s020)) <|
       oSeq (oGuard g015 true s021 (oCall g016 (fun T => [g020 T]) s021)) <|
       oP (vPick g015 g021 (kc (.bool false))) s022)))))⟩
noncomputable def ffn27 : FFn := ⟨4, 22, [(8, (some (some 2)))],
  cSeq (cReg 1 (
   oAlloc 62 [(.int .u8 0), .nilSl] 0 s010)) <|
  cSeq (cReg 4 (
   oSeq (oMv g000 s012) <|
   oSeq (oP (vAdd g012 (kc (.int .i64 1))) s013) <|
   oSeq (oGen (.mksl 40 2 32 [(.bool false), .nilSl] (.t 11) (.t 11)) 2 s014) <|
   oMv g014 s011)) <|
  cSeq (cReg 7 (
   oSeq (oMv g011 s015) <|
   oSeq (oMv g001 s016) <|
   oSeq (oP (vAdd g016 (kc (.int .i64 1))) s017) <|
   oSeq (oMv g003 s020) <|
   oSeq (oCallF 19 (fun T => [g020 T]) s021) <|
   oSeq (oP (vIdx 2 g015 g017) s022) <|
   oStoreN 2 g022 g021 noPut)) <|
  cSeq (cReg 4 (
   oSeq (oMv g002 s023) <|
   oSeq (oMv g011 s024) <|
   oSeq (oP (vBuild [(.int .u8 0), .nilSl] [((0, 1), g023), ((1, 1), g024)]) s025) <|
   oStoreN 2 g010 g025 noPut)) <|
  cExit 0⟩
noncomputable def ffn9 : FFn := ⟨2, 34, [(4, (some (some 3))), (5, none)],
  cSeq (cReg 3 (
   oSeq (oBox 25 g000 0 s002) <|
   oSeq (oAlloc 25 [(.int .i64 0), .nilSl, .nilSl] 1 s004) <|
   oMv (kc (.int .i64 0)) s005)) <|
  cSeq (cSeq (cReg 4 (
   oSeq (oLoadN 3 g002 s010) <|
   oSeq (oMv g001 s011) <|
   oSeq (oCallF 20 (fun T => [g010 T, g011 T]) s012) <|
   oMv g012 s006)) <|
  cSeq (cReg 2 (
   oSeq (oMv g006 s013) <|
   oP (vNeq g013 (kc (.int .i64 0))) s014)) <|
  cCond g014
   (cSeq (cReg 4 (
    oSeq (oP (vBuild [(.int .i64 0), .nilSl, .nilSl] []) s015) <|
    oSeq (oMv g006 s016) <|
    oSeq (oStoreN 3 g004 g015 noPut) <|
    oMv g016 s005)) <|
   cExit 0)
   (cSkip)) <|
  cSeq (cReg 4 (
   oSeq (oP (vFA 2 g002) s017) <|
   oSeq (oLoad g017 s020) <|
   oSeq (oCallF 29 (fun T => [g020 T]) s021) <|
   oMv g021 s007)) <|
  cSeq (cSeq (cReg 3 (
   oSeq (oMv g007 s022) <|
   oSeq (oP (vLen g022) s023) <|
   oP (vGtr g023 (kc (.int .i64 0))) s024)) <|
  cCond g024
   (cReg 8 (
    oSeq (oMv g007 s025) <|
    oSeq (oP (vFA 0 g002) s026) <|
    oSeq (oLoad g026 s027) <|
    oSeq (oMv g001 s030) <|
    oSeq (oCallF 27 (fun T => [g027 T, g030 T, (.int .u8 1), (.int .i64 1)]) s031) <|
    oSeq (oBuildSlice 62 2 [(.int .u8 0), .nilSl] 1 [((0, 2), g031)] 5 s032) <|
    oSeq (oGen (.append 2 32 62 [(.int .u8 0), .nilSl] (.t 21) (.t 26)) 6 s033) <|
    oMv g033 s007))
   (cSkip)) <|
  cSeq (cReg 8 (
   oSeq (oP (vFA 0 g002) s034) <|
   oSeq (oLoad g034 s035) <|
   oSeq (oMv g007 s036) <|
   oSeq (oCallF 28 (fun T => [g035 T, g036 T]) s037) <|
   oSeq (oP (vExt 0 g037) s040) <|
   oSeq (oP (vExt 1 g037) s041) <|
   oSeq (oStoreN 3 g004 g040 noPut) <|
   oMv g041 s005)) <|
  cExit 0⟩
noncomputable def ffn29 : FFn := ⟨1, 8, [(2, none)],
  cSeq (cReg 1 (
   oMv (kc .nilSl) s002)) <|
  cSeq (cSeq (cReg 2 (
   oSeq (oMv g000 s003) <|
   oGen (.bin .eql .sl (.t 3) (.c .nilSl)) 1 s004)) <|
  cCond g004
   (cSeq (cReg 1 (
    oMv (kc .nilSl) s002)) <|
   cExit 0)
   (cSkip)) <|
  cSeq (cReg 4 (
   oSeq (oBuildSlice 62 2 [] 0 [] 0 s005) <|
   oSeq (oMv g000 s006) <|
   oSeq (oGen (.append 2 32 62 [(.int .u8 0), .nilSl] (.t 5) (.t 6)) 2 s007) <|
   oMv g007 s002)) <|
  cExit 0⟩
noncomputable def ffn10 : FFn := ⟨3, 74, [(6, (some (some 3))), (7, none)],
  cSeq (cReg 3 (
   oSeq (oBox 25 g000 0 s003) <|
   oSeq (oAlloc 25 [(.int .i64 0), .nilSl, .nilSl] 1 s006) <|
   oMv (kc (.int .i64 0)) s007)) <|
  cSeq (cSeq (cReg 4 (
   oSeq (oLoadN 3 g003 s021) <|
   oSeq (oMv g001 s022) <|
   oSeq (oCallF 20 (fun T => [g021 T, g022 T]) s023) <|
   oMv g023 s010)) <|
  cSeq (cReg 2 (
   oSeq (oMv g010 s024) <|
   oP (vNeq g024 (kc (.int .i64 0))) s025)) <|
  cCond g025
   (cSeq (cReg 4 (
    oSeq (oP (vBuild [(.int .i64 0), .nilSl, .nilSl] []) s026) <|
    oSeq (oMv g010 s027) <|
    oSeq (oStoreN 3 g006 g026 noPut) <|
    oMv g027 s007)) <|
   cExit 0)
   (cSkip)) <|
  cSeq (cSeq (cReg 4 (
   oSeq (oLoadN 3 g003 s030) <|
   oSeq (oMv g002 s031) <|
   oSeq (oCallF 23 (fun T => [g030 T, g031 T]) s032) <|
   oMv g032 s011)) <|
  cSeq (cReg 2 (
   oSeq (oMv g011 s033) <|
   oP (vNeq g033 (kc (.int .i64 0))) s034)) <|
  cCond g034
   (cSeq (cReg 4 (
    oSeq (oP (vBuild [(.int .i64 0), .nilSl, .nilSl] []) s035) <|
    oSeq (oMv g011 s036) <|
    oSeq (oStoreN 3 g006 g035 noPut) <|
    oMv g036 s007)) <|
   cExit 0)
   (cSkip)) <|
  cSeq (cReg 1 (
   oMv (kc .nilSl) s012)) <|
  cSeq (cSeq (cReg 4 (
   oSeq (oP (vFA 1 g003) s037) <|
   oSeq (oLoad g037 s040) <|
   oSeq (oP (vLen g040) s041) <|
   oMv (kc (.int .i64 0)) s042)) <|
  cBlock 1 (cLoop 1000000 (cSeq (cReg 1 (
     oP (vLss g042 g041) s043)) <|
    cSeq (cCond g043
     (cSkip)
     (cExit 1)) <|
    cSeq (cBlock 3 (cSeq (cReg 4 (
      oSeq (oP (vIdx 2 g040 g042) s044) <|
      oSeq (oLoadN 2 g044 s045) <|
      oSeq (oAlloc 34 [.nilSl, (.bool false)] 2 s014) <|
      oStoreN 2 g014 g045 noPut)) <|
     cSeq (cReg 8 (
      oSeq (oP (vFA 0 g014) s046) <|
      oSeq (oLoad g046 s047) <|
      oSeq (oMv g001 s050) <|
      oSeq (oP (vAdd g050 (kc (.int .i64 1))) s051) <|
      oSeq (oP (vIdx 2 g047 g051) s052) <|
      oSeq (oLoadN 2 g052 s053) <|
      oSeq (oAlloc 40 [(.bool false), .nilSl] 6 s015) <|
      oStoreN 2 g015 g053 noPut)) <|
     cSeq (cReg 4 (
      oSeq (oP (vFA 0 g014) s054) <|
      oSeq (oLoad g054 s055) <|
      oSeq (oCallF 30 (fun T => [g055 T]) s056) <|
      oMv g056 s016)) <|
     cSeq (cReg 6 (
      oSeq (oMv g016 s057) <|
      oSeq (oMv g001 s060) <|
      oSeq (oP (vAdd g060 (kc (.int .i64 1))) s061) <|
      oSeq (oP (vBuild [(.bool false), .nilSl] []) s062) <|
      oSeq (oP (vIdx 2 g057 g061) s063) <|
      oStoreN 2 g063 g062 noPut)) <|
     cSeq (cDrw 10 (
      dSeq (dAct 0 [] (oCallF 19 (fun _ => [(.int .i64 1)]) s065)) <|
      dSeq (dLook 0 [] (oMv g016 s066)) <|
      dSeq (dLook 1 [] (oLoadN 2 g015 s067)) <|
      dSeq (dLook 0 [] (oMv g002 s070)) <|
      dSeq (dAct 0 [] (oCallF 31 (fun T => [g065 T, g066 T, g067 T, g070 T]) s071)) <|
      dSeq (dLook 0 [] (oMv g071 s064)) <|
      dSeq (dLook 0 [] (oP (vExt 0 g064) s072)) <|
      dSeq (dLook 0 [] (oP (vExt 1 g064) s073)) <|
      dSeq (dLook 0 [] (oMv g072 s017)) <|
      dSeq (dLook 0 [] (oMv g073 s020)) <|
      dNop)
      (ckSeq (ckOne g067 1 [] (oLoadN 2 g015 s067)) <|
     ckNop) []) <|
     cReg 8 (
      oSeq (oMv g012 s074) <|
      oSeq (oMv g017 s075) <|
      oSeq (oP (vFA 1 g014) s076) <|
      oSeq (oLoad g076 s077) <|
      oSeq (oP (vBuild [.nilSl, (.bool false)] [((0, 1), g075), ((1, 1), g077)]) s100) <|
      oSeq (oBuildSlice 34 2 [.nilSl, (.bool false)] 1 [((0, 2), g100)] 5 s101) <|
      oSeq (oGen (.append 2 32 34 [.nilSl, (.bool false)] (.t 60) (.t 65)) 6 s102) <|
      oMv g102 s012))) <|
    cReg 2 (
     oSeq (oP (vAdd g042 (kc (.int .i64 1))) s103) <|
     oMv g103 s042)))) <|
  cSeq (cReg 8 (
   oSeq (oP (vFA 0 g003) s104) <|
   oSeq (oLoad g104 s105) <|
   oSeq (oMv g012 s106) <|
   oSeq (oCallF 5 (fun T => [g105 T, g106 T]) s107) <|
   oSeq (oP (vExt 0 g107) s110) <|
   oSeq (oP (vExt 1 g107) s111) <|
   oSeq (oStoreN 3 g006 g110 noPut) <|
   oMv g111 s007)) <|
  cExit 0⟩
noncomputable def ffn11 : FFn := ⟨2, 14, [(4, (some (some 6)))],
  cSeq (cReg 1 (
   oAlloc 44 [(.bool false), (.bool false), .nilSl, (.bool false), (.bool false), .nilSl] 0 s004)) <|
  cSeq (cReg 9 (
   oSeq (oMv g000 s010) <|
   oSeq (oMv g001 s011) <|
   oSeq (oCallF 32 (fun T => [g010 T, g011 T]) s012) <|
   oSeq (oMv g012 s007) <|
   oSeq (oP (vExt 0 g007) s013) <|
   oSeq (oP (vExt 1 g007) s014) <|
   oSeq (oAlloc 44 [(.bool false), (.bool false), .nilSl, (.bool false), (.bool false), .nilSl] 6 s005) <|
   oSeq (oStoreN 6 g005 g013 noPut) <|
   oMv g014 s006)) <|
  cSeq (cReg 2 (
   oSeq (oLoadN 6 g005 s015) <|
   oStoreN 6 g004 g015 noPut)) <|
  cExit 0⟩
noncomputable def ffn32 : FFn := ⟨2, 17, [(4, (some (some 6))), (5, none)],
  cSeq (cReg 2 (
   oSeq (oAlloc 44 [(.bool false), (.bool false), .nilSl, (.bool false), (.bool false), .nilSl] 0 s004) <|
   oMv (kc (.int .i64 0)) s005)) <|
  cSeq (cSeq (cReg 3 (
   oSeq (oMv g000 s006) <|
   oSeq (oMv g001 s007) <|
   oP (vGtr g006 g007) s010)) <|
  cCond g010
   (cSeq (cReg 3 (
    oSeq (oP (vBuild [(.bool false), (.bool false), .nilSl, (.bool false), (.bool false), .nilSl] []) s011) <|
    oSeq (oStoreN 6 g004 g011 noPut) <|
    oMv (kc (.int .i64 2)) s005)) <|
   cExit 0)
   (cSkip)) <|
  cSeq (cReg 9 (
   oSeq (oMv g000 s012) <|
   oSeq (oCallF 19 (fun T => [g012 T]) s013) <|
   oSeq (oCallF 64 (fun T => [g013 T]) s014) <|
   oSeq (oMv g001 s015) <|
   oSeq (oCallF 19 (fun T => [g015 T]) s016) <|
   oSeq (oCallF 64 (fun T => [g016 T]) s017) <|
   oSeq (oP (vBuild [(.bool false), (.bool false), .nilSl, (.bool false), (.bool false), .nilSl] [((0, 3), g014), ((3, 3), g017)]) s020) <|
   oSeq (oStoreN 6 g004 g020 noPut) <|
   oMv (kc (.int .i64 0)) s005)) <|
  cExit 0⟩
noncomputable def ffn64 : FFn := ⟨1, 10, [(2, (some (some 3)))],
  cSeq (cReg 2 (
   oSeq (oBox 40 g000 0 s001) <|
   oAlloc 42 [(.bool false), (.bool false), .nilSl] 1 s002)) <|
  cSeq (cDrw 8 (
   dSeq (dLook 0 [] (oP (vFA 0 g001) s003)) <|
   dSeq (dLook 0 [] (oLoad g003 s004)) <|
   dSeq (dLook 0 [] (oP (vFA 1 g001) s005)) <|
   dSeq (dLook 0 [] (oLoad g005 s006)) <|
   dSeq (dAct 0 [] (oCallF 92 (fun T => [g006 T]) s007)) <|
   dSeq (dLook 0 [] (oP (vBuild [(.bool false), .nilSl] [((0, 1), g004), ((1, 1), g007)]) s010)) <|
   dSeq (dLook 0 [] (oP (vBuild [(.bool false), (.bool false), .nilSl] [((1, 2), g010)]) s011)) <|
   dSeq (dAct 0 [] (oStoreN 3 g002 g011 noPut)) <|
   dNop)
   (ckSeq (ckOne g004 1 [] (oLoad g003 s004)) <|
  ckNop) []) <|
  cExit 0⟩
noncomputable def ffn12 : FFn := ⟨0, 39, [(0, none)],
  cSeq (cReg 1 (
   oMv (kc (.bool false)) s000)) <|
  cSeq (cReg 3 (
   oSeq (oCallF 4 (fun _ => [(.int .i64 1), (.int .i64 3)]) s006) <|
   oSeq (oAlloc 25 [(.int .i64 0), .nilSl, .nilSl] 1 s001) <|
   oStoreN 3 g001 g006 noPut)) <|
  cSeq (cDrw 11 (
   dSeq (dLook 0 [] (oLoadN 3 g001 s010)) <|
   dSeq (dMake 1 (oBuildSlice 3 1 [(.int .i64 0), (.int .i64 0)] 2 [((0, 1), (kc (.int .i64 1))), ((1, 1), (kc (.int .i64 2)))] 1 s011)) <|
   dSeq (dAct 0 [(1, 0)] (oCallF 6 (fun T => [g011 T]) s012)) <|
   dSeq (dAct 0 [] (oCallF 11 (fun _ => [(.int .i64 0), (.int .i64 0)]) s013)) <|
   dSeq (dAct 0 [] (oCallF 8 (fun T => [g010 T, (.int .i64 0), g012 T, g013 T]) s014)) <|
   dSeq (dLook 0 [] (oMv g014 s007)) <|
   dSeq (dLook 0 [] (oP (vExt 0 g007) s015)) <|
   dSeq (dLook 0 [] (oP (vExt 1 g007) s016)) <|
   dSeq (dMake 8 (oAlloc 25 [(.int .i64 0), .nilSl, .nilSl] 8 s002)) <|
   dSeq (dAct 0 [(8, 0)] (oStoreN 3 g002 g015 noPut)) <|
   dSeq (dLook 0 [] (oMv g016 s003)) <|
   dNop)
   (ckSeq (ckOne g010 3 [] (oLoadN 3 g001 s010)) <|
  ckSeq (ckOne g010 2 [] (oLoadN 3 g001 s010)) <|
  ckNop) []) <|
  cSeq (cDrw 11 (
   dSeq (dLook 0 [] (oLoadN 3 g001 s020)) <|
   dSeq (dMake 1 (oBuildSlice 3 1 [(.int .i64 0), (.int .i64 0)] 2 [((0, 1), (kc (.int .i64 1))), ((1, 1), (kc (.int .i64 2)))] 1 s021)) <|
   dSeq (dAct 0 [(1, 0)] (oCallF 6 (fun T => [g021 T]) s022)) <|
   dSeq (dAct 0 [] (oCallF 11 (fun _ => [(.int .i64 0), (.int .i64 1)]) s023)) <|
   dSeq (dAct 0 [] (oCallF 8 (fun T => [g020 T, (.int .i64 0), g022 T, g023 T]) s024)) <|
   dSeq (dLook 0 [] (oMv g024 s017)) <|
   dSeq (dLook 0 [] (oP (vExt 0 g017) s025)) <|
   dSeq (dLook 0 [] (oP (vExt 1 g017) s026)) <|
   dSeq (dMake 8 (oAlloc 25 [(.int .i64 0), .nilSl, .nilSl] 8 s004)) <|
   dSeq (dAct 0 [(8, 0)] (oStoreN 3 g004 g025 noPut)) <|
   dSeq (dLook 0 [] (oMv g026 s005)) <|
   dNop)
   (ckSeq (ckOne g020 3 [] (oLoadN 3 g001 s020)) <|
  ckSeq (ckOne g020 2 [] (oLoadN 3 g001 s020)) <|
  ckNop) []) <|
  cSeq (cDrw 17 (
   dSeq (dLook 0 [] (oP (vFA 2 g001) s027)) <|
   dSeq (dLook 0 [] (oLoad g027 s030)) <|
   dSeq (dLook 0 [] (oP (vLen g030) s031)) <|
   dSeq (dLook 0 [] (oP (vEql g031 (kc (.int .i64 2))) s032)) <|
   dSeq (dLook 0 [] (oMv g032 s033)) <|
   dSeq (dLook 0 [] (oGuard g033 true s034 (oLoadN 3 g002 s034))) <|
   dSeq (dLook 0 [] (oGuard g033 true s035 (oMv g003 s035))) <|
   dSeq (dAct 0 [] (oGuard g033 true s036 (oCallF 4 (fun _ => [(.int .i64 3), (.int .i64 7)]) s036))) <|
   dSeq (dAct 0 [] (oGuard g033 true s037 (oCallF 13 (fun T => [g034 T, g035 T, g036 T]) s037))) <|
   dSeq (dLook 0 [] (oP (vPick g033 g037 (kc (.bool false))) s040)) <|
   dSeq (dLook 0 [] (oMv g040 s041)) <|
   dSeq (dLook 0 [] (oGuard g041 true s042 (oLoadN 3 g004 s042))) <|
   dSeq (dLook 0 [] (oGuard g041 true s043 (oMv g005 s043))) <|
   dSeq (dAct 0 [] (oGuard g041 true s044 (oCallF 4 (fun _ => [(.int .i64 3), (.int .i64 8)]) s044))) <|
   dSeq (dAct 0 [] (oGuard g041 true s045 (oCallF 13 (fun T => [g042 T, g043 T, g044 T]) s045))) <|
   dSeq (dLook 0 [] (oP (vPick g041 g045 (kc (.bool false))) s046)) <|
   dSeq (dLook 0 [] (oMv g046 s000)) <|
   dNop)
   (ckSeq (ckOne g034 3 [] (oGuard g033 true s034 (oLoadN 3 g002 s034))) <|
  ckSeq (ckOne g042 1 [] (oGuard g041 true s042 (oLoadN 3 g004 s042))) <|
  ckNop) []) <|
  cExit 0⟩
noncomputable def ffn13 : FFn := ⟨3, 14, [(6, none)],
  cSeq (cReg 3 (
   oSeq (oBox 25 g000 0 s003) <|
   oSeq (oBox 25 g002 1 s005) <|
   oMv (kc (.bool false)) s006)) <|
  cSeq (cReg 8 (
   oSeq (oMv g001 s007) <|
   oSeq (oP (vEql g007 (kc (.int .i64 0))) s010) <|
   oSeq (oMv g010 s011) <|
   oSeq (oGuard g011 true s012 (oLoadN 3 g003 s012)) <|
   oSeq (oGuard g011 true s013 (oLoadN 3 g005 s013)) <|
   oSeq (oGuard g011 true s014 (oCallF 33 (fun T => [g012 T, g013 T]) s014)) <|
   oSeq (oP (vPick g011 g014 (kc (.bool false))) s015) <|
   oMv g015 s006)) <|
  cExit 0⟩
noncomputable def ffn33 : FFn := ⟨2, 8, [(4, none)],
  cSeq (cReg 3 (
   oSeq (oBox 25 g000 0 s002) <|
   oSeq (oBox 25 g001 1 s003) <|
   oMv (kc (.bool false)) s004)) <|
  cSeq (cReg 4 (
   oSeq (oLoadN 3 g002 s005) <|
   oSeq (oLoadN 3 g003 s006) <|
   oSeq (oCallF 65 (fun T => [g005 T, g006 T]) s007) <|
   oMv g007 s004)) <|
  cExit 0⟩
noncomputable def ffn65 : FFn := ⟨2, 24, [(4, none)],
  cSeq (cReg 3 (
   oSeq (oBox 25 g000 0 s002) <|
   oSeq (oBox 25 g001 1 s003) <|
   oMv (kc (.bool false)) s004)) <|
  cSeq (cReg 20 (
   oSeq (oP (vFA 0 g002) s005) <|
   oSeq (oLoad g005 s006) <|
   oSeq (oP (vFA 0 g003) s007) <|
   oSeq (oLoad g007 s010) <|
   oSeq (oP (vEql g006 g010) s011) <|
   oSeq (oMv g011 s012) <|
   oSeq (oGuard g012 true s013 (oP (vFA 1 g002) s013)) <|
   oSeq (oGuard g012 true s014 (oLoad g013 s014)) <|
   oSeq (oGuard g012 true s015 (oP (vFA 1 g003) s015)) <|
   oSeq (oGuard g012 true s016 (oLoad g015 s016)) <|
   oSeq (oGuard g012 true s017 (oCallF 93 (fun T => [g014 T, g016 T]) s017)) <|
   oSeq (oP (vPick g012 g017 (kc (.bool false))) s020) <|
   oSeq (oMv g020 s021) <|
   oSeq (oGuard g021 true s022 (oP (vFA 2 g002) s022)) <|
   oSeq (oGuard g021 true s023 (oLoad g022 s023)) <|
   oSeq (oGuard g021 true s024 (oP (vFA 2 g003) s024)) <|
   oSeq (oGuard g021 true s025 (oLoad g024 s025)) <|
   oSeq (oGuard g021 true s026 (oCallF 94 (fun T => [g023 T, g025 T]) s026)) <|
   oSeq (oP (vPick g021 g026 (kc (.bool false))) s027) <|
   oMv g027 s004)) <|
  cExit 0⟩
noncomputable def ffn93 : FFn := ⟨2, 42, [(4, none)],
  cSeq (cReg 1 (
   oMv (kc (.bool false)) s004)) <|
  cSeq (cSeq (cReg 5 (
   oSeq (oMv g000 s006) <|
   oSeq (oP (vLen g006) s007) <|
   oSeq (oMv g001 s010) <|
   oSeq (oP (vLen g010) s011) <|
   oP (vNeq g007 g011) s012)) <|
  cCond g012
   (cSeq (cReg 1 (
    oMv (kc (.bool false)) s004)) <|
   cExit 0)
   (cSkip)) <|
  cSeq (cSeq (cReg 1 (
   oMv (kc (.int .i64 0)) s005)) <|
  cBlock 1 (cLoop 1000000 (cSeq (cSeq (cReg 4 (
     oSeq (oMv g005 s013) <|
     oSeq (oMv g000 s014) <|
     oSeq (oP (vLen g014) s015) <|
     oP (vLss g013 g015) s016)) <|
    cCond g016
     (cSkip)
     (cExit 1)) <|
    cSeq (cBlock 3 (cSeq (cDrw 25 (
      dSeq (dLook 0 [] (oMv g000 s021)) <|
      dSeq (dLook 0 [] (oMv g005 s022)) <|
      dSeq (dLook 0 [] (oP (vIdx 2 g021 g022) s023)) <|
      dSeq (dLook 0 [] (oP (vFA 1 g023) s024)) <|
      dSeq (dLook 0 [] (oLoad g024 s025)) <|
      dSeq (dLook 0 [] (oMv g001 s026)) <|
      dSeq (dLook 0 [] (oMv g005 s027)) <|
      dSeq (dLook 0 [] (oP (vIdx 2 g026 g027) s030)) <|
      dSeq (dLook 0 [] (oP (vFA 1 g030) s031)) <|
      dSeq (dLook 0 [] (oLoad g031 s032)) <|
      dSeq (dLook 0 [] (oGen (.bin .neq .bool (.t 21) (.t 26)) 10 s033)) <|
      dSeq (dLook 0 [] (oMv g033 s034)) <|
      dSeq (dLook 0 [] (oGuard g034 false s035 (oMv g000 s035))) <|
      dSeq (dLook 0 [] (oGuard g034 false s036 (oMv g005 s036))) <|
      dSeq (dLook 0 [] (oGuard g034 false s037 (oP (vIdx 2 g035 g036) s037))) <|
      dSeq (dLook 0 [] (oGuard g034 false s040 (oP (vFA 0 g037) s040))) <|
      dSeq (dLook 0 [] (oGuard g034 false s041 (oLoad g040 s041))) <|
      dSeq (dLook 0 [] (oGuard g034 false s042 (oMv g001 s042))) <|
      dSeq (dLook 0 [] (oGuard g034 false s043 (oMv g005 s043))) <|
      dSeq (dLook 0 [] (oGuard g034 false s044 (oP (vIdx 2 g042 g043) s044))) <|
      dSeq (dLook 0 [] (oGuard g034 false s045 (oP (vFA 0 g044) s045))) <|
      dSeq (dLook 0 [] (oGuard g034 false s046 (oLoad g045 s046))) <|
      dSeq (dAct 0 [] (oGuard g034 false s047 (oCallF 119 (fun T => [g041 T, g046 T]) s047))) <|
      dSeq (dLook 0 [] (oGuard g034 false s050 (oGen (.un .not (.t 39)) 23 s050))) <|
      dSeq (dLook 0 [] (oP (vPick g034 (kc (.bool true)) g050) s051)) <|
      dNop)
      (ckNop) []) <|
     cCond g051
      (cSeq (cReg 1 (
       oMv (kc (.bool false)) s004)) <|
      cExit 0)
      (cSkip))) <|
    cReg 3 (
     oSeq (oMv g005 s017) <|
     oSeq (oP (vAdd g017 (kc (.int .i64 1))) s020) <|
     oMv g020 s005)))) <|
  cSeq (cReg 1 (
   oMv (kc (.bool true)) s004)) <|
  cExit 0⟩
noncomputable def ffn119 : FFn := ⟨2, 27, [(4, none)],
  cSeq (cReg 1 (
   oMv (kc (.bool false)) s004)) <|
  cSeq (cSeq (cReg 5 (
   oSeq (oMv g000 s006) <|
   oSeq (oP (vLen g006) s007) <|
   oSeq (oMv g001 s010) <|
   oSeq (oP (vLen g010) s011) <|
   oP (vNeq g007 g011) s012)) <|
  cCond g012
   (cSeq (cReg 1 (
    oMv (kc (.bool false)) s004)) <|
   cExit 0)
   (cSkip)) <|
  cSeq (cSeq (cReg 1 (
   oMv (kc (.int .i64 0)) s005)) <|
  cBlock 1 (cLoop 1000000 (cSeq (cSeq (cReg 4 (
     oSeq (oMv g005 s013) <|
     oSeq (oMv g000 s014) <|
     oSeq (oP (vLen g014) s015) <|
     oP (vLss g013 g015) s016)) <|
    cCond g016
     (cSkip)
     (cExit 1)) <|
    cSeq (cBlock 3 (cSeq (cDrw 10 (
      dSeq (dLook 0 [] (oMv g000 s021)) <|
      dSeq (dLook 0 [] (oMv g005 s022)) <|
      dSeq (dLook 0 [] (oP (vIdx 2 g021 g022) s023)) <|
      dSeq (dLook 0 [] (oLoadN 2 g023 s024)) <|
      dSeq (dLook 0 [] (oMv g001 s025)) <|
      dSeq (dLook 0 [] (oMv g005 s026)) <|
      dSeq (dLook 0 [] (oP (vIdx 2 g025 g026) s027)) <|
      dSeq (dLook 0 [] (oLoadN 2 g027 s030)) <|
      dSeq (dAct 0 [] (oCallF 151 (fun T => [g024 T, g030 T]) s031)) <|
      dSeq (dLook 0 [] (oGen (.un .not (.t 25)) 9 s032)) <|
      dNop)
      (ckNop) []) <|
     cCond g032
      (cSeq (cReg 1 (
       oMv (kc (.bool false)) s004)) <|
      cExit 0)
      (cSkip))) <|
    cReg 3 (
     oSeq (oMv g005 s017) <|
     oSeq (oP (vAdd g017 (kc (.int .i64 1))) s020) <|
     oMv g020 s005)))) <|
  cSeq (cReg 1 (
   oMv (kc (.bool true)) s004)) <|
  cExit 0⟩
noncomputable def ffn151 : FFn := ⟨2, 17, [(4, none)],
  cSeq (cReg 3 (
   oSeq (oBox 40 g000 0 s002) <|
   oSeq (oBox 40 g001 1 s003) <|
   oMv (kc (.bool false)) s004)) <|
  cSeq (cReg 13 (
   oSeq (oP (vFA 0 g002) s005) <|
   oSeq (oLoad g005 s006) <|
   oSeq (oP (vFA 0 g003) s007) <|
   oSeq (oLoad g007 s010) <|
   oSeq (oGen (.bin .eql .bool (.t 6) (.t 8)) 4 s011) <|
   oSeq (oMv g011 s012) <|
   oSeq (oGuard g012 true s013 (oP (vFA 1 g002) s013)) <|
   oSeq (oGuard g012 true s014 (oLoad g013 s014)) <|
   oSeq (oGuard g012 true s015 (oP (vFA 1 g003) s015)) <|
   oSeq (oGuard g012 true s016 (oLoad g015 s016)) <|
   oSeq (oGuard g012 true s017 (oCallF 170 (fun T => [g014 T, g016 T]) s017)) <|
   oSeq (oP (vPick g012 g017 (kc (.bool false))) s020) <|
   oMv g020 s004)) <|
  cExit 0⟩
noncomputable def ffn170 : FFn := ⟨2, 26, [(4, none)],
  cSeq (cReg 1 (
   oMv (kc (.bool false)) s004)) <|
  cSeq (cSeq (cReg 5 (
   oSeq (oMv g000 s006) <|
   oSeq (oP (vLen g006) s007) <|
   oSeq (oMv g001 s010) <|
   oSeq (oP (vLen g010) s011) <|
   oP (vNeq g007 g011) s012)) <|
  cCond g012
   (cSeq (cReg 1 (
    oMv (kc (.bool false)) s004)) <|
   cExit 0)
   (cSkip)) <|
  cSeq (cSeq (cReg 1 (
   oMv (kc (.int .i64 0)) s005)) <|
  cBlock 1 (cLoop 1000000 (cSeq (cSeq (cReg 4 (
     oSeq (oMv g005 s013) <|
     oSeq (oMv g000 s014) <|
     oSeq (oP (vLen g014) s015) <|
     oP (vLss g013 g015) s016)) <|
    cCond g016
     (cSkip)
     (cExit 1)) <|
    cSeq (cBlock 3 (cSeq (cDrw 9 (
      dSeq (dLook 0 [] (oMv g000 s021)) <|
      dSeq (dLook 0 [] (oMv g005 s022)) <|
      dSeq (dLook 0 [] (oP (vIdx 1 g021 g022) s023)) <|
      dSeq (dLook 0 [] (oLoad g023 s024)) <|
      dSeq (dLook 0 [] (oMv g001 s025)) <|
      dSeq (dLook 0 [] (oMv g005 s026)) <|
      dSeq (dLook 0 [] (oP (vIdx 1 g025 g026) s027)) <|
      dSeq (dLook 0 [] (oLoad g027 s030)) <|
      dSeq (dLook 0 [] (oP (vNeq g024 g030) s031)) <|
      dNop)
      (ckNop) []) <|
     cCond g031
      (cSeq (cReg 1 (
       oMv (kc (.bool false)) s004)) <|
      cExit 0)
      (cSkip))) <|
    cReg 3 (
     oSeq (oMv g005 s017) <|
     oSeq (oP (vAdd g017 (kc (.int .i64 1))) s020) <|
     oMv g020 s005)))) <|
  cSeq (cReg 1 (
   oMv (kc (.bool true)) s004)) <|
  cExit 0⟩
noncomputable def ffn94 : FFn := ⟨2, 42, [(4, none)],
  cSeq (cReg 1 (
   oMv (kc (.bool false)) s004)) <|
  cSeq (cSeq (cReg 5 (
   oSeq (oMv g000 s006) <|
   oSeq (oP (vLen g006) s007) <|
   oSeq (oMv g001 s010) <|
   oSeq (oP (vLen g010) s011) <|
   oP (vNeq g007 g011) s012)) <|
  cCond g012
   (cSeq (cReg 1 (
    oMv (kc (.bool false)) s004)) <|
   cExit 0)
   (cSkip)) <|
  cSeq (cSeq (cReg 1 (
   oMv (kc (.int .i64 0)) s005)) <|
  cBlock 1 (cLoop 1000000 (cSeq (cSeq (cReg 4 (
     oSeq (oMv g005 s013) <|
     oSeq (oMv g000 s014) <|
     oSeq (oP (vLen g014) s015) <|
     oP (vLss g013 g015) s016)) <|
    cCond g016
     (cSkip)
     (cExit 1)) <|
    cSeq (cBlock 3 (cSeq (cDrw 25 (
      dSeq (dLook 0 [] (oMv g000 s021)) <|
      dSeq (dLook 0 [] (oMv g005 s022)) <|
      dSeq (dLook 0 [] (oP (vIdx 2 g021 g022) s023)) <|
      dSeq (dLook 0 [] (oP (vFA 0 g023) s024)) <|
      dSeq (dLook 0 [] (oLoad g024 s025)) <|
      dSeq (dLook 0 [] (oMv g001 s026)) <|
      dSeq (dLook 0 [] (oMv g005 s027)) <|
      dSeq (dLook 0 [] (oP (vIdx 2 g026 g027) s030)) <|
      dSeq (dLook 0 [] (oP (vFA 0 g030) s031)) <|
      dSeq (dLook 0 [] (oLoad g031 s032)) <|
      dSeq (dLook 0 [] (oP (vNeq g025 g032) s033)) <|
      dSeq (dLook 0 [] (oMv g033 s034)) <|
      dSeq (dLook 0 [] (oGuard g034 false s035 (oMv g000 s035))) <|
      dSeq (dLook 0 [] (oGuard g034 false s036 (oMv g005 s036))) <|
      dSeq (dLook 0 [] (oGuard g034 false s037 (oP (vIdx 2 g035 g036) s037))) <|
      dSeq (dLook 0 [] (oGuard g034 false s040 (oP (vFA 1 g037) s040))) <|
      dSeq (dLook 0 [] (oGuard g034 false s041 (oLoad g040 s041))) <|
      dSeq (dLook 0 [] (oGuard g034 false s042 (oMv g001 s042))) <|
      dSeq (dLook 0 [] (oGuard g034 false s043 (oMv g005 s043))) <|
      dSeq (dLook 0 [] (oGuard g034 false s044 (oP (vIdx 2 g042 g043) s044))) <|
      dSeq (dLook 0 [] (oGuard g034 false s045 (oP (vFA 1 g044) s045))) <|
      dSeq (dLook 0 [] (oGuard g034 false s046 (oLoad g045 s046))) <|
      dSeq (dAct 0 [] (oGuard g034 false s047 (oCallF 119 (fun T => [g041 T, g046 T]) s047))) <|
      dSeq (dLook 0 [] (oGuard g034 false s050 (oGen (.un .not (.t 39)) 23 s050))) <|
      dSeq (dLook 0 [] (oP (vPick g034 (kc (.bool true)) g050) s051)) <|
      dNop)
      (ckNop) []) <|
     cCond g051
      (cSeq (cReg 1 (
       oMv (kc (.bool false)) s004)) <|
      cExit 0)
      (cSkip))) <|
    cReg 3 (
     oSeq (oMv g005 s017) <|
     oSeq (oP (vAdd g017 (kc (.int .i64 1))) s020) <|
     oMv g020 s005)))) <|
  cSeq (cReg 1 (
   oMv (kc (.bool true)) s004)) <|
  cExit 0⟩
end Go.Proofs.YtihcmbhankddkabGreat.Ev
