/-
  The code of the law's functions, printed by program off the translation.
-/
import Derived.Test.YtihcmbhankddkaaGreatEvSlots
namespace Go.Proofs.YtihcmbhankddkaaGreat.Ev
open Go
set_option maxRecDepth 1000000
set_option linter.all false
noncomputable def ffn119 : FFn := ⟨4, 53, [],
  cSeq (cReg 3 (
   oSeq (oMv g001 s012) <|
   oSeq (oP (vAdd g012 (kc (.int .i64 1))) s013) <|
   oMv g013 s010)) <|
  cBlock 1 (cLoop 1000000 (cSeq (cSeq (cReg 3 (
     oSeq (oMv g010 s014) <|
     oSeq (oMv g002 s015) <|
     oP (vLss g014 g015) s016)) <|
    cCond g016
     (cSkip)
     (cExit 1)) <|
    cSeq (cBlock 3 (cSeq (cReg 2 (
      oSeq (oMv g010 s021) <|
      oMv g021 s011)) <|
     cBlock 5 (cLoop 1000000 (cSeq (cSeq (cDrw 17 (
        dSeq (dLook 0 [] (oMv g011 s022)) <|
        dSeq (dLook 0 [] (oMv g001 s023)) <|
        dSeq (dLook 0 [] (oP (vGtr g022 g023) s024)) <|
        dSeq (dLook 0 [] (oMv g024 s025)) <|
        dSeq (dLook 0 [] (oGuard g025 true s026 (oMv g003 s026))) <|
        dSeq (dLook 0 [] (oGuard g025 true s027 (oMv g000 s027))) <|
        dSeq (dLook 0 [] (oGuard g025 true s030 (oMv g011 s030))) <|
        dSeq (dLook 0 [] (oGuard g025 true s031 (oP (vIdx 1 g027 g030) s031))) <|
        dSeq (dLook 0 [] (oGuard g025 true s032 (oLoad g031 s032))) <|
        dSeq (dLook 0 [] (oGuard g025 true s033 (oMv g000 s033))) <|
        dSeq (dLook 0 [] (oGuard g025 true s034 (oMv g011 s034))) <|
        dSeq (dLook 0 [] (oGuard g025 true s035 (oP (vSub g034 (kc (.int .i64 1))) s035))) <|
        dSeq (dLook 0 [] (oGuard g025 true s036 (oP (vIdx 1 g033 g035) s036))) <|
        dSeq (dLook 0 [] (oGuard g025 true s037 (oLoad g036 s037))) <|
        dSeq (dAct 0 [] (oGuard g025 true s040 (oCall g026 (fun T => [g032 T, g037 T]) s040))) <|
        dSeq (dLook 0 [] (oGuard g025 true s041 (oP (vLss g040 (kc (.int .i64 0))) s041))) <|
        dSeq (dLook 0 [] (oP (vPick g025 g041 (kc (.bool false))) s042)) <|
        dNop)
        (ckNop) []) <|
       cCond g042
        (cSkip)
        (cExit 5)) <|
       cSeq (cBlock 7 (cDrw 18 (
         dSeq (dLook 0 [] (oMv g000 s045)) <|
         dSeq (dLook 0 [] (oMv g011 s046)) <|
         dSeq (dLook 0 [] (oMv g000 s047)) <|
         dSeq (dLook 0 [] (oMv g011 s050)) <|
         dSeq (dLook 0 [] (oP (vSub g050 (kc (.int .i64 1))) s051)) <|
         dSeq (dLook 0 [] (oMv g000 s052)) <|
         dSeq (dLook 0 [] (oMv g011 s053)) <|
         dSeq (dLook 0 [] (oP (vSub g053 (kc (.int .i64 1))) s054)) <|
         dSeq (dLook 0 [] (oP (vIdx 1 g052 g054) s055)) <|
         dSeq (dLook 0 [] (oLoad g055 s056)) <|
         dSeq (dLook 0 [] (oMv g000 s057)) <|
         dSeq (dLook 0 [] (oMv g011 s060)) <|
         dSeq (dLook 0 [] (oP (vIdx 1 g057 g060) s061)) <|
         dSeq (dLook 0 [] (oLoad g061 s062)) <|
         dSeq (dLook 0 [] (oP (vIdx 1 g045 g046) s063)) <|
         dSeq (dAct 0 [] (oStore g063 g056 noPut)) <|
         dSeq (dLook 0 [] (oP (vIdx 1 g047 g051) s064)) <|
         dSeq (dAct 0 [] (oStore g064 g062 noPut)) <|
         dNop)
         (ckNop) [])) <|
       cReg 3 (
        oSeq (oMv g011 s043) <|
        oSeq (oP (vSub g043 (kc (.int .i64 1))) s044) <|
        oMv g044 s011))))) <|
    cReg 3 (
     oSeq (oMv g010 s017) <|
     oSeq (oP (vAdd g017 (kc (.int .i64 1))) s020) <|
     oMv g020 s010)))⟩
noncomputable def ffn62 : FFn := ⟨2, 14, [(4, none)],
  cSeq (cReg 1 (
   oMv (kc (.int .i64 0)) s004)) <|
  cSeq (cReg 8 (
   oSeq (oMv g000 s010) <|
   oSeq (oMv g001 s011) <|
   oSeq (oCallF 63 (fun T => [g010 T, g011 T]) s012) <|
   oSeq (oMv g012 s007) <|
   oSeq (oP (vExt 0 g007) s013) <|
   oSeq (oP (vExt 1 g007) s014) <|
   oSeq (oMv g013 s005) <|
   oMv g014 s006)) <|
  cSeq (cReg 2 (
   oSeq (oMv g005 s015) <|
   oMv g015 s004)) <|
  cExit 0⟩
noncomputable def ffn63 : FFn := ⟨2, 17, [(4, none), (5, none)],
  cSeq (cReg 2 (
   oSeq (oMv (kc (.int .i64 0)) s004) <|
   oMv (kc (.int .i64 0)) s005)) <|
  cSeq (cSeq (cReg 5 (
   oSeq (oMv g000 s007) <|
   oSeq (oMv g001 s010) <|
   oSeq (oBuildSlice 30 1 [.nilSl, .nilSl] 2 [((0, 1), g007), ((1, 1), g010)] 2 s011) <|
   oSeq (oCallF 71 (fun T => [g011 T]) s012) <|
   oMv g012 s006)) <|
  cSeq (cReg 2 (
   oSeq (oMv g006 s013) <|
   oP (vNeq g013 (kc (.int .i64 0))) s014)) <|
  cCond g014
   (cSeq (cReg 3 (
    oSeq (oMv g006 s015) <|
    oSeq (oMv (kc (.int .i64 0)) s004) <|
    oMv g015 s005)) <|
   cExit 0)
   (cSkip)) <|
  cSeq (cReg 5 (
   oSeq (oMv g000 s016) <|
   oSeq (oMv g001 s017) <|
   oSeq (oCallF 97 (fun T => [g016 T, g017 T, (.fn (.func 98) [] [])]) s020) <|
   oSeq (oMv g020 s004) <|
   oMv (kc (.int .i64 0)) s005)) <|
  cExit 0⟩
noncomputable def ffn97 : FFn := ⟨3, 39, [(6, none)],
  cSeq (cReg 1 (
   oMv (kc (.int .i64 0)) s006)) <|
  cSeq (cSeq (cReg 3 (
   oSeq (oMv g000 s013) <|
   oSeq (oP (vLen g013) s014) <|
   oMv (kc (.int .i64 0)) s015)) <|
  cBlock 1 (cLoop 1000000 (cSeq (cReg 1 (
     oP (vLss g015 g014) s016)) <|
    cSeq (cCond g016
     (cSkip)
     (cExit 1)) <|
    cSeq (cBlock 3 (cSeq (cReg 6 (
      oSeq (oMv g015 s017) <|
      oSeq (oP (vIdx 2 g013 g015) s020) <|
      oSeq (oLoadN 2 g020 s021) <|
      oSeq (oAlloc 50 [(.bool false), .nilSl] 3 s010) <|
      oSeq (oMv g017 s007) <|
      oStoreN 2 g010 g021 noPut)) <|
     cSeq (cSeq (cReg 4 (
      oSeq (oMv g007 s022) <|
      oSeq (oMv g001 s023) <|
      oSeq (oP (vLen g023) s024) <|
      oP (vGeq g022 g024) s025)) <|
     cCond g025
      (cSeq (cReg 1 (
       oMv (kc (.int .i64 1)) s006)) <|
      cExit 0)
      (cSkip)) <|
     cSeq (cReg 6 (
      oSeq (oMv g001 s026) <|
      oSeq (oMv g007 s027) <|
      oSeq (oP (vIdx 2 g026 g027) s030) <|
      oSeq (oLoadN 2 g030 s031) <|
      oSeq (oAlloc 50 [(.bool false), .nilSl] 4 s011) <|
      oStoreN 2 g011 g031 noPut)) <|
     cSeq (cReg 5 (
      oSeq (oMv g002 s032) <|
      oSeq (oLoadN 2 g010 s033) <|
      oSeq (oLoadN 2 g011 s034) <|
      oSeq (oCall g032 (fun T => [g033 T, g034 T]) s035) <|
      oMv g035 s012)) <|
     cSeq (cReg 2 (
      oSeq (oMv g012 s036) <|
      oP (vNeq g036 (kc (.int .i64 0))) s037)) <|
     cCond g037
      (cSeq (cReg 2 (
       oSeq (oMv g012 s040) <|
       oMv g040 s006)) <|
      cExit 0)
      (cSkip))) <|
    cReg 2 (
     oSeq (oP (vAdd g015 (kc (.int .i64 1))) s041) <|
     oMv g041 s015)))) <|
  cSeq (cSeq (cReg 5 (
   oSeq (oMv g000 s042) <|
   oSeq (oP (vLen g042) s043) <|
   oSeq (oMv g001 s044) <|
   oSeq (oP (vLen g044) s045) <|
   oP (vLss g043 g045) s046)) <|
  cCond g046
   (cSeq (cReg 1 (
    oMv (kc (.int .i64 (-1))) s006)) <|
   cExit 0)
   (cSkip)) <|
  cSeq (cReg 1 (
   oMv (kc (.int .i64 0)) s006)) <|
  cExit 0⟩
noncomputable def ffn98 : FFn := ⟨2, 14, [(4, none)],
  cSeq (cReg 3 (
   oSeq (oBox 50 g000 0 s002) <|
   oSeq (oBox 50 g001 1 s003) <|
   oMv (kc (.int .i64 0)) s004)) <|
  cSeq (cReg 8 (
   oSeq (oLoadN 2 g002 s010) <|
   oSeq (oLoadN 2 g003 s011) <|
   oSeq (oCallF 99 (fun T => [g010 T, g011 T]) s012) <|
   oSeq (oMv g012 s007) <|
   oSeq (oP (vExt 0 g007) s013) <|
   oSeq (oP (vExt 1 g007) s014) <|
   oSeq (oMv g013 s005) <|
   oMv g014 s006)) <|
  cSeq (cReg 2 (
   oSeq (oMv g005 s015) <|
   oMv g015 s004)) <|
  cExit 0⟩
noncomputable def ffn99 : FFn := ⟨2, 19, [(4, none), (5, none)],
  cSeq (cReg 4 (
   oSeq (oBox 50 g000 0 s002) <|
   oSeq (oBox 50 g001 1 s003) <|
   oSeq (oMv (kc (.int .i64 0)) s004) <|
   oMv (kc (.int .i64 0)) s005)) <|
  cSeq (cReg 9 (
   oSeq (oLoadN 2 g002 s011) <|
   oSeq (oLoadN 2 g003 s012) <|
   oSeq (oCallF 129 (fun T => [g011 T, g012 T]) s013) <|
   oSeq (oMv g013 s010) <|
   oSeq (oP (vExt 0 g010) s014) <|
   oSeq (oP (vExt 1 g010) s015) <|
   oSeq (oAlloc 50 [(.bool false), .nilSl] 6 s006) <|
   oSeq (oStoreN 2 g006 g014 noPut) <|
   oMv g015 s007)) <|
  cSeq (cSeq (cReg 2 (
   oSeq (oMv g007 s016) <|
   oP (vNeq g016 (kc (.int .i64 0))) s017)) <|
  cCond g017
   (cSeq (cReg 3 (
    oSeq (oMv g007 s020) <|
    oSeq (oMv (kc (.int .i64 0)) s004) <|
    oMv g020 s005)) <|
   cExit 0)
   (cSkip)) <|
  cSeq (cReg 4 (
   oSeq (oLoadN 2 g006 s021) <|
   oSeq (oCallF 100 (fun T => [g021 T]) s022) <|
   oSeq (oMv g022 s004) <|
   oMv (kc (.int .i64 0)) s005)) <|
  cExit 0⟩
noncomputable def ffn129 : FFn := ⟨2, 23, [(4, (some (some 2))), (5, none)],
  cSeq (cReg 4 (
   oSeq (oBox 50 g000 0 s002) <|
   oSeq (oBox 50 g001 1 s003) <|
   oSeq (oAlloc 50 [(.bool false), .nilSl] 2 s004) <|
   oMv (kc (.int .i64 0)) s005)) <|
  cSeq (cSeq (cReg 5 (
   oSeq (oLoadN 2 g002 s007) <|
   oSeq (oLoadN 2 g003 s010) <|
   oSeq (oBuildSlice 50 2 [(.bool false), .nilSl, (.bool false), .nilSl] 2 [((0, 2), g007), ((2, 2), g010)] 2 s011) <|
   oSeq (oCallF 130 (fun T => [g011 T]) s012) <|
   oMv g012 s006)) <|
  cSeq (cReg 2 (
   oSeq (oMv g006 s013) <|
   oP (vNeq g013 (kc (.int .i64 0))) s014)) <|
  cCond g014
   (cSeq (cReg 4 (
    oSeq (oP (vBuild [(.bool false), .nilSl] []) s015) <|
    oSeq (oMv g006 s016) <|
    oSeq (oStoreN 2 g004 g015 noPut) <|
    oMv g016 s005)) <|
   cExit 0)
   (cSkip)) <|
  cSeq (cDrw 10 (
   dSeq (dLook 0 [] (oLoadN 2 g002 s017)) <|
   dSeq (dLook 0 [] (oP (vFA 0 g003) s020)) <|
   dSeq (dLook 0 [] (oLoad g020 s021)) <|
   dSeq (dLook 0 [] (oGen (.un .not (.t 17)) 3 s022)) <|
   dSeq (dLook 0 [] (oP (vFA 1 g003) s023)) <|
   dSeq (dLook 0 [] (oLoad g023 s024)) <|
   dSeq (dAct 0 [] (oCallF 37 (fun T => [g022 T, g024 T]) s025)) <|
   dSeq (dAct 0 [] (oCallF 149 (fun T => [g017 T, g025 T]) s026)) <|
   dSeq (dAct 0 [] (oStoreN 2 g004 g026 noPut)) <|
   dSeq (dLook 0 [] (oMv (kc (.int .i64 0)) s005)) <|
   dNop)
   (ckSeq (ckOne g017 2 [] (oLoadN 2 g002 s017)) <|
  ckNop) []) <|
  cExit 0⟩
noncomputable def ffn34 : FFn := ⟨2, 9, [(4, none)],
  cSeq (cReg 1 (
   oMv (kc (.bool false)) s004)) <|
  cSeq (cReg 5 (
   oSeq (oMv g000 s005) <|
   oSeq (oMv g001 s006) <|
   oSeq (oCallF 64 (fun T => [g005 T, g006 T]) s007) <|
   oSeq (oP (vGeq g007 (kc (.int .i64 0))) s010) <|
   oMv g010 s004)) <|
  cExit 0⟩
noncomputable def ffn35 : FFn := ⟨1, 6, [(2, none)],
  cSeq (cReg 1 (
   oMv (kc (.bool false)) s002)) <|
  cSeq (cReg 4 (
   oSeq (oMv g000 s003) <|
   oSeq (oCallF 36 (fun T => [g003 T]) s004) <|
   oSeq (oP (vGtr g004 (kc (.int .i64 0))) s005) <|
   oMv g005 s002)) <|
  cExit 0⟩
noncomputable def ffn36 : FFn := ⟨1, 16, [(2, none)],
  cSeq (cReg 1 (
   oMv (kc (.int .i64 0)) s002)) <|
  cSeq (cSeq (cReg 3 (
   oSeq (oMv g000 s005) <|
   oSeq (oP (vLen g005) s006) <|
   oP (vEql g006 (kc (.int .i64 0))) s007)) <|
  cCond g007
   (cSeq (cReg 1 (
    oMv (kc (.int .i64 0)) s002)) <|
   cExit 0)
   (cSkip)) <|
  cSeq (cReg 9 (
   oSeq (oMv g000 s011) <|
   oSeq (oP (vIdx 2 g011 (kc (.int .i64 0))) s012) <|
   oSeq (oLoadN 2 g012 s013) <|
   oSeq (oCallF 65 (fun T => [g013 T]) s014) <|
   oSeq (oMv g014 s010) <|
   oSeq (oP (vExt 0 g010) s015) <|
   oSeq (oP (vExt 1 g010) s016) <|
   oSeq (oMv g015 s003) <|
   oMv g016 s004)) <|
  cSeq (cReg 2 (
   oSeq (oMv g003 s017) <|
   oMv g017 s002)) <|
  cExit 0⟩
noncomputable def ffn15 : FFn := ⟨2, 22, [(4, (some (some 3))), (5, none)],
  cSeq (cReg 2 (
   oSeq (oAlloc 25 [(.int .i64 0), .nilSl, .nilSl] 0 s004) <|
   oMv (kc (.int .i64 0)) s005)) <|
  cSeq (cSeq (cReg 3 (
   oSeq (oMv g001 s007) <|
   oSeq (oP (vLen g007) s010) <|
   oP (vGeq g010 (kc (.int .i64 1024))) s011)) <|
  cCond g011
   (cSeq (cReg 3 (
    oSeq (oP (vBuild [(.int .i64 0), .nilSl, .nilSl] []) s012) <|
    oSeq (oStoreN 3 g004 g012 noPut) <|
    oMv (kc (.int .i64 4)) s005)) <|
   cExit 0)
   (cSkip)) <|
  cSeq (cReg 4 (
   oSeq (oMv g000 s013) <|
   oSeq (oMv g001 s014) <|
   oSeq (oCallF 31 (fun T => [g013 T, g014 T]) s015) <|
   oMv g015 s006)) <|
  cSeq (cSeq (cReg 3 (
   oSeq (oMv g006 s016) <|
   oSeq (oP (vLen g016) s017) <|
   oP (vGeq g017 (kc (.int .i64 1024))) s020)) <|
  cCond g020
   (cSeq (cReg 3 (
    oSeq (oP (vBuild [(.int .i64 0), .nilSl, .nilSl] []) s021) <|
    oSeq (oStoreN 3 g004 g021 noPut) <|
    oMv (kc (.int .i64 4)) s005)) <|
   cExit 0)
   (cSkip)) <|
  cSeq (cReg 6 (
   oSeq (oMv g000 s022) <|
   oSeq (oMv g006 s023) <|
   oSeq (oMv g001 s024) <|
   oSeq (oP (vBuild [(.int .i64 0), .nilSl, .nilSl] [((0, 1), g022), ((1, 1), g023), ((2, 1), g024)]) s025) <|
   oSeq (oStoreN 3 g004 g025 noPut) <|
   oMv (kc (.int .i64 0)) s005)) <|
  cExit 0⟩
noncomputable def ffn31 : FFn := ⟨2, 84, [(4, none)],
  cSeq (cReg 1 (
   oMv (kc .nilSl) s004)) <|
  cSeq (cReg 2 (
   oSeq (oMv (kc .nilSl) s005) <|
   oMv (kc .nilSl) s006)) <|
  cSeq (cReg 1 (
   oMv (kc (.bool false)) s007)) <|
  cSeq (cSeq (cReg 3 (
   oSeq (oMv g001 s021) <|
   oSeq (oP (vLen g021) s022) <|
   oMv (kc (.int .i64 0)) s023)) <|
  cBlock 1 (cLoop 1000000 (cSeq (cReg 1 (
     oP (vLss g023 g022) s024)) <|
    cSeq (cCond g024
     (cSkip)
     (cExit 1)) <|
    cSeq (cBlock 3 (cSeq (cReg 4 (
      oSeq (oP (vIdx 2 g021 g023) s025) <|
      oSeq (oLoadN 2 g025 s026) <|
      oSeq (oAlloc 73 [(.int .u8 0), .nilSl] 2 s011) <|
      oStoreN 2 g011 g026 noPut)) <|
     cSeq (cReg 2 (
      oSeq (oP (vFA 0 g011) s027) <|
      oLoad g027 s030)) <|
     cBlock 5 (cSeq (cBlock 11 (cSeq (cBlock 9 (cSeq (cBlock 7 (cSeq (cSeq (cSeq (cReg 2 (
          oSeq (oP (vEql g030 (kc (.int .u8 1))) s032) <|
          oMv g032 s031)) <|
         cCond g031
          (cExit 7)
          (cSkip)) <|
         cSeq (cReg 2 (
          oSeq (oP (vEql g030 (kc (.int .u8 3))) s034) <|
          oMv g034 s033)) <|
         cCond g033
          (cExit 9)
          (cSkip)) <|
         cExit 11)) <|
        cSeq (cSeq (cReg 6 (
         oSeq (oMv g005 s035) <|
         oSeq (oP (vFA 1 g011) s036) <|
         oSeq (oLoad g036 s037) <|
         oSeq (oBuildSlice 30 1 [.nilSl] 1 [((0, 1), g037)] 3 s040) <|
         oSeq (oGen (.append 1 24 30 [.nilSl] (.t 29) (.t 32)) 4 s041) <|
         oMv g041 s005)) <|
        cExit 3) <|
        cExit 5)) <|
       cReg 1 (
        oMv (kc (.bool true)) s007))) <|
      cSeq (cReg 6 (
       oSeq (oMv g006 s042) <|
       oSeq (oP (vFA 1 g011) s043) <|
       oSeq (oLoad g043 s044) <|
       oSeq (oBuildSlice 30 1 [.nilSl] 1 [((0, 1), g044)] 3 s045) <|
       oSeq (oGen (.append 1 24 30 [.nilSl] (.t 34) (.t 37)) 4 s046) <|
       oMv g046 s006)) <|
      cExit 5))) <|
    cReg 2 (
     oSeq (oP (vAdd g023 (kc (.int .i64 1))) s047) <|
     oMv g047 s023)))) <|
  cSeq (cSeq (cReg 2 (
   oSeq (oMv g007 s050) <|
   oGen (.un .not (.t 40)) 1 s051)) <|
  cCond g051
   (cSeq (cReg 5 (
    oSeq (oMv g000 s052) <|
    oSeq (oCallF 32 (fun T => [g052 T, (.int .i64 (-1))]) s053) <|
    oSeq (oP (vBuild [.nilSl, (.bool false)] [((0, 1), g053)]) s054) <|
    oSeq (oBuildSlice 33 2 [.nilSl, (.bool false)] 1 [((0, 2), g054)] 3 s055) <|
    oMv g055 s004)) <|
   cExit 0)
   (cSkip)) <|
  cSeq (cReg 12 (
   oSeq (oMv g000 s057) <|
   oSeq (oP (vAdd g057 (kc (.int .i64 1))) s060) <|
   oSeq (oMv g005 s061) <|
   oSeq (oMv g006 s062) <|
   oSeq (oCallF 33 (fun T => [g060 T, g061 T, g062 T]) s063) <|
   oSeq (oMv g063 s056) <|
   oSeq (oP (vExt 0 g056) s064) <|
   oSeq (oP (vExt 1 g056) s065) <|
   oSeq (oP (vExt 2 g056) s066) <|
   oSeq (oMv g064 s012) <|
   oSeq (oMv g065 s013) <|
   oMv g066 s014)) <|
  cSeq (cSeq (cReg 3 (
   oSeq (oMv g012 s067) <|
   oSeq (oP (vLen g067) s070) <|
   oMv (kc (.int .i64 0)) s071)) <|
  cBlock 13 (cLoop 1000000 (cSeq (cReg 1 (
     oP (vLss g071 g070) s072)) <|
    cSeq (cCond g072
     (cSkip)
     (cExit 13)) <|
    cSeq (cBlock 15 (cSeq (cReg 3 (
      oSeq (oP (vIdx 1 g067 g071) s073) <|
      oSeq (oLoad g073 s074) <|
      oMv g074 s016)) <|
     cReg 6 (
      oSeq (oMv g004 s075) <|
      oSeq (oMv g016 s076) <|
      oSeq (oP (vBuild [.nilSl, (.bool false)] [((0, 1), g076), ((1, 1), (kc (.bool true)))]) s077) <|
      oSeq (oBuildSlice 33 2 [.nilSl, (.bool false)] 1 [((0, 2), g077)] 3 s100) <|
      oSeq (oGen (.append 2 32 33 [.nilSl, (.bool false)] (.t 61) (.t 64)) 4 s101) <|
      oMv g101 s004))) <|
    cReg 2 (
     oSeq (oP (vAdd g071 (kc (.int .i64 1))) s102) <|
     oMv g102 s071)))) <|
  cSeq (cSeq (cReg 3 (
   oSeq (oMv g013 s103) <|
   oSeq (oP (vLen g103) s104) <|
   oMv (kc (.int .i64 0)) s105)) <|
  cBlock 17 (cLoop 1000000 (cSeq (cReg 1 (
     oP (vLss g105 g104) s106)) <|
    cSeq (cCond g106
     (cSkip)
     (cExit 17)) <|
    cSeq (cBlock 19 (cSeq (cReg 3 (
      oSeq (oP (vIdx 1 g103 g105) s107) <|
      oSeq (oLoad g107 s110) <|
      oMv g110 s020)) <|
     cSeq (cReg 5 (
      oSeq (oMv g020 s111) <|
      oSeq (oMv g000 s112) <|
      oSeq (oCallF 32 (fun T => [g112 T, (.int .i64 1)]) s113) <|
      oSeq (oCallF 24 (fun T => [g111 T, g113 T]) s114) <|
      oGen (.un .not (.t 76)) 4 s115)) <|
     cCond g115
      (cReg 6 (
       oSeq (oMv g004 s116) <|
       oSeq (oMv g020 s117) <|
       oSeq (oP (vBuild [.nilSl, (.bool false)] [((0, 1), g117)]) s120) <|
       oSeq (oBuildSlice 33 2 [.nilSl, (.bool false)] 1 [((0, 2), g120)] 3 s121) <|
       oSeq (oGen (.append 2 32 33 [.nilSl, (.bool false)] (.t 78) (.t 81)) 4 s122) <|
       oMv g122 s004))
      (cSkip))) <|
    cReg 2 (
     oSeq (oP (vAdd g105 (kc (.int .i64 1))) s123) <|
     oMv g123 s105)))) <|
  cExit 0⟩
noncomputable def ffn24 : FFn := ⟨2, 8, [(4, none)],
  cSeq (cReg 1 (
   oMv (kc (.bool false)) s004)) <|
  cSeq (cReg 4 (
   oSeq (oMv g000 s005) <|
   oSeq (oMv g001 s006) <|
   oSeq (oCallF 48 (fun T => [g005 T, g006 T, (.fn (.func 49) [] [])]) s007) <|
   oMv g007 s004)) <|
  cExit 0⟩
noncomputable def ffn48 : FFn := ⟨3, 32, [(6, none)],
  cSeq (cReg 1 (
   oMv (kc (.bool false)) s006)) <|
  cSeq (cSeq (cReg 5 (
   oSeq (oMv g000 s012) <|
   oSeq (oP (vLen g012) s013) <|
   oSeq (oMv g001 s014) <|
   oSeq (oP (vLen g014) s015) <|
   oP (vNeq g013 g015) s016)) <|
  cCond g016
   (cSeq (cReg 1 (
    oMv (kc (.bool false)) s006)) <|
   cExit 0)
   (cSkip)) <|
  cSeq (cSeq (cReg 3 (
   oSeq (oMv g000 s017) <|
   oSeq (oP (vLen g017) s020) <|
   oMv (kc (.int .i64 0)) s021)) <|
  cBlock 1 (cLoop 1000000 (cSeq (cReg 1 (
     oP (vLss g021 g020) s022)) <|
    cSeq (cCond g022
     (cSkip)
     (cExit 1)) <|
    cSeq (cBlock 3 (cSeq (cReg 6 (
      oSeq (oMv g021 s023) <|
      oSeq (oP (vIdx 2 g017 g021) s024) <|
      oSeq (oLoadN 2 g024 s025) <|
      oSeq (oAlloc 50 [(.bool false), .nilSl] 3 s010) <|
      oSeq (oMv g023 s007) <|
      oStoreN 2 g010 g025 noPut)) <|
     cSeq (cReg 6 (
      oSeq (oMv g001 s026) <|
      oSeq (oMv g007 s027) <|
      oSeq (oP (vIdx 2 g026 g027) s030) <|
      oSeq (oLoadN 2 g030 s031) <|
      oSeq (oAlloc 50 [(.bool false), .nilSl] 4 s011) <|
      oStoreN 2 g011 g031 noPut)) <|
     cSeq (cReg 5 (
      oSeq (oMv g002 s032) <|
      oSeq (oLoadN 2 g010 s033) <|
      oSeq (oLoadN 2 g011 s034) <|
      oSeq (oCall g032 (fun T => [g033 T, g034 T]) s035) <|
      oGen (.un .not (.t 29)) 4 s036)) <|
     cCond g036
      (cSeq (cReg 1 (
       oMv (kc (.bool false)) s006)) <|
      cExit 0)
      (cSkip))) <|
    cReg 2 (
     oSeq (oP (vAdd g021 (kc (.int .i64 1))) s037) <|
     oMv g037 s021)))) <|
  cSeq (cReg 1 (
   oMv (kc (.bool true)) s006)) <|
  cExit 0⟩
noncomputable def ffn49 : FFn := ⟨2, 17, [(4, none)],
  cSeq (cReg 3 (
   oSeq (oBox 50 g000 0 s002) <|
   oSeq (oBox 50 g001 1 s003) <|
   oMv (kc (.bool false)) s004)) <|
  cSeq (cReg 13 (
   oSeq (oP (vFA 0 g002) s005) <|
   oSeq (oLoad g005 s006) <|
   oSeq (oP (vFA 0 g003) s007) <|
   oSeq (oLoad g007 s010) <|
   oSeq (oGen (.bin .eql .bool (.t 6) (.t 8)) 4 s011) <|
   oSeq (oMv g011 s012) <|
   oSeq (oGuard g012 true s013 (oP (vFA 1 g002) s013)) <|
   oSeq (oGuard g012 true s014 (oLoad g013 s014)) <|
   oSeq (oGuard g012 true s015 (oP (vFA 1 g003) s015)) <|
   oSeq (oGuard g012 true s016 (oLoad g015 s016)) <|
   oSeq (oGuard g012 true s017 (oCallF 77 (fun T => [g014 T, g016 T]) s017)) <|
   oSeq (oP (vPick g012 g017 (kc (.bool false))) s020) <|
   oMv g020 s004)) <|
  cExit 0⟩
noncomputable def ffn77 : FFn := ⟨2, 26, [(4, none)],
  cSeq (cReg 1 (
   oMv (kc (.bool false)) s004)) <|
  cSeq (cSeq (cReg 5 (
   oSeq (oMv g000 s006) <|
   oSeq (oP (vLen g006) s007) <|
   oSeq (oMv g001 s010) <|
   oSeq (oP (vLen g010) s011) <|
   oP (vNeq g007 g011) s012)) <|
  cCond g012
   (cSeq (cReg 1 (
    oMv (kc (.bool false)) s004)) <|
   cExit 0)
   (cSkip)) <|
  cSeq (cSeq (cReg 3 (
   oSeq (oMv g000 s013) <|
   oSeq (oP (vLen g013) s014) <|
   oMv (kc (.int .i64 0)) s015)) <|
  cBlock 1 (cLoop 1000000 (cSeq (cReg 1 (
     oP (vLss g015 g014) s016)) <|
    cSeq (cCond g016
     (cSkip)
     (cExit 1)) <|
    cSeq (cBlock 3 (cSeq (cReg 2 (
      oSeq (oMv g015 s017) <|
      oMv g017 s005)) <|
     cSeq (cDrw 9 (
      dSeq (dLook 0 [] (oMv g000 s020)) <|
      dSeq (dLook 0 [] (oMv g005 s021)) <|
      dSeq (dLook 0 [] (oP (vIdx 1 g020 g021) s022)) <|
      dSeq (dLook 0 [] (oLoad g022 s023)) <|
      dSeq (dLook 0 [] (oMv g001 s024)) <|
      dSeq (dLook 0 [] (oMv g005 s025)) <|
      dSeq (dLook 0 [] (oP (vIdx 1 g024 g025) s026)) <|
      dSeq (dLook 0 [] (oLoad g026 s027)) <|
      dSeq (dLook 0 [] (oP (vNeq g023 g027) s030)) <|
      dNop)
      (ckNop) []) <|
     cCond g030
      (cSeq (cReg 1 (
       oMv (kc (.bool false)) s004)) <|
      cExit 0)
      (cSkip))) <|
    cReg 2 (
     oSeq (oP (vAdd g015 (kc (.int .i64 1))) s031) <|
     oMv g031 s015)))) <|
  cSeq (cReg 1 (
   oMv (kc (.bool true)) s004)) <|
  cExit 0⟩
noncomputable def ffn7 : FFn := ⟨2, 22, [(4, (some (some 3)))],
  cSeq (cReg 1 (
   oAlloc 25 [(.int .i64 0), .nilSl, .nilSl] 0 s004)) <|
  cSeq (cReg 17 (
   oSeq (oMv g000 s010) <|
   oSeq (oGen (.un .neg (.t 8)) 1 s011) <|
   oSeq (oBuildSlice 3 1 [(.int .i64 0), (.int .i64 0)] 2 [((0, 1), g011), ((1, 1), (kc (.int .i64 1)))] 2 s012) <|
   oSeq (oCallF 5 (fun T => [g012 T]) s013) <|
   oSeq (oP (vBuild [.nilSl, (.bool false)] [((0, 1), g013)]) s014) <|
   oSeq (oMv g001 s015) <|
   oSeq (oBuildSlice 3 1 [(.int .i64 0), (.int .i64 0)] 2 [((0, 1), g015), ((1, 1), (kc (.int .i64 (-1))))] 6 s016) <|
   oSeq (oCallF 5 (fun T => [g016 T]) s017) <|
   oSeq (oP (vBuild [.nilSl, (.bool false)] [((0, 1), g017)]) s020) <|
   oSeq (oBuildSlice 33 2 [.nilSl, (.bool false), .nilSl, (.bool false)] 2 [((0, 2), g014), ((2, 2), g020)] 9 s021) <|
   oSeq (oCallF 4 (fun T => [(.int .i64 1), g021 T]) s022) <|
   oSeq (oMv g022 s007) <|
   oSeq (oP (vExt 0 g007) s023) <|
   oSeq (oP (vExt 1 g007) s024) <|
   oSeq (oAlloc 25 [(.int .i64 0), .nilSl, .nilSl] 14 s005) <|
   oSeq (oStoreN 3 g005 g023 noPut) <|
   oMv g024 s006)) <|
  cSeq (cReg 2 (
   oSeq (oLoadN 3 g005 s025) <|
   oStoreN 3 g004 g025 noPut)) <|
  cExit 0⟩
noncomputable def ffn6 : FFn := ⟨2, 72, [(4, (some (some 3))), (5, none)],
  cSeq (cReg 4 (
   oSeq (oBox 25 g000 0 s002) <|
   oSeq (oBox 25 g001 1 s003) <|
   oSeq (oAlloc 25 [(.int .i64 0), .nilSl, .nilSl] 2 s004) <|
   oMv (kc (.int .i64 0)) s005)) <|
  cSeq (cReg 9 (
   oSeq (oLoadN 3 g002 s015) <|
   oSeq (oLoadN 3 g003 s016) <|
   oSeq (oCallF 18 (fun T => [g015 T, g016 T]) s017) <|
   oSeq (oMv g017 s014) <|
   oSeq (oP (vExt 0 g014) s020) <|
   oSeq (oP (vExt 1 g014) s021) <|
   oSeq (oAlloc 25 [(.int .i64 0), .nilSl, .nilSl] 6 s006) <|
   oSeq (oStoreN 3 g006 g020 noPut) <|
   oMv g021 s007)) <|
  cSeq (cSeq (cReg 2 (
   oSeq (oMv g007 s022) <|
   oP (vNeq g022 (kc (.int .i64 0))) s023)) <|
  cCond g023
   (cSeq (cReg 4 (
    oSeq (oP (vBuild [(.int .i64 0), .nilSl, .nilSl] []) s024) <|
    oSeq (oMv g007 s025) <|
    oSeq (oStoreN 3 g004 g024 noPut) <|
    oMv g025 s005)) <|
   cExit 0)
   (cSkip)) <|
  cSeq (cSeq (cReg 4 (
   oSeq (oP (vFA 2 g002) s026) <|
   oSeq (oLoad g026 s027) <|
   oSeq (oP (vLen g027) s030) <|
   oP (vEql g030 (kc (.int .i64 0))) s031)) <|
  cCond g031
   (cSeq (cReg 3 (
    oSeq (oLoadN 3 g006 s032) <|
    oSeq (oStoreN 3 g004 g032 noPut) <|
    oMv (kc (.int .i64 0)) s005)) <|
   cExit 0)
   (cSkip)) <|
  cSeq (cReg 1 (
   oAlloc 22 [.nilSl] 0 s010)) <|
  cSeq (cReg 3 (
   oSeq (oGen (.mkmap) 0 s033) <|
   oSeq (oAlloc 52 [.nilMap] 1 s011) <|
   oStore g011 g033 noPut)) <|
  cSeq (cSeq (cReg 3 (
   oSeq (oP (vFA 1 g002) s034) <|
   oSeq (oLoad g034 s035) <|
   oCallF 19 (fun T => [g035 T]) s036)) <|
  cBlock 1 (cSlow 1000000 false 72 (.rangeFunc (.t 30) [31] (.region [
    ⟨(some 10), .alloc 33 [.nilSl, (.bool false)], none⟩,
    ⟨none, .store 2 (.t 10) (.t 31), none⟩]) (.block 1 (.seq (.draw [
      ⟨(some 32), .load none (.t 9), none, [(9, none)], 0, [(0, []), (1, [])]⟩,
      ⟨(some 33), .load (some 2) (.t 10), none, [(10, none)], 0, [(0, [])]⟩,
      ⟨(some 34), .fieldAddr 2 (.t 2), none, [(2, none)], 0, [(0, [])]⟩,
      ⟨(some 35), .load none (.t 34), none, [(34, (some 2))], 0, [(0, [])]⟩,
      ⟨(some 36), .call (.c (.fn (.func 20) [] [])) [(.t 33), (.t 35)], none, [(33, (some 1)), (35, (some 3))], 2, [(0, [])]⟩,
      ⟨none, .mapUpd .str (.t 32) (.t 36) (.c (.int .i64 1)), none, [(32, (some 0)), (36, (some 4))], 2, [(1, [])]⟩] []) <|
     .seq (.region [
      ⟨(some 37), .load (some 2) (.t 10), none⟩,
      ⟨(some 38), .fieldAddr 2 (.t 6), none⟩,
      ⟨(some 39), .load none (.t 38), none⟩,
      ⟨(some 40), .call (.c (.fn (.func 21) [] [])) [(.t 37), (.t 39)], none⟩]) <|
     .cond (.t 40)
      (.region [
       ⟨(some 41), .load none (.t 8), none⟩,
       ⟨(some 42), .load (some 2) (.t 10), none⟩,
       ⟨(some 43), .buildSlice 33 2 [.nilSl, (.bool false)] 1 [((0, 2), (.t 42))], none⟩,
       ⟨(some 44), .append 2 32 33 [.nilSl, (.bool false)] (.t 41) (.t 43), none⟩,
       ⟨none, .store 1 (.t 8) (.t 44), none⟩])
      (.skip)))))) <|
  cSeq (cSeq (cReg 3 (
   oSeq (oP (vFA 1 g006) s055) <|
   oSeq (oLoad g055 s056) <|
   oCallF 19 (fun T => [g056 T]) s057)) <|
  cBlock 5 (cSlow 1000000 false 72 (.rangeFunc (.t 47) [48] (.region [
    ⟨(some 11), .alloc 33 [.nilSl, (.bool false)], none⟩,
    ⟨none, .store 2 (.t 11) (.t 48), none⟩]) (.block 3 (.seq (.draw [
      ⟨(some 49), .load none (.t 9), none, [(9, none)], 0, [(0, []), (1, [])]⟩,
      ⟨(some 50), .load (some 2) (.t 11), none, [(11, none)], 0, [(0, [])]⟩,
      ⟨(some 51), .fieldAddr 2 (.t 2), none, [(2, none)], 0, [(0, [])]⟩,
      ⟨(some 52), .load none (.t 51), none, [(51, (some 2))], 0, [(0, [])]⟩,
      ⟨(some 53), .call (.c (.fn (.func 20) [] [])) [(.t 50), (.t 52)], none, [(50, (some 1)), (52, (some 3))], 2, [(0, [])]⟩,
      ⟨(some 54), .lookup .str (.int .i64 0) (.t 49) (.t 53) false, none, [(49, (some 0)), (53, (some 4))], 0, [(1, [])]⟩,
      ⟨(some 55), .bin .gtr .int (.t 54) (.c (.int .i64 0)), none, [(54, (some 5))], 0, [(1, [])]⟩,
      ⟨(some 56), .mv (.t 55), none, [(55, (some 6))], 0, [(1, [])]⟩,
      ⟨(some 57), .load none (.t 8), (some (56, true)), [(8, none), (56, (some 7))], 0, [(1, [])]⟩,
      ⟨(some 58), .mkfn (.func 23) [] [(.t 11)], (some (56, true)), [(11, none), (56, (some 7))], 0, [(1, [])]⟩,
      ⟨(some 59), .call (.c (.fn (.func 22) [] [])) [(.t 57), (.t 58)], (some (56, true)), [(57, (some 8)), (58, (some 9)), (56, (some 7))], 2, [(1, [])]⟩,
      ⟨(some 60), .un .not (.t 59), (some (56, true)), [(59, (some 10)), (56, (some 7))], 0, [(2, [])]⟩,
      ⟨(some 61), .pick (.t 56) (.t 60) (.c (.bool false)), none, [(56, (some 7)), (60, (some 11))], 0, [(2, [])]⟩] []) <|
     .cond (.t 61)
      (.region [
       ⟨(some 62), .load none (.t 8), none⟩,
       ⟨(some 63), .load (some 2) (.t 11), none⟩,
       ⟨(some 64), .buildSlice 33 2 [.nilSl, (.bool false)] 1 [((0, 2), (.t 63))], none⟩,
       ⟨(some 65), .append 2 32 33 [.nilSl, (.bool false)] (.t 62) (.t 64), none⟩,
       ⟨none, .store 1 (.t 8) (.t 65), none⟩])
      (.skip)))))) <|
  cSeq (cReg 8 (
   oSeq (oP (vFA 0 g002) s102) <|
   oSeq (oLoad g102 s103) <|
   oSeq (oLoad g010 s104) <|
   oSeq (oCallF 4 (fun T => [g103 T, g104 T]) s105) <|
   oSeq (oP (vExt 0 g105) s106) <|
   oSeq (oP (vExt 1 g105) s107) <|
   oSeq (oStoreN 3 g004 g106 noPut) <|
   oMv g107 s005)) <|
  cExit 0⟩
noncomputable def ffn18 : FFn := ⟨2, 26, [(4, (some (some 3))), (5, none)],
  cSeq (cReg 4 (
   oSeq (oBox 25 g000 0 s002) <|
   oSeq (oBox 25 g001 1 s003) <|
   oSeq (oAlloc 25 [(.int .i64 0), .nilSl, .nilSl] 2 s004) <|
   oMv (kc (.int .i64 0)) s005)) <|
  cSeq (cSeq (cReg 5 (
   oSeq (oLoadN 3 g002 s007) <|
   oSeq (oLoadN 3 g003 s010) <|
   oSeq (oBuildSlice 25 3 [(.int .i64 0), .nilSl, .nilSl, (.int .i64 0), .nilSl, .nilSl] 2 [((0, 3), g007), ((3, 3), g010)] 2 s011) <|
   oSeq (oCallF 39 (fun T => [g011 T]) s012) <|
   oMv g012 s006)) <|
  cSeq (cReg 2 (
   oSeq (oMv g006 s013) <|
   oP (vNeq g013 (kc (.int .i64 0))) s014)) <|
  cCond g014
   (cSeq (cReg 4 (
    oSeq (oP (vBuild [(.int .i64 0), .nilSl, .nilSl] []) s015) <|
    oSeq (oMv g006 s016) <|
    oSeq (oStoreN 3 g004 g015 noPut) <|
    oMv g016 s005)) <|
   cExit 0)
   (cSkip)) <|
  cSeq (cDrw 13 (
   dSeq (dLook 0 [] (oP (vFA 0 g002) s017)) <|
   dSeq (dLook 0 [] (oLoad g017 s020)) <|
   dSeq (dLook 0 [] (oP (vFA 2 g002) s021)) <|
   dSeq (dLook 0 [] (oLoad g021 s022)) <|
   dSeq (dLook 0 [] (oP (vFA 2 g003) s023)) <|
   dSeq (dLook 0 [] (oLoad g023 s024)) <|
   dSeq (dMake 6 (oBuildSlice 23 1 [.nilSl, .nilSl] 2 [((0, 1), g022), ((1, 1), g024)] 6 s025)) <|
   dSeq (dAct 0 [(6, 0)] (oCallF 41 (fun T => [g025 T]) s026)) <|
   dSeq (dAct 0 [] (oCallF 40 (fun T => [g020 T, g026 T]) s027)) <|
   dSeq (dLook 0 [] (oP (vExt 0 g027) s030)) <|
   dSeq (dLook 0 [] (oP (vExt 1 g027) s031)) <|
   dSeq (dAct 0 [] (oStoreN 3 g004 g030 noPut)) <|
   dSeq (dLook 0 [] (oMv g031 s005)) <|
   dNop)
   (ckSeq (ckOne g020 2 [] (oLoad g017 s020)) <|
  ckNop) []) <|
  cExit 0⟩
noncomputable def ffn39 : FFn := ⟨1, 34, [(2, none)],
  cSeq (cReg 1 (
   oMv (kc (.int .i64 0)) s002)) <|
  cSeq (cSeq (cReg 3 (
   oSeq (oMv g000 s010) <|
   oSeq (oP (vLen g010) s011) <|
   oMv (kc (.int .i64 0)) s012)) <|
  cBlock 1 (cLoop 1000000 (cSeq (cReg 1 (
     oP (vLss g012 g011) s013)) <|
    cSeq (cCond g013
     (cSkip)
     (cExit 1)) <|
    cSeq (cBlock 3 (cSeq (cReg 4 (
      oSeq (oP (vIdx 3 g010 g012) s014) <|
      oSeq (oLoadN 3 g014 s015) <|
      oSeq (oAlloc 25 [(.int .i64 0), .nilSl, .nilSl] 2 s004) <|
      oStoreN 3 g004 g015 noPut)) <|
     cSeq (cReg 3 (
      oSeq (oLoadN 3 g004 s016) <|
      oSeq (oCallF 25 (fun T => [g016 T]) s017) <|
      oMv g017 s005)) <|
     cSeq (cReg 2 (
      oSeq (oMv g005 s020) <|
      oP (vNeq g020 (kc (.int .i64 0))) s021)) <|
     cCond g021
      (cSeq (cReg 2 (
       oSeq (oMv g005 s022) <|
       oMv g022 s002)) <|
      cExit 0)
      (cSkip))) <|
    cReg 2 (
     oSeq (oP (vAdd g012 (kc (.int .i64 1))) s023) <|
     oMv g023 s012)))) <|
  cSeq (cSeq (cReg 3 (
   oSeq (oMv g000 s024) <|
   oSeq (oP (vLen g024) s025) <|
   oMv (kc (.int .i64 0)) s026)) <|
  cBlock 5 (cLoop 1000000 (cSeq (cReg 1 (
     oP (vLss g026 g025) s027)) <|
    cSeq (cCond g027
     (cSkip)
     (cExit 5)) <|
    cSeq (cBlock 7 (cSeq (cReg 4 (
      oSeq (oP (vIdx 3 g024 g026) s030) <|
      oSeq (oLoadN 3 g030 s031) <|
      oSeq (oAlloc 25 [(.int .i64 0), .nilSl, .nilSl] 2 s007) <|
      oStoreN 3 g007 g031 noPut)) <|
     cSeq (cDrw 7 (
      dSeq (dLook 0 [] (oP (vFA 0 g007) s032)) <|
      dSeq (dLook 0 [] (oLoad g032 s033)) <|
      dSeq (dLook 0 [] (oMv g000 s034)) <|
      dSeq (dLook 0 [] (oP (vIdx 3 g034 (kc (.int .i64 0))) s035)) <|
      dSeq (dLook 0 [] (oP (vFA 0 g035) s036)) <|
      dSeq (dLook 0 [] (oLoad g036 s037)) <|
      dSeq (dLook 0 [] (oP (vNeq g033 g037) s040)) <|
      dNop)
      (ckNop) []) <|
     cCond g040
      (cSeq (cReg 1 (
       oMv (kc (.int .i64 70)) s002)) <|
      cExit 0)
      (cSkip))) <|
    cReg 2 (
     oSeq (oP (vAdd g026 (kc (.int .i64 1))) s041) <|
     oMv g041 s026)))) <|
  cSeq (cReg 1 (
   oMv (kc (.int .i64 0)) s002)) <|
  cExit 0⟩
noncomputable def ffn25 : FFn := ⟨1, 45, [(2, none)],
  cSeq (cReg 2 (
   oSeq (oBox 25 g000 0 s001) <|
   oMv (kc (.int .i64 0)) s002)) <|
  cSeq (cSeq (cReg 4 (
   oSeq (oP (vFA 1 g001) s007) <|
   oSeq (oLoad g007 s010) <|
   oSeq (oP (vLen g010) s011) <|
   oP (vLeq g011 (kc (.int .i64 60))) s012)) <|
  cCond g012
   (cSeq (cReg 11 (
    oSeq (oP (vFA 0 g001) s014) <|
    oSeq (oLoad g014 s015) <|
    oSeq (oP (vFA 1 g001) s016) <|
    oSeq (oLoad g016 s017) <|
    oSeq (oCallF 4 (fun T => [g015 T, g017 T]) s020) <|
    oSeq (oMv g020 s013) <|
    oSeq (oP (vExt 0 g013) s021) <|
    oSeq (oP (vExt 1 g013) s022) <|
    oSeq (oAlloc 25 [(.int .i64 0), .nilSl, .nilSl] 8 s003) <|
    oSeq (oStoreN 3 g003 g021 noPut) <|
    oMv g022 s004)) <|
   cSeq (cReg 7 (
    oSeq (oMv g004 s023) <|
    oSeq (oP (vEql g023 (kc (.int .i64 0))) s024) <|
    oSeq (oMv g024 s025) <|
    oSeq (oGuard g025 true s026 (oLoadN 3 g001 s026)) <|
    oSeq (oGuard g025 true s027 (oLoadN 3 g003 s027)) <|
    oSeq (oGuard g025 true s030 (oCallF 50 (fun T => [g026 T, g027 T]) s030)) <|
    oP (vPick g025 g030 (kc (.bool false))) s031)) <|
   cCond g031
    (cSeq (cReg 1 (
     oMv (kc (.int .i64 0)) s002)) <|
    cExit 0)
    (cSkip))
   (cSkip)) <|
  cSeq (cSeq (cReg 4 (
   oSeq (oP (vFA 2 g001) s032) <|
   oSeq (oLoad g032 s033) <|
   oSeq (oP (vLen g033) s034) <|
   oP (vLeq g034 (kc (.int .i64 60))) s035)) <|
  cCond g035
   (cSeq (cReg 11 (
    oSeq (oP (vFA 0 g001) s037) <|
    oSeq (oLoad g037 s040) <|
    oSeq (oP (vFA 2 g001) s041) <|
    oSeq (oLoad g041 s042) <|
    oSeq (oCallF 40 (fun T => [g040 T, g042 T]) s043) <|
    oSeq (oMv g043 s036) <|
    oSeq (oP (vExt 0 g036) s044) <|
    oSeq (oP (vExt 1 g036) s045) <|
    oSeq (oAlloc 25 [(.int .i64 0), .nilSl, .nilSl] 8 s005) <|
    oSeq (oStoreN 3 g005 g044 noPut) <|
    oMv g045 s006)) <|
   cSeq (cReg 7 (
    oSeq (oMv g006 s046) <|
    oSeq (oP (vEql g046 (kc (.int .i64 0))) s047) <|
    oSeq (oMv g047 s050) <|
    oSeq (oGuard g050 true s051 (oLoadN 3 g001 s051)) <|
    oSeq (oGuard g050 true s052 (oLoadN 3 g005 s052)) <|
    oSeq (oGuard g050 true s053 (oCallF 50 (fun T => [g051 T, g052 T]) s053)) <|
    oP (vPick g050 g053 (kc (.bool false))) s054)) <|
   cCond g054
    (cSeq (cReg 1 (
     oMv (kc (.int .i64 0)) s002)) <|
    cExit 0)
    (cSkip))
   (cSkip)) <|
  cSeq (cReg 1 (
   oMv (kc (.int .i64 8)) s002)) <|
  cExit 0⟩
noncomputable def ffn50 : FFn := ⟨2, 28, [(4, none)],
  cSeq (cReg 3 (
   oSeq (oBox 25 g000 0 s002) <|
   oSeq (oBox 25 g001 1 s003) <|
   oMv (kc (.bool false)) s004)) <|
  cSeq (cReg 1 (
   oMv (kc (.fn (.func 78) [] [])) s005)) <|
  cSeq (cReg 1 (
   oMv (kc (.fn (.func 79) [] [])) s006)) <|
  cSeq (cReg 22 (
   oSeq (oP (vFA 0 g002) s007) <|
   oSeq (oLoad g007 s010) <|
   oSeq (oP (vFA 0 g003) s011) <|
   oSeq (oLoad g011 s012) <|
   oSeq (oP (vEql g010 g012) s013) <|
   oSeq (oMv g013 s014) <|
   oSeq (oGuard g014 true s015 (oP (vFA 1 g002) s015)) <|
   oSeq (oGuard g014 true s016 (oLoad g015 s016)) <|
   oSeq (oGuard g014 true s017 (oP (vFA 1 g003) s017)) <|
   oSeq (oGuard g014 true s020 (oLoad g017 s020)) <|
   oSeq (oGuard g014 true s021 (oMv g005 s021)) <|
   oSeq (oGuard g014 true s022 (oCallF 80 (fun T => [g016 T, g020 T, g021 T]) s022)) <|
   oSeq (oP (vPick g014 g022 (kc (.bool false))) s023) <|
   oSeq (oMv g023 s024) <|
   oSeq (oGuard g024 true s025 (oP (vFA 2 g002) s025)) <|
   oSeq (oGuard g024 true s026 (oLoad g025 s026)) <|
   oSeq (oGuard g024 true s027 (oP (vFA 2 g003) s027)) <|
   oSeq (oGuard g024 true s030 (oLoad g027 s030)) <|
   oSeq (oGuard g024 true s031 (oMv g006 s031)) <|
   oSeq (oGuard g024 true s032 (oCallF 81 (fun T => [g026 T, g030 T, g031 T]) s032)) <|
   oSeq (oP (vPick g024 g032 (kc (.bool false))) s033) <|
   oMv g033 s004)) <|
  cExit 0⟩
noncomputable def ffn78 : FFn := ⟨2, 17, [(4, none)],
  cSeq (cReg 3 (
   oSeq (oBox 33 g000 0 s002) <|
   oSeq (oBox 33 g001 1 s003) <|
   oMv (kc (.bool false)) s004)) <|
  cSeq (cReg 13 (
   oSeq (oP (vFA 1 g002) s005) <|
   oSeq (oLoad g005 s006) <|
   oSeq (oP (vFA 1 g003) s007) <|
   oSeq (oLoad g007 s010) <|
   oSeq (oGen (.bin .eql .bool (.t 6) (.t 8)) 4 s011) <|
   oSeq (oMv g011 s012) <|
   oSeq (oGuard g012 true s013 (oP (vFA 0 g002) s013)) <|
   oSeq (oGuard g012 true s014 (oLoad g013 s014)) <|
   oSeq (oGuard g012 true s015 (oP (vFA 0 g003) s015)) <|
   oSeq (oGuard g012 true s016 (oLoad g015 s016)) <|
   oSeq (oGuard g012 true s017 (oCallF 24 (fun T => [g014 T, g016 T]) s017)) <|
   oSeq (oP (vPick g012 g017 (kc (.bool false))) s020) <|
   oMv g020 s004)) <|
  cExit 0⟩
noncomputable def ffn79 : FFn := ⟨2, 17, [(4, none)],
  cSeq (cReg 3 (
   oSeq (oBox 73 g000 0 s002) <|
   oSeq (oBox 73 g001 1 s003) <|
   oMv (kc (.bool false)) s004)) <|
  cSeq (cReg 13 (
   oSeq (oP (vFA 0 g002) s005) <|
   oSeq (oLoad g005 s006) <|
   oSeq (oP (vFA 0 g003) s007) <|
   oSeq (oLoad g007 s010) <|
   oSeq (oP (vEql g006 g010) s011) <|
   oSeq (oMv g011 s012) <|
   oSeq (oGuard g012 true s013 (oP (vFA 1 g002) s013)) <|
   oSeq (oGuard g012 true s014 (oLoad g013 s014)) <|
   oSeq (oGuard g012 true s015 (oP (vFA 1 g003) s015)) <|
   oSeq (oGuard g012 true s016 (oLoad g015 s016)) <|
   oSeq (oGuard g012 true s017 (oCallF 24 (fun T => [g014 T, g016 T]) s017)) <|
   oSeq (oP (vPick g012 g017 (kc (.bool false))) s020) <|
   oMv g020 s004)) <|
  cExit 0⟩
noncomputable def ffn80 : FFn := ⟨3, 32, [(6, none)],
  cSeq (cReg 1 (
   oMv (kc (.bool false)) s006)) <|
  cSeq (cSeq (cReg 5 (
   oSeq (oMv g000 s012) <|
   oSeq (oP (vLen g012) s013) <|
   oSeq (oMv g001 s014) <|
   oSeq (oP (vLen g014) s015) <|
   oP (vNeq g013 g015) s016)) <|
  cCond g016
   (cSeq (cReg 1 (
    oMv (kc (.bool false)) s006)) <|
   cExit 0)
   (cSkip)) <|
  cSeq (cSeq (cReg 3 (
   oSeq (oMv g000 s017) <|
   oSeq (oP (vLen g017) s020) <|
   oMv (kc (.int .i64 0)) s021)) <|
  cBlock 1 (cLoop 1000000 (cSeq (cReg 1 (
     oP (vLss g021 g020) s022)) <|
    cSeq (cCond g022
     (cSkip)
     (cExit 1)) <|
    cSeq (cBlock 3 (cSeq (cReg 6 (
      oSeq (oMv g021 s023) <|
      oSeq (oP (vIdx 2 g017 g021) s024) <|
      oSeq (oLoadN 2 g024 s025) <|
      oSeq (oAlloc 33 [.nilSl, (.bool false)] 3 s010) <|
      oSeq (oMv g023 s007) <|
      oStoreN 2 g010 g025 noPut)) <|
     cSeq (cReg 6 (
      oSeq (oMv g001 s026) <|
      oSeq (oMv g007 s027) <|
      oSeq (oP (vIdx 2 g026 g027) s030) <|
      oSeq (oLoadN 2 g030 s031) <|
      oSeq (oAlloc 33 [.nilSl, (.bool false)] 4 s011) <|
      oStoreN 2 g011 g031 noPut)) <|
     cSeq (cReg 5 (
      oSeq (oMv g002 s032) <|
      oSeq (oLoadN 2 g010 s033) <|
      oSeq (oLoadN 2 g011 s034) <|
      oSeq (oCall g032 (fun T => [g033 T, g034 T]) s035) <|
      oGen (.un .not (.t 29)) 4 s036)) <|
     cCond g036
      (cSeq (cReg 1 (
       oMv (kc (.bool false)) s006)) <|
      cExit 0)
      (cSkip))) <|
    cReg 2 (
     oSeq (oP (vAdd g021 (kc (.int .i64 1))) s037) <|
     oMv g037 s021)))) <|
  cSeq (cReg 1 (
   oMv (kc (.bool true)) s006)) <|
  cExit 0⟩
noncomputable def ffn81 : FFn := ⟨3, 32, [(6, none)],
  cSeq (cReg 1 (
   oMv (kc (.bool false)) s006)) <|
  cSeq (cSeq (cReg 5 (
   oSeq (oMv g000 s012) <|
   oSeq (oP (vLen g012) s013) <|
   oSeq (oMv g001 s014) <|
   oSeq (oP (vLen g014) s015) <|
   oP (vNeq g013 g015) s016)) <|
  cCond g016
   (cSeq (cReg 1 (
    oMv (kc (.bool false)) s006)) <|
   cExit 0)
   (cSkip)) <|
  cSeq (cSeq (cReg 3 (
   oSeq (oMv g000 s017) <|
   oSeq (oP (vLen g017) s020) <|
   oMv (kc (.int .i64 0)) s021)) <|
  cBlock 1 (cLoop 1000000 (cSeq (cReg 1 (
     oP (vLss g021 g020) s022)) <|
    cSeq (cCond g022
     (cSkip)
     (cExit 1)) <|
    cSeq (cBlock 3 (cSeq (cReg 6 (
      oSeq (oMv g021 s023) <|
      oSeq (oP (vIdx 2 g017 g021) s024) <|
      oSeq (oLoadN 2 g024 s025) <|
      oSeq (oAlloc 73 [(.int .u8 0), .nilSl] 3 s010) <|
      oSeq (oMv g023 s007) <|
      oStoreN 2 g010 g025 noPut)) <|
     cSeq (cReg 6 (
      oSeq (oMv g001 s026) <|
      oSeq (oMv g007 s027) <|
      oSeq (oP (vIdx 2 g026 g027) s030) <|
      oSeq (oLoadN 2 g030 s031) <|
      oSeq (oAlloc 73 [(.int .u8 0), .nilSl] 4 s011) <|
      oStoreN 2 g011 g031 noPut)) <|
     cSeq (cReg 5 (
      oSeq (oMv g002 s032) <|
      oSeq (oLoadN 2 g010 s033) <|
      oSeq (oLoadN 2 g011 s034) <|
      oSeq (oCall g032 (fun T => [g033 T, g034 T]) s035) <|
      oGen (.un .not (.t 29)) 4 s036)) <|
     cCond g036
      (cSeq (cReg 1 (
       oMv (kc (.bool false)) s006)) <|
      cExit 0)
      (cSkip))) <|
    cReg 2 (
     oSeq (oP (vAdd g021 (kc (.int .i64 1))) s037) <|
     oMv g037 s021)))) <|
  cSeq (cReg 1 (
   oMv (kc (.bool true)) s006)) <|
  cExit 0⟩
noncomputable def ffn40 : FFn := ⟨2, 29, [(4, (some (some 3))), (5, none)],
  cSeq (cReg 2 (
   oSeq (oAlloc 25 [(.int .i64 0), .nilSl, .nilSl] 0 s004) <|
   oMv (kc (.int .i64 0)) s005)) <|
  cSeq (cSeq (cReg 4 (
   oSeq (oMv g000 s010) <|
   oSeq (oMv g001 s011) <|
   oSeq (oCallF 67 (fun T => [g010 T, g011 T, (.fn (.func 68) [] []), (.fn (.func 69) [] [])]) s012) <|
   oMv g012 s006)) <|
  cSeq (cReg 2 (
   oSeq (oMv g006 s013) <|
   oP (vNeq g013 (kc (.int .i64 0))) s014)) <|
  cCond g014
   (cSeq (cReg 4 (
    oSeq (oP (vBuild [(.int .i64 0), .nilSl, .nilSl] []) s015) <|
    oSeq (oMv g006 s016) <|
    oSeq (oStoreN 3 g004 g015 noPut) <|
    oMv g016 s005)) <|
   cExit 0)
   (cSkip)) <|
  cSeq (cReg 4 (
   oSeq (oMv g000 s017) <|
   oSeq (oMv g001 s020) <|
   oSeq (oCallF 31 (fun T => [g017 T, g020 T]) s021) <|
   oMv g021 s007)) <|
  cSeq (cSeq (cReg 3 (
   oSeq (oMv g007 s022) <|
   oSeq (oP (vLen g022) s023) <|
   oP (vGeq g023 (kc (.int .i64 1024))) s024)) <|
  cCond g024
   (cSeq (cReg 3 (
    oSeq (oP (vBuild [(.int .i64 0), .nilSl, .nilSl] []) s025) <|
    oSeq (oStoreN 3 g004 g025 noPut) <|
    oMv (kc (.int .i64 4)) s005)) <|
   cExit 0)
   (cSkip)) <|
  cSeq (cReg 9 (
   oSeq (oMv g000 s026) <|
   oSeq (oMv g000 s027) <|
   oSeq (oMv g007 s030) <|
   oSeq (oCallF 16 (fun T => [g027 T, g030 T]) s031) <|
   oSeq (oCallF 15 (fun T => [g026 T, g031 T]) s032) <|
   oSeq (oP (vExt 0 g032) s033) <|
   oSeq (oP (vExt 1 g032) s034) <|
   oSeq (oStoreN 3 g004 g033 noPut) <|
   oMv g034 s005)) <|
  cExit 0⟩
noncomputable def ffn67 : FFn := ⟨4, 28, [(8, none)],
  cSeq (cReg 4 (
   oSeq (oBox 3 g000 0 s004) <|
   oSeq (oBox 110 g002 1 s006) <|
   oSeq (oBox 84 g003 2 s007) <|
   oMv (kc (.int .i64 0)) s010)) <|
  cSeq (cBlock 1 (cSeq (cReg 7 (
    oSeq (oLoad g004 s012) <|
    oSeq (oP (vLss g012 (kc (.int .i64 0))) s013) <|
    oSeq (oMv g013 s014) <|
    oSeq (oGuard g014 false s015 (oLoad g004 s015)) <|
    oSeq (oGuard g014 false s016 (oP (vGtr g015 (kc (.int .i64 8))) s016)) <|
    oSeq (oP (vPick g014 (kc (.bool true)) g016) s017) <|
    oMv g017 s011)) <|
   cCond g011
    (cSeq (cReg 1 (
     oMv (kc (.int .i64 2)) s010)) <|
    cExit 0)
    (cSeq (cReg 4 (
     oSeq (oMv g001 s021) <|
     oSeq (oP (vLen g021) s022) <|
     oSeq (oP (vGtr g022 (kc (.int .i64 60))) s023) <|
     oMv g023 s020)) <|
    cCond g020
     (cSeq (cReg 1 (
      oMv (kc (.int .i64 4)) s010)) <|
     cExit 0)
     (cSeq (cReg 4 (
      oSeq (oMv g001 s025) <|
      oSeq (oGen (.mkfn (.func 102) [] [(.t 6), (.t 7)]) 1 s026) <|
      oSeq (oCallF 45 (fun T => [g025 T, g026 T]) s027) <|
      oMv g027 s024)) <|
     cCond g024
      (cSeq (cReg 1 (
       oMv (kc (.int .i64 8)) s010)) <|
      cExit 0)
      (cSeq (cReg 4 (
       oSeq (oMv g001 s031) <|
       oSeq (oGen (.mkfn (.func 103) [] [(.t 6), (.t 4)]) 1 s032) <|
       oSeq (oCallF 45 (fun T => [g031 T, g032 T]) s033) <|
       oMv g033 s030)) <|
      cCond g030
       (cSeq (cReg 1 (
        oMv (kc (.int .i64 70)) s010)) <|
       cExit 0)
       (cSkip)))))) <|
  cSeq (cReg 1 (
   oMv (kc (.int .i64 0)) s010)) <|
  cExit 0⟩
noncomputable def ffn102 : FFn := ⟨3, 15, [(4, none)],
  cSeq (cReg 2 (
   oSeq (oBox 73 g000 0 s003) <|
   oMv (kc (.bool false)) s004)) <|
  cSeq (cReg 11 (
   oSeq (oLoad g001 s005) <|
   oSeq (oLoadN 2 g003 s006) <|
   oSeq (oCall g005 (fun T => [g006 T]) s007) <|
   oSeq (oCallF 29 (fun T => [g007 T]) s010) <|
   oSeq (oP (vNeq g010 (kc (.int .i64 0))) s011) <|
   oSeq (oMv g011 s012) <|
   oSeq (oGuard g012 false s013 (oLoad g002 s013)) <|
   oSeq (oGuard g012 false s014 (oLoadN 2 g003 s014)) <|
   oSeq (oGuard g012 false s015 (oCall g013 (fun T => [g014 T]) s015)) <|
   oSeq (oP (vPick g012 (kc (.bool true)) g015) s016) <|
   oMv g016 s004)) <|
  cExit 0⟩
noncomputable def ffn45 : FFn := ⟨2, 9, [(4, none)],
  cSeq (cReg 1 (
   oMv (kc (.bool false)) s004)) <|
  cSeq (cReg 5 (
   oSeq (oMv g000 s005) <|
   oSeq (oMv g001 s006) <|
   oSeq (oCallF 76 (fun T => [g005 T, g006 T]) s007) <|
   oSeq (oP (vGeq g007 (kc (.int .i64 0))) s010) <|
   oMv g010 s004)) <|
  cExit 0⟩
noncomputable def ffn76 : FFn := ⟨2, 19, [(4, none)],
  cSeq (cReg 1 (
   oMv (kc (.int .i64 0)) s004)) <|
  cSeq (cSeq (cReg 3 (
   oSeq (oMv g000 s006) <|
   oSeq (oP (vLen g006) s007) <|
   oMv (kc (.int .i64 0)) s010)) <|
  cBlock 1 (cLoop 1000000 (cSeq (cReg 1 (
     oP (vLss g010 g007) s011)) <|
    cSeq (cCond g011
     (cSkip)
     (cExit 1)) <|
    cSeq (cBlock 3 (cSeq (cReg 2 (
      oSeq (oMv g010 s012) <|
      oMv g012 s005)) <|
     cSeq (cReg 6 (
      oSeq (oMv g001 s013) <|
      oSeq (oMv g000 s014) <|
      oSeq (oMv g005 s015) <|
      oSeq (oP (vIdx 2 g014 g015) s016) <|
      oSeq (oLoadN 2 g016 s017) <|
      oCall g013 (fun T => [g017 T]) s020)) <|
     cCond g020
      (cSeq (cReg 2 (
       oSeq (oMv g005 s021) <|
       oMv g021 s004)) <|
      cExit 0)
      (cSkip))) <|
    cReg 2 (
     oSeq (oP (vAdd g010 (kc (.int .i64 1))) s022) <|
     oMv g022 s010)))) <|
  cSeq (cReg 1 (
   oMv (kc (.int .i64 (-1))) s004)) <|
  cExit 0⟩
noncomputable def ffn103 : FFn := ⟨3, 12, [(4, none)],
  cSeq (cReg 2 (
   oSeq (oBox 73 g000 0 s003) <|
   oMv (kc (.bool false)) s004)) <|
  cSeq (cDrw 8 (
   dSeq (dLook 0 [] (oLoad g001 s005)) <|
   dSeq (dLook 0 [] (oLoadN 2 g003 s006)) <|
   dSeq (dAct 0 [] (oCall g005 (fun T => [g006 T]) s007)) <|
   dSeq (dLook 0 [] (oP (vLen g007) s010)) <|
   dSeq (dLook 1 [] (oLoad g002 s011)) <|
   dSeq (dLook 0 [] (oP (vAdd g011 (kc (.int .i64 1))) s012)) <|
   dSeq (dLook 0 [] (oP (vNeq g010 g012) s013)) <|
   dSeq (dLook 0 [] (oMv g013 s004)) <|
   dNop)
   (ckSeq (ckOne g011 0 [] (oLoad g002 s011)) <|
  ckNop) []) <|
  cExit 0⟩
noncomputable def ffn68 : FFn := ⟨1, 5, [(2, none)],
  cSeq (cReg 2 (
   oSeq (oBox 73 g000 0 s001) <|
   oMv (kc .nilSl) s002)) <|
  cSeq (cReg 3 (
   oSeq (oP (vFA 1 g001) s003) <|
   oSeq (oLoad g003 s004) <|
   oMv g004 s002)) <|
  cExit 0⟩
noncomputable def ffn69 : FFn := ⟨1, 18, [(2, none)],
  cSeq (cReg 2 (
   oSeq (oBox 73 g000 0 s001) <|
   oMv (kc (.bool false)) s002)) <|
  cSeq (cSeq (cReg 2 (
   oSeq (oP (vFA 0 g001) s003) <|
   oLoad g003 s004)) <|
  cBlock 1 (cSeq (cSeq (cReg 2 (
    oSeq (oP (vEql g004 (kc (.int .u8 1))) s006) <|
    oMv g006 s005)) <|
   cCond g005
    (cSkip)
    (cReg 2 (
     oSeq (oP (vEql g004 (kc (.int .u8 2))) s007) <|
     oMv g007 s005))) <|
   cCond g005
    (cSeq (cReg 5 (
     oSeq (oP (vFA 1 g001) s010) <|
     oSeq (oLoad g010 s011) <|
     oSeq (oCallF 36 (fun T => [g011 T]) s012) <|
     oSeq (oP (vNeq g012 (kc (.int .i64 0))) s013) <|
     oMv g013 s002)) <|
    cExit 0)
    (cSeq (cReg 2 (
     oSeq (oP (vEql g004 (kc (.int .u8 3))) s015) <|
     oMv g015 s014)) <|
    cCond g014
     (cSeq (cReg 5 (
      oSeq (oP (vFA 1 g001) s016) <|
      oSeq (oLoad g016 s017) <|
      oSeq (oCallF 36 (fun T => [g017 T]) s020) <|
      oSeq (oP (vLeq g020 (kc (.int .i64 0))) s021) <|
      oMv g021 s002)) <|
     cExit 0)
     (cSkip)))) <|
  cSeq (cReg 1 (
   oMv (kc (.bool true)) s002)) <|
  cExit 0⟩
noncomputable def ffn41 : FFn := ⟨1, 36, [(2, none)],
  cSeq (cReg 1 (
   oMv (kc .nilSl) s002)) <|
  cSeq (cReg 1 (
   oMv (kc (.int .i64 0)) s003)) <|
  cSeq (cSeq (cReg 3 (
   oSeq (oMv g000 s011) <|
   oSeq (oP (vLen g011) s012) <|
   oMv (kc (.int .i64 0)) s013)) <|
  cBlock 1 (cLoop 1000000 (cSeq (cReg 1 (
     oP (vLss g013 g012) s014)) <|
    cSeq (cCond g014
     (cSkip)
     (cExit 1)) <|
    cSeq (cBlock 3 (cSeq (cReg 3 (
      oSeq (oP (vIdx 1 g011 g013) s015) <|
      oSeq (oLoad g015 s016) <|
      oMv g016 s005)) <|
     cSeq (cReg 5 (
      oSeq (oMv g003 s017) <|
      oSeq (oMv g005 s020) <|
      oSeq (oP (vLen g020) s021) <|
      oSeq (oP (vAdd g017 g021) s022) <|
      oMv g022 s003)) <|
     cSeq (cReg 2 (
      oSeq (oMv g003 s023) <|
      oP (vLss g023 (kc (.int .i64 0))) s024)) <|
     cCond g024
      (cReg 2 (
       oSeq (oGen (.iface 9 (.c (.str ⟨#[108, 101, 110, 32, 111, 117, 116, 32, 111, 102, 32, 114, 97, 110, 103, 101]⟩))) 0 s025) <|
       oGen (.panic (.t 21)) 1 noPut))
      (cSkip))) <|
    cReg 2 (
     oSeq (oP (vAdd g013 (kc (.int .i64 1))) s026) <|
     oMv g026 s013)))) <|
  cSeq (cReg 3 (
   oSeq (oMv g003 s027) <|
   oSeq (oCallF 70 (fun T => [.nilSl, g027 T]) s030) <|
   oMv g030 s006)) <|
  cSeq (cSeq (cReg 3 (
   oSeq (oMv g000 s031) <|
   oSeq (oP (vLen g031) s032) <|
   oMv (kc (.int .i64 0)) s033)) <|
  cBlock 5 (cLoop 1000000 (cSeq (cReg 1 (
     oP (vLss g033 g032) s034)) <|
    cSeq (cCond g034
     (cSkip)
     (cExit 5)) <|
    cSeq (cBlock 7 (cSeq (cReg 3 (
      oSeq (oP (vIdx 1 g031 g033) s035) <|
      oSeq (oLoad g035 s036) <|
      oMv g036 s010)) <|
     cReg 4 (
      oSeq (oMv g006 s037) <|
      oSeq (oMv g010 s040) <|
      oSeq (oGen (.append 2 32 73 [(.int .u8 0), .nilSl] (.t 31) (.t 32)) 2 s041) <|
      oMv g041 s006))) <|
    cReg 2 (
     oSeq (oP (vAdd g033 (kc (.int .i64 1))) s042) <|
     oMv g042 s033)))) <|
  cSeq (cReg 2 (
   oSeq (oMv g006 s043) <|
   oMv g043 s002)) <|
  cExit 0⟩
noncomputable def ffn70 : FFn := ⟨2, 27, [(4, none)],
  cSeq (cReg 1 (
   oMv (kc .nilSl) s004)) <|
  cSeq (cSeq (cReg 2 (
   oSeq (oMv g001 s005) <|
   oP (vLss g005 (kc (.int .i64 0))) s006)) <|
  cCond g006
   (cReg 2 (
    oSeq (oGen (.iface 9 (.c (.str ⟨#[99, 97, 110, 110, 111, 116, 32, 98, 101, 32, 110, 101, 103, 97, 116, 105, 118, 101]⟩))) 0 s007) <|
    oGen (.panic (.t 7)) 1 noPut))
   (cSkip)) <|
  cSeq (cSeq (cReg 8 (
   oSeq (oMv g001 s010) <|
   oSeq (oMv g000 s011) <|
   oSeq (oGen (.cap (.t 9)) 2 s012) <|
   oSeq (oMv g000 s013) <|
   oSeq (oP (vLen g013) s014) <|
   oSeq (oP (vSub g012 g014) s015) <|
   oSeq (oP (vSub g010 g015) s016) <|
   oMv g016 s001)) <|
  cSeq (cReg 2 (
   oSeq (oMv g001 s017) <|
   oP (vGtr g017 (kc (.int .i64 0))) s020)) <|
  cCond g020
   (cReg 10 (
    oSeq (oMv g000 s021) <|
    oSeq (oMv g000 s022) <|
    oSeq (oGen (.cap (.t 18)) 2 s023) <|
    oSeq (oGen (.slice 2 (.t 17) none (some (.t 19)) none) 3 s024) <|
    oSeq (oMv g001 s025) <|
    oSeq (oGen (.appendZ 2 32 73 [(.int .u8 0), .nilSl] (.t 20) (.t 21)) 5 s026) <|
    oSeq (oMv g000 s027) <|
    oSeq (oP (vLen g027) s030) <|
    oSeq (oGen (.slice 2 (.t 22) none (some (.t 24)) none) 8 s031) <|
    oMv g031 s000))
   (cSkip)) <|
  cSeq (cReg 2 (
   oSeq (oMv g000 s032) <|
   oMv g032 s004)) <|
  cExit 0⟩
noncomputable def ffn19 : FFn := ⟨1, 4, [(2, none)],
  cSeq (cReg 2 (
   oSeq (oBox 22 g000 0 s001) <|
   oMv (kc .nilFn) s002)) <|
  cSeq (cReg 2 (
   oSeq (oGen (.mkfn (.func 42) [] [(.t 1)]) 0 s003) <|
   oMv g003 s002)) <|
  cExit 0⟩
noncomputable def ffn42 : FFn := ⟨2, 35, [],
  cSeq (cReg 3 (
   oSeq (oLoad g001 s007) <|
   oSeq (oP (vLen g007) s010) <|
   oMv (kc (.int .i64 0)) s011)) <|
  cBlock 1 (cLoop 1000000 (cSeq (cReg 1 (
     oP (vLss g011 g010) s012)) <|
    cSeq (cCond g012
     (cSkip)
     (cExit 1)) <|
    cSeq (cBlock 3 (cSeq (cReg 4 (
      oSeq (oP (vIdx 2 g007 g011) s013) <|
      oSeq (oLoadN 2 g013 s014) <|
      oSeq (oAlloc 33 [.nilSl, (.bool false)] 2 s004) <|
      oStoreN 2 g004 g014 noPut)) <|
     cSeq (cSeq (cReg 6 (
      oSeq (oMv g000 s015) <|
      oSeq (oP (vFA 0 g004) s016) <|
      oSeq (oLoad g016 s017) <|
      oSeq (oP (vBuild [.nilSl, (.bool false)] [((0, 1), g017)]) s020) <|
      oSeq (oCall g015 (fun T => [g020 T]) s021) <|
      oGen (.un .not (.t 17)) 5 s022)) <|
     cCond g022
      (cExit 0)
      (cSkip)) <|
     cSeq (cSeq (cReg 3 (
      oSeq (oP (vFA 1 g004) s023) <|
      oSeq (oLoad g023 s024) <|
      oGen (.un .not (.t 20)) 2 s025)) <|
     cCond g025
      (cExit 3)
      (cSkip)) <|
     cSeq (cDrw 9 (
      dSeq (dLook 0 [] (oP (vFA 0 g004) s027)) <|
      dSeq (dLook 0 [] (oLoad g027 s030)) <|
      dSeq (dAct 0 [] (oCallF 17 (fun _ => [(.int .i64 (-1))]) s031)) <|
      dSeq (dAct 0 [] (oCallF 43 (fun T => [g030 T, g031 T]) s032)) <|
      dSeq (dLook 0 [] (oMv g032 s026)) <|
      dSeq (dLook 0 [] (oP (vExt 0 g026) s033)) <|
      dSeq (dLook 0 [] (oP (vExt 1 g026) s034)) <|
      dSeq (dLook 0 [] (oMv g033 s005)) <|
      dSeq (dLook 0 [] (oMv g034 s006)) <|
      dNop)
      (ckSeq (ckOne g030 1 [] (oLoad g027 s030)) <|
     ckNop) []) <|
     cSeq (cReg 5 (
      oSeq (oMv g000 s035) <|
      oSeq (oMv g005 s036) <|
      oSeq (oP (vBuild [.nilSl, (.bool false)] [((0, 1), g036)]) s037) <|
      oSeq (oCall g035 (fun T => [g037 T]) s040) <|
      oGen (.un .not (.t 32)) 4 s041)) <|
     cCond g041
      (cExit 0)
      (cSkip))) <|
    cReg 2 (
     oSeq (oP (vAdd g011 (kc (.int .i64 1))) s042) <|
     oMv g042 s011)))⟩
noncomputable def ffn20 : FFn := ⟨2, 28, [(4, none)],
  cSeq (cReg 2 (
   oSeq (oBox 33 g000 0 s002) <|
   oMv (kc (.str ⟨#[]⟩)) s004)) <|
  cSeq (cReg 4 (
   oSeq (oMv g001 s010) <|
   oSeq (oP (vLen g010) s011) <|
   oSeq (oGen (.mksl 5 1 1 [(.int .u8 0)] (.t 9) (.t 9)) 2 s012) <|
   oMv g012 s005)) <|
  cSeq (cSeq (cReg 3 (
   oSeq (oMv g001 s013) <|
   oSeq (oP (vLen g013) s014) <|
   oMv (kc (.int .i64 0)) s015)) <|
  cBlock 1 (cLoop 1000000 (cSeq (cReg 1 (
     oP (vLss g015 g014) s016)) <|
    cSeq (cCond g016
     (cSkip)
     (cExit 1)) <|
    cSeq (cBlock 3 (cSeq (cReg 6 (
      oSeq (oMv g015 s017) <|
      oSeq (oP (vIdx 2 g013 g015) s020) <|
      oSeq (oLoadN 2 g020 s021) <|
      oSeq (oAlloc 73 [(.int .u8 0), .nilSl] 3 s007) <|
      oSeq (oMv g017 s006) <|
      oStoreN 2 g007 g021 noPut)) <|
     cSeq (cReg 4 (
      oSeq (oLoadN 2 g002 s022) <|
      oSeq (oLoadN 2 g007 s023) <|
      oSeq (oCallF 44 (fun T => [g022 T, g023 T]) s024) <|
      oP (vEql g024 (kc (.int .i64 0))) s025)) <|
     cCond g025
      (cReg 4 (
       oSeq (oMv g005 s026) <|
       oSeq (oMv g006 s027) <|
       oSeq (oP (vIdx 1 g026 g027) s030) <|
       oStore g030 (kc (.int .u8 1)) noPut))
      (cSkip))) <|
    cReg 2 (
     oSeq (oP (vAdd g015 (kc (.int .i64 1))) s031) <|
     oMv g031 s015)))) <|
  cSeq (cReg 3 (
   oSeq (oMv g005 s032) <|
   oSeq (oGen (.toStr (.t 26)) 1 s033) <|
   oMv g033 s004)) <|
  cExit 0⟩
noncomputable def ffn44 : FFn := ⟨2, 23, [(4, none)],
  cSeq (cReg 3 (
   oSeq (oBox 33 g000 0 s002) <|
   oSeq (oBox 73 g001 1 s003) <|
   oMv (kc (.int .i64 0)) s004)) <|
  cSeq (cReg 11 (
   oSeq (oP (vFA 0 g002) s012) <|
   oSeq (oLoad g012 s013) <|
   oSeq (oP (vFA 1 g003) s014) <|
   oSeq (oLoad g014 s015) <|
   oSeq (oCallF 75 (fun T => [g013 T, g015 T]) s016) <|
   oSeq (oMv g016 s011) <|
   oSeq (oP (vExt 0 g011) s017) <|
   oSeq (oP (vExt 1 g011) s020) <|
   oSeq (oAlloc 50 [(.bool false), .nilSl] 8 s005) <|
   oSeq (oStoreN 2 g005 g017 noPut) <|
   oMv g020 s006)) <|
  cSeq (cReg 7 (
   oSeq (oLoadN 2 g005 s022) <|
   oSeq (oCallF 65 (fun T => [g022 T]) s023) <|
   oSeq (oMv g023 s021) <|
   oSeq (oP (vExt 0 g021) s024) <|
   oSeq (oP (vExt 1 g021) s025) <|
   oSeq (oMv g024 s007) <|
   oMv g025 s010)) <|
  cSeq (cReg 2 (
   oSeq (oMv g007 s026) <|
   oMv g026 s004)) <|
  cExit 0⟩
noncomputable def ffn21 : FFn := ⟨2, 9, [(4, none)],
  cSeq (cReg 2 (
   oSeq (oBox 33 g000 0 s002) <|
   oMv (kc (.bool false)) s004)) <|
  cSeq (cReg 5 (
   oSeq (oMv g001 s005) <|
   oSeq (oGen (.mkfn (.func 46) [] [(.t 2)]) 1 s006) <|
   oSeq (oCallF 45 (fun T => [g005 T, g006 T]) s007) <|
   oSeq (oGen (.un .not (.t 7)) 3 s010) <|
   oMv g010 s004)) <|
  cExit 0⟩
noncomputable def ffn46 : FFn := ⟨2, 19, [(3, none)],
  cSeq (cReg 2 (
   oSeq (oBox 73 g000 0 s002) <|
   oMv (kc (.bool false)) s003)) <|
  cSeq (cReg 4 (
   oSeq (oLoadN 2 g001 s005) <|
   oSeq (oLoadN 2 g002 s006) <|
   oSeq (oCallF 44 (fun T => [g005 T, g006 T]) s007) <|
   oMv g007 s004)) <|
  cSeq (cReg 12 (
   oSeq (oMv g004 s010) <|
   oSeq (oP (vLss g010 (kc (.int .i64 0))) s011) <|
   oSeq (oMv g011 s012) <|
   oSeq (oGuard g012 false s013 (oMv g004 s013)) <|
   oSeq (oGuard g012 false s014 (oP (vGtr g013 (kc (.int .i64 0))) s014)) <|
   oSeq (oGuard g012 false s015 (oMv g014 s015)) <|
   oSeq (oGuard g015 true s016 (oP (vFA 0 g002) s016)) <|
   oSeq (oGuard g015 true s017 (oLoad g016 s017)) <|
   oSeq (oGuard g015 true s020 (oP (vEql g017 (kc (.int .u8 1))) s020)) <|
   oSeq (oGuard g012 false s021 (oP (vPick g015 g020 (kc (.bool false))) s021)) <|
   oSeq (oP (vPick g012 (kc (.bool true)) g021) s022) <|
   oMv g022 s003)) <|
  cExit 0⟩
noncomputable def ffn23 : FFn := ⟨2, 9, [(3, none)],
  cSeq (cReg 2 (
   oSeq (oBox 33 g000 0 s002) <|
   oMv (kc (.bool false)) s003)) <|
  cSeq (cReg 6 (
   oSeq (oP (vFA 0 g002) s004) <|
   oSeq (oLoad g004 s005) <|
   oSeq (oP (vFA 0 g001) s006) <|
   oSeq (oLoad g006 s007) <|
   oSeq (oCallF 24 (fun T => [g005 T, g007 T]) s010) <|
   oMv g010 s003)) <|
  cExit 0⟩
noncomputable def ffn8 : FFn := ⟨1, 33, [(2, none), (3, none), (4, none)],
  cSeq (cReg 4 (
   oSeq (oBox 25 g000 0 s001) <|
   oSeq (oMv (kc (.int .i64 0)) s002) <|
   oSeq (oMv (kc (.int .i64 0)) s003) <|
   oMv (kc (.int .i64 0)) s004)) <|
  cSeq (cSeq (cReg 3 (
   oSeq (oLoadN 3 g001 s007) <|
   oSeq (oCallF 25 (fun T => [g007 T]) s010) <|
   oMv g010 s004)) <|
  cSeq (cReg 2 (
   oSeq (oMv g004 s011) <|
   oP (vNeq g011 (kc (.int .i64 0))) s012)) <|
  cCond g012
   (cSeq (cReg 4 (
    oSeq (oMv g004 s013) <|
    oSeq (oMv (kc (.int .i64 0)) s002) <|
    oSeq (oMv (kc (.int .i64 0)) s003) <|
    oMv g013 s004)) <|
   cExit 0)
   (cSkip)) <|
  cSeq (cSeq (cReg 4 (
   oSeq (oP (vFA 2 g001) s014) <|
   oSeq (oLoad g014 s015) <|
   oSeq (oP (vLen g015) s016) <|
   oP (vEql g016 (kc (.int .i64 0))) s017)) <|
  cCond g017
   (cSeq (cReg 6 (
    oSeq (oP (vFA 0 g001) s020) <|
    oSeq (oLoad g020 s021) <|
    oSeq (oP (vAdd g021 (kc (.int .i64 1))) s022) <|
    oSeq (oMv g022 s002) <|
    oSeq (oMv (kc (.int .i64 0)) s003) <|
    oMv (kc (.int .i64 0)) s004)) <|
   cExit 0)
   (cSkip)) <|
  cSeq (cSeq (cReg 4 (
   oSeq (oP (vFA 1 g001) s023) <|
   oSeq (oLoad g023 s024) <|
   oSeq (oP (vLen g024) s025) <|
   oMv (kc (.int .i64 0)) s026)) <|
  cBlock 1 (cLoop 1000000 (cSeq (cReg 1 (
     oP (vLss g026 g025) s027)) <|
    cSeq (cCond g027
     (cSkip)
     (cExit 1)) <|
    cSeq (cBlock 3 (cSeq (cReg 4 (
      oSeq (oP (vIdx 2 g024 g026) s030) <|
      oSeq (oLoadN 2 g030 s031) <|
      oSeq (oAlloc 33 [.nilSl, (.bool false)] 2 s006) <|
      oStoreN 2 g006 g031 noPut)) <|
     cSeq (cReg 2 (
      oSeq (oP (vFA 1 g006) s032) <|
      oLoad g032 s033)) <|
     cCond g033
      (cReg 3 (
       oSeq (oMv g002 s034) <|
       oSeq (oP (vAdd g034 (kc (.int .i64 1))) s035) <|
       oMv g035 s002))
      (cReg 3 (
       oSeq (oMv g003 s036) <|
       oSeq (oP (vAdd g036 (kc (.int .i64 1))) s037) <|
       oMv g037 s003)))) <|
    cReg 2 (
     oSeq (oP (vAdd g026 (kc (.int .i64 1))) s040) <|
     oMv g040 s026)))) <|
  cExit 0⟩
noncomputable def ffn9 : FFn := ⟨1, 25, [(2, (some (some 3))), (3, none)],
  cSeq (cReg 2 (
   oSeq (oAlloc 25 [(.int .i64 0), .nilSl, .nilSl] 0 s002) <|
   oMv (kc (.int .i64 0)) s003)) <|
  cSeq (cSeq (cReg 6 (
   oSeq (oMv g000 s005) <|
   oSeq (oP (vLss g005 (kc (.int .i64 0))) s006) <|
   oSeq (oMv g006 s007) <|
   oSeq (oGuard g007 false s010 (oMv g000 s010)) <|
   oSeq (oGuard g007 false s011 (oP (vGtr g010 (kc (.int .i64 8))) s011)) <|
   oP (vPick g007 (kc (.bool true)) g011) s012)) <|
  cCond g012
   (cSeq (cReg 3 (
    oSeq (oP (vBuild [(.int .i64 0), .nilSl, .nilSl] []) s013) <|
    oSeq (oStoreN 3 g002 g013 noPut) <|
    oMv (kc (.int .i64 2)) s003)) <|
   cExit 0)
   (cSkip)) <|
  cSeq (cReg 4 (
   oSeq (oMv g000 s014) <|
   oSeq (oP (vAdd g014 (kc (.int .i64 1))) s015) <|
   oSeq (oGen (.mksl 50 2 32 [(.bool false), .nilSl] (.t 13) (.t 13)) 2 s016) <|
   oMv g016 s004)) <|
  cSeq (cReg 4 (
   oSeq (oMv g004 s017) <|
   oSeq (oCallF 17 (fun _ => [(.int .i64 (-1))]) s020) <|
   oSeq (oP (vIdx 2 g017 (kc (.int .i64 0))) s021) <|
   oStoreN 2 g021 g020 noPut)) <|
  cSeq (cReg 9 (
   oSeq (oMv g000 s022) <|
   oSeq (oMv g004 s023) <|
   oSeq (oP (vBuild [.nilSl, (.bool false)] [((0, 1), g023)]) s024) <|
   oSeq (oBuildSlice 33 2 [.nilSl, (.bool false)] 1 [((0, 2), g024)] 3 s025) <|
   oSeq (oCallF 4 (fun T => [g022 T, g025 T]) s026) <|
   oSeq (oP (vExt 0 g026) s027) <|
   oSeq (oP (vExt 1 g026) s030) <|
   oSeq (oStoreN 3 g002 g027 noPut) <|
   oMv g030 s003)) <|
  cExit 0⟩
noncomputable def ffn10 : FFn := ⟨0, 33, [(0, none)],
  cSeq (cReg 1 (
   oMv (kc (.bool false)) s000)) <|
  cSeq (cReg 9 (
   oSeq (oCallF 7 (fun _ => [(.int .i64 0), (.int .i64 1)]) s006) <|
   oSeq (oCallF 7 (fun _ => [(.int .i64 0), (.int .i64 2)]) s007) <|
   oSeq (oCallF 6 (fun T => [g006 T, g007 T]) s010) <|
   oSeq (oMv g010 s005) <|
   oSeq (oP (vExt 0 g005) s011) <|
   oSeq (oP (vExt 1 g005) s012) <|
   oSeq (oAlloc 25 [(.int .i64 0), .nilSl, .nilSl] 6 s001) <|
   oSeq (oStoreN 3 g001 g011 noPut) <|
   oMv g012 s002)) <|
  cSeq (cReg 9 (
   oSeq (oCallF 7 (fun _ => [(.int .i64 0), (.int .i64 0)]) s014) <|
   oSeq (oCallF 7 (fun _ => [(.int .i64 1), (.int .i64 1)]) s015) <|
   oSeq (oCallF 6 (fun T => [g014 T, g015 T]) s016) <|
   oSeq (oMv g016 s013) <|
   oSeq (oP (vExt 0 g013) s017) <|
   oSeq (oP (vExt 1 g013) s020) <|
   oSeq (oAlloc 25 [(.int .i64 0), .nilSl, .nilSl] 6 s003) <|
   oSeq (oStoreN 3 g003 g017 noPut) <|
   oMv g020 s004)) <|
  cSeq (cDrw 17 (
   dSeq (dAct 0 [] (oCallF 26 (fun _ => [(.int .i64 0)]) s021)) <|
   dSeq (dLook 0 [] (oGen (.field none 2 (.t 17)) 1 s022)) <|
   dSeq (dLook 0 [] (oP (vLen g022) s023)) <|
   dSeq (dLook 0 [] (oP (vEql g023 (kc (.int .i64 2))) s024)) <|
   dSeq (dLook 0 [] (oMv g024 s025)) <|
   dSeq (dLook 0 [] (oGuard g025 true s026 (oLoadN 3 g001 s026))) <|
   dSeq (dLook 0 [] (oGuard g025 true s027 (oMv g002 s027))) <|
   dSeq (dAct 0 [] (oGuard g025 true s030 (oCallF 26 (fun _ => [(.int .i64 0)]) s030))) <|
   dSeq (dAct 0 [] (oGuard g025 true s031 (oCallF 11 (fun T => [g026 T, g027 T, g030 T]) s031))) <|
   dSeq (dLook 0 [] (oP (vPick g025 g031 (kc (.bool false))) s032)) <|
   dSeq (dLook 0 [] (oMv g032 s033)) <|
   dSeq (dLook 0 [] (oGuard g033 true s034 (oLoadN 3 g003 s034))) <|
   dSeq (dLook 0 [] (oGuard g033 true s035 (oMv g004 s035))) <|
   dSeq (dAct 0 [] (oGuard g033 true s036 (oCallF 26 (fun _ => [(.int .i64 0)]) s036))) <|
   dSeq (dAct 0 [] (oGuard g033 true s037 (oCallF 11 (fun T => [g034 T, g035 T, g036 T]) s037))) <|
   dSeq (dLook 0 [] (oP (vPick g033 g037 (kc (.bool false))) s040)) <|
   dSeq (dLook 0 [] (oMv g040 s000)) <|
   dNop)
   (ckSeq (ckOne g026 3 [] (oGuard g025 true s026 (oLoadN 3 g001 s026))) <|
  ckSeq (ckOne g034 1 [] (oGuard g033 true s034 (oLoadN 3 g003 s034))) <|
  ckNop) []) <|
  cExit 0⟩
noncomputable def ffn26 : FFn := ⟨1, 16, [(2, (some (some 3)))],
  cSeq (cReg 1 (
   oAlloc 25 [(.int .i64 0), .nilSl, .nilSl] 0 s002)) <|
  cSeq (cReg 13 (
   oSeq (oMv g000 s006) <|
   oSeq (oGen (.un .neg (.t 6)) 1 s007) <|
   oSeq (oBuildSlice 3 1 [(.int .i64 0), (.int .i64 0)] 2 [((0, 1), g007), ((1, 1), (kc (.int .i64 1)))] 2 s010) <|
   oSeq (oCallF 5 (fun T => [g010 T]) s011) <|
   oSeq (oP (vBuild [.nilSl, (.bool false)] [((0, 1), g011)]) s012) <|
   oSeq (oBuildSlice 33 2 [.nilSl, (.bool false)] 1 [((0, 2), g012)] 5 s013) <|
   oSeq (oCallF 4 (fun T => [(.int .i64 1), g013 T]) s014) <|
   oSeq (oMv g014 s005) <|
   oSeq (oP (vExt 0 g005) s015) <|
   oSeq (oP (vExt 1 g005) s016) <|
   oSeq (oAlloc 25 [(.int .i64 0), .nilSl, .nilSl] 10 s003) <|
   oSeq (oStoreN 3 g003 g015 noPut) <|
   oMv g016 s004)) <|
  cSeq (cReg 2 (
   oSeq (oLoadN 3 g003 s017) <|
   oStoreN 3 g002 g017 noPut)) <|
  cExit 0⟩
noncomputable def ffn11 : FFn := ⟨3, 14, [(6, none)],
  cSeq (cReg 3 (
   oSeq (oBox 25 g000 0 s003) <|
   oSeq (oBox 25 g002 1 s005) <|
   oMv (kc (.bool false)) s006)) <|
  cSeq (cReg 8 (
   oSeq (oMv g001 s007) <|
   oSeq (oP (vEql g007 (kc (.int .i64 0))) s010) <|
   oSeq (oMv g010 s011) <|
   oSeq (oGuard g011 true s012 (oLoadN 3 g003 s012)) <|
   oSeq (oGuard g011 true s013 (oLoadN 3 g005 s013)) <|
   oSeq (oGuard g011 true s014 (oCallF 27 (fun T => [g012 T, g013 T]) s014)) <|
   oSeq (oP (vPick g011 g014 (kc (.bool false))) s015) <|
   oMv g015 s006)) <|
  cExit 0⟩
noncomputable def ffn27 : FFn := ⟨2, 8, [(4, none)],
  cSeq (cReg 3 (
   oSeq (oBox 25 g000 0 s002) <|
   oSeq (oBox 25 g001 1 s003) <|
   oMv (kc (.bool false)) s004)) <|
  cSeq (cReg 4 (
   oSeq (oLoadN 3 g002 s005) <|
   oSeq (oLoadN 3 g003 s006) <|
   oSeq (oCallF 51 (fun T => [g005 T, g006 T]) s007) <|
   oMv g007 s004)) <|
  cExit 0⟩
noncomputable def ffn51 : FFn := ⟨2, 24, [(4, none)],
  cSeq (cReg 3 (
   oSeq (oBox 25 g000 0 s002) <|
   oSeq (oBox 25 g001 1 s003) <|
   oMv (kc (.bool false)) s004)) <|
  cSeq (cReg 20 (
   oSeq (oP (vFA 0 g002) s005) <|
   oSeq (oLoad g005 s006) <|
   oSeq (oP (vFA 0 g003) s007) <|
   oSeq (oLoad g007 s010) <|
   oSeq (oP (vEql g006 g010) s011) <|
   oSeq (oMv g011 s012) <|
   oSeq (oGuard g012 true s013 (oP (vFA 1 g002) s013)) <|
   oSeq (oGuard g012 true s014 (oLoad g013 s014)) <|
   oSeq (oGuard g012 true s015 (oP (vFA 1 g003) s015)) <|
   oSeq (oGuard g012 true s016 (oLoad g015 s016)) <|
   oSeq (oGuard g012 true s017 (oCallF 82 (fun T => [g014 T, g016 T]) s017)) <|
   oSeq (oP (vPick g012 g017 (kc (.bool false))) s020) <|
   oSeq (oMv g020 s021) <|
   oSeq (oGuard g021 true s022 (oP (vFA 2 g002) s022)) <|
   oSeq (oGuard g021 true s023 (oLoad g022 s023)) <|
   oSeq (oGuard g021 true s024 (oP (vFA 2 g003) s024)) <|
   oSeq (oGuard g021 true s025 (oLoad g024 s025)) <|
   oSeq (oGuard g021 true s026 (oCallF 83 (fun T => [g023 T, g025 T]) s026)) <|
   oSeq (oP (vPick g021 g026 (kc (.bool false))) s027) <|
   oMv g027 s004)) <|
  cExit 0⟩
noncomputable def ffn82 : FFn := ⟨2, 42, [(4, none)],
  cSeq (cReg 1 (
   oMv (kc (.bool false)) s004)) <|
  cSeq (cSeq (cReg 5 (
   oSeq (oMv g000 s006) <|
   oSeq (oP (vLen g006) s007) <|
   oSeq (oMv g001 s010) <|
   oSeq (oP (vLen g010) s011) <|
   oP (vNeq g007 g011) s012)) <|
  cCond g012
   (cSeq (cReg 1 (
    oMv (kc (.bool false)) s004)) <|
   cExit 0)
   (cSkip)) <|
  cSeq (cSeq (cReg 1 (
   oMv (kc (.int .i64 0)) s005)) <|
  cBlock 1 (cLoop 1000000 (cSeq (cSeq (cReg 4 (
     oSeq (oMv g005 s013) <|
     oSeq (oMv g000 s014) <|
     oSeq (oP (vLen g014) s015) <|
     oP (vLss g013 g015) s016)) <|
    cCond g016
     (cSkip)
     (cExit 1)) <|
    cSeq (cBlock 3 (cSeq (cDrw 25 (
      dSeq (dLook 0 [] (oMv g000 s021)) <|
      dSeq (dLook 0 [] (oMv g005 s022)) <|
      dSeq (dLook 0 [] (oP (vIdx 2 g021 g022) s023)) <|
      dSeq (dLook 0 [] (oP (vFA 1 g023) s024)) <|
      dSeq (dLook 0 [] (oLoad g024 s025)) <|
      dSeq (dLook 0 [] (oMv g001 s026)) <|
      dSeq (dLook 0 [] (oMv g005 s027)) <|
      dSeq (dLook 0 [] (oP (vIdx 2 g026 g027) s030)) <|
      dSeq (dLook 0 [] (oP (vFA 1 g030) s031)) <|
      dSeq (dLook 0 [] (oLoad g031 s032)) <|
      dSeq (dLook 0 [] (oGen (.bin .neq .bool (.t 21) (.t 26)) 10 s033)) <|
      dSeq (dLook 0 [] (oMv g033 s034)) <|
      dSeq (dLook 0 [] (oGuard g034 false s035 (oMv g000 s035))) <|
      dSeq (dLook 0 [] (oGuard g034 false s036 (oMv g005 s036))) <|
      dSeq (dLook 0 [] (oGuard g034 false s037 (oP (vIdx 2 g035 g036) s037))) <|
      dSeq (dLook 0 [] (oGuard g034 false s040 (oP (vFA 0 g037) s040))) <|
      dSeq (dLook 0 [] (oGuard g034 false s041 (oLoad g040 s041))) <|
      dSeq (dLook 0 [] (oGuard g034 false s042 (oMv g001 s042))) <|
      dSeq (dLook 0 [] (oGuard g034 false s043 (oMv g005 s043))) <|
      dSeq (dLook 0 [] (oGuard g034 false s044 (oP (vIdx 2 g042 g043) s044))) <|
      dSeq (dLook 0 [] (oGuard g034 false s045 (oP (vFA 0 g044) s045))) <|
      dSeq (dLook 0 [] (oGuard g034 false s046 (oLoad g045 s046))) <|
      dSeq (dAct 0 [] (oGuard g034 false s047 (oCallF 106 (fun T => [g041 T, g046 T]) s047))) <|
      dSeq (dLook 0 [] (oGuard g034 false s050 (oGen (.un .not (.t 39)) 23 s050))) <|
      dSeq (dLook 0 [] (oP (vPick g034 (kc (.bool true)) g050) s051)) <|
      dNop)
      (ckNop) []) <|
     cCond g051
      (cSeq (cReg 1 (
       oMv (kc (.bool false)) s004)) <|
      cExit 0)
      (cSkip))) <|
    cReg 3 (
     oSeq (oMv g005 s017) <|
     oSeq (oP (vAdd g017 (kc (.int .i64 1))) s020) <|
     oMv g020 s005)))) <|
  cSeq (cReg 1 (
   oMv (kc (.bool true)) s004)) <|
  cExit 0⟩
noncomputable def ffn106 : FFn := ⟨2, 27, [(4, none)],
  cSeq (cReg 1 (
   oMv (kc (.bool false)) s004)) <|
  cSeq (cSeq (cReg 5 (
   oSeq (oMv g000 s006) <|
   oSeq (oP (vLen g006) s007) <|
   oSeq (oMv g001 s010) <|
   oSeq (oP (vLen g010) s011) <|
   oP (vNeq g007 g011) s012)) <|
  cCond g012
   (cSeq (cReg 1 (
    oMv (kc (.bool false)) s004)) <|
   cExit 0)
   (cSkip)) <|
  cSeq (cSeq (cReg 1 (
   oMv (kc (.int .i64 0)) s005)) <|
  cBlock 1 (cLoop 1000000 (cSeq (cSeq (cReg 4 (
     oSeq (oMv g005 s013) <|
     oSeq (oMv g000 s014) <|
     oSeq (oP (vLen g014) s015) <|
     oP (vLss g013 g015) s016)) <|
    cCond g016
     (cSkip)
     (cExit 1)) <|
    cSeq (cBlock 3 (cSeq (cDrw 10 (
      dSeq (dLook 0 [] (oMv g000 s021)) <|
      dSeq (dLook 0 [] (oMv g005 s022)) <|
      dSeq (dLook 0 [] (oP (vIdx 2 g021 g022) s023)) <|
      dSeq (dLook 0 [] (oLoadN 2 g023 s024)) <|
      dSeq (dLook 0 [] (oMv g001 s025)) <|
      dSeq (dLook 0 [] (oMv g005 s026)) <|
      dSeq (dLook 0 [] (oP (vIdx 2 g025 g026) s027)) <|
      dSeq (dLook 0 [] (oLoadN 2 g027 s030)) <|
      dSeq (dAct 0 [] (oCallF 133 (fun T => [g024 T, g030 T]) s031)) <|
      dSeq (dLook 0 [] (oGen (.un .not (.t 25)) 9 s032)) <|
      dNop)
      (ckNop) []) <|
     cCond g032
      (cSeq (cReg 1 (
       oMv (kc (.bool false)) s004)) <|
      cExit 0)
      (cSkip))) <|
    cReg 3 (
     oSeq (oMv g005 s017) <|
     oSeq (oP (vAdd g017 (kc (.int .i64 1))) s020) <|
     oMv g020 s005)))) <|
  cSeq (cReg 1 (
   oMv (kc (.bool true)) s004)) <|
  cExit 0⟩
noncomputable def ffn133 : FFn := ⟨2, 17, [(4, none)],
  cSeq (cReg 3 (
   oSeq (oBox 50 g000 0 s002) <|
   oSeq (oBox 50 g001 1 s003) <|
   oMv (kc (.bool false)) s004)) <|
  cSeq (cReg 13 (
   oSeq (oP (vFA 0 g002) s005) <|
   oSeq (oLoad g005 s006) <|
   oSeq (oP (vFA 0 g003) s007) <|
   oSeq (oLoad g007 s010) <|
   oSeq (oGen (.bin .eql .bool (.t 6) (.t 8)) 4 s011) <|
   oSeq (oMv g011 s012) <|
   oSeq (oGuard g012 true s013 (oP (vFA 1 g002) s013)) <|
   oSeq (oGuard g012 true s014 (oLoad g013 s014)) <|
   oSeq (oGuard g012 true s015 (oP (vFA 1 g003) s015)) <|
   oSeq (oGuard g012 true s016 (oLoad g015 s016)) <|
   oSeq (oGuard g012 true s017 (oCallF 152 (fun T => [g014 T, g016 T]) s017)) <|
   oSeq (oP (vPick g012 g017 (kc (.bool false))) s020) <|
   oMv g020 s004)) <|
  cExit 0⟩
noncomputable def ffn152 : FFn := ⟨2, 26, [(4, none)],
  cSeq (cReg 1 (
   oMv (kc (.bool false)) s004)) <|
  cSeq (cSeq (cReg 5 (
   oSeq (oMv g000 s006) <|
   oSeq (oP (vLen g006) s007) <|
   oSeq (oMv g001 s010) <|
   oSeq (oP (vLen g010) s011) <|
   oP (vNeq g007 g011) s012)) <|
  cCond g012
   (cSeq (cReg 1 (
    oMv (kc (.bool false)) s004)) <|
   cExit 0)
   (cSkip)) <|
  cSeq (cSeq (cReg 1 (
   oMv (kc (.int .i64 0)) s005)) <|
  cBlock 1 (cLoop 1000000 (cSeq (cSeq (cReg 4 (
     oSeq (oMv g005 s013) <|
     oSeq (oMv g000 s014) <|
     oSeq (oP (vLen g014) s015) <|
     oP (vLss g013 g015) s016)) <|
    cCond g016
     (cSkip)
     (cExit 1)) <|
    cSeq (cBlock 3 (cSeq (cDrw 9 (
      dSeq (dLook 0 [] (oMv g000 s021)) <|
      dSeq (dLook 0 [] (oMv g005 s022)) <|
      dSeq (dLook 0 [] (oP (vIdx 1 g021 g022) s023)) <|
      dSeq (dLook 0 [] (oLoad g023 s024)) <|
      dSeq (dLook 0 [] (oMv g001 s025)) <|
      dSeq (dLook 0 [] (oMv g005 s026)) <|
      dSeq (dLook 0 [] (oP (vIdx 1 g025 g026) s027)) <|
      dSeq (dLook 0 [] (oLoad g027 s030)) <|
      dSeq (dLook 0 [] (oP (vNeq g024 g030) s031)) <|
      dNop)
      (ckNop) []) <|
     cCond g031
      (cSeq (cReg 1 (
       oMv (kc (.bool false)) s004)) <|
      cExit 0)
      (cSkip))) <|
    cReg 3 (
     oSeq (oMv g005 s017) <|
     oSeq (oP (vAdd g017 (kc (.int .i64 1))) s020) <|
     oMv g020 s005)))) <|
  cSeq (cReg 1 (
   oMv (kc (.bool true)) s004)) <|
  cExit 0⟩
noncomputable def ffn83 : FFn := ⟨2, 42, [(4, none)],
  cSeq (cReg 1 (
   oMv (kc (.bool false)) s004)) <|
  cSeq (cSeq (cReg 5 (
   oSeq (oMv g000 s006) <|
   oSeq (oP (vLen g006) s007) <|
   oSeq (oMv g001 s010) <|
   oSeq (oP (vLen g010) s011) <|
   oP (vNeq g007 g011) s012)) <|
  cCond g012
   (cSeq (cReg 1 (
    oMv (kc (.bool false)) s004)) <|
   cExit 0)
   (cSkip)) <|
  cSeq (cSeq (cReg 1 (
   oMv (kc (.int .i64 0)) s005)) <|
  cBlock 1 (cLoop 1000000 (cSeq (cSeq (cReg 4 (
     oSeq (oMv g005 s013) <|
     oSeq (oMv g000 s014) <|
     oSeq (oP (vLen g014) s015) <|
     oP (vLss g013 g015) s016)) <|
    cCond g016
     (cSkip)
     (cExit 1)) <|
    cSeq (cBlock 3 (cSeq (cDrw 25 (
      dSeq (dLook 0 [] (oMv g000 s021)) <|
      dSeq (dLook 0 [] (oMv g005 s022)) <|
      dSeq (dLook 0 [] (oP (vIdx 2 g021 g022) s023)) <|
      dSeq (dLook 0 [] (oP (vFA 0 g023) s024)) <|
      dSeq (dLook 0 [] (oLoad g024 s025)) <|
      dSeq (dLook 0 [] (oMv g001 s026)) <|
      dSeq (dLook 0 [] (oMv g005 s027)) <|
      dSeq (dLook 0 [] (oP (vIdx 2 g026 g027) s030)) <|
      dSeq (dLook 0 [] (oP (vFA 0 g030) s031)) <|
      dSeq (dLook 0 [] (oLoad g031 s032)) <|
      dSeq (dLook 0 [] (oP (vNeq g025 g032) s033)) <|
      dSeq (dLook 0 [] (oMv g033 s034)) <|
      dSeq (dLook 0 [] (oGuard g034 false s035 (oMv g000 s035))) <|
      dSeq (dLook 0 [] (oGuard g034 false s036 (oMv g005 s036))) <|
      dSeq (dLook 0 [] (oGuard g034 false s037 (oP (vIdx 2 g035 g036) s037))) <|
      dSeq (dLook 0 [] (oGuard g034 false s040 (oP (vFA 1 g037) s040))) <|
      dSeq (dLook 0 [] (oGuard g034 false s041 (oLoad g040 s041))) <|
      dSeq (dLook 0 [] (oGuard g034 false s042 (oMv g001 s042))) <|
      dSeq (dLook 0 [] (oGuard g034 false s043 (oMv g005 s043))) <|
      dSeq (dLook 0 [] (oGuard g034 false s044 (oP (vIdx 2 g042 g043) s044))) <|
      dSeq (dLook 0 [] (oGuard g034 false s045 (oP (vFA 1 g044) s045))) <|
      dSeq (dLook 0 [] (oGuard g034 false s046 (oLoad g045 s046))) <|
      dSeq (dAct 0 [] (oGuard g034 false s047 (oCallF 106 (fun T => [g041 T, g046 T]) s047))) <|
      dSeq (dLook 0 [] (oGuard g034 false s050 (oGen (.un .not (.t 39)) 23 s050))) <|
      dSeq (dLook 0 [] (oP (vPick g034 (kc (.bool true)) g050) s051)) <|
      dNop)
      (ckNop) []) <|
     cCond g051
      (cSeq (cReg 1 (
       oMv (kc (.bool false)) s004)) <|
      cExit 0)
      (cSkip))) <|
    cReg 3 (
     oSeq (oMv g005 s017) <|
     oSeq (oP (vAdd g017 (kc (.int .i64 1))) s020) <|
     oMv g020 s005)))) <|
  cSeq (cReg 1 (
   oMv (kc (.bool true)) s004)) <|
  cExit 0⟩
end Go.Proofs.YtihcmbhankddkaaGreat.Ev
