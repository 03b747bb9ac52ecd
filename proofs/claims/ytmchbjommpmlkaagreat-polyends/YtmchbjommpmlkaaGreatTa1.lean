/-
  The code of the law's functions, printed by program off the translation.
-/
import Derived.Test.YtmchbjommpmlkaaGreatEvSlots
namespace Go.Proofs.YtmchbjommpmlkaaGreat.Ev
open Go
set_option maxRecDepth 1000000
set_option linter.all false
noncomputable def ffn32 : FFn := ⟨2, 9, [(4, none)],
  cSeq (cReg 1 (
   oMv (kc (.bool false)) s004)) <|
  cSeq (cReg 5 (
   oSeq (oMv g000 s005) <|
   oSeq (oMv g001 s006) <|
   oSeq (oCallF 54 (fun T => [g005 T, g006 T]) s007) <|
   oSeq (oP (vGeq g007 (kc (.int .i64 0))) s010) <|
   oMv g010 s004)) <|
  cExit 0⟩
noncomputable def ffn33 : FFn := ⟨1, 6, [(2, none)],
  cSeq (cReg 1 (
   oMv (kc (.bool false)) s002)) <|
  cSeq (cReg 4 (
   oSeq (oMv g000 s003) <|
   oSeq (oCallF 34 (fun T => [g003 T]) s004) <|
   oSeq (oP (vGtr g004 (kc (.int .i64 0))) s005) <|
   oMv g005 s002)) <|
  cExit 0⟩
noncomputable def ffn34 : FFn := ⟨1, 16, [(2, none)],
  cSeq (cReg 1 (
   oMv (kc (.int .i64 0)) s002)) <|
  cSeq (cSeq (cReg 3 (
   oSeq (oMv g000 s005) <|
   oSeq (oP (vLen g005) s006) <|
   oP (vEql g006 (kc (.int .i64 0))) s007)) <|
  cCond g007
   (cSeq (cReg 1 (
    oMv (kc (.int .i64 0)) s002)) <|
   cExit 0)
   (cSkip)) <|
  cSeq (cReg 9 (
   oSeq (oMv g000 s011) <|
   oSeq (oP (vIdx 2 g011 (kc (.int .i64 0))) s012) <|
   oSeq (oLoadN 2 g012 s013) <|
   oSeq (oCallF 55 (fun T => [g013 T]) s014) <|
   oSeq (oMv g014 s010) <|
   oSeq (oP (vExt 0 g010) s015) <|
   oSeq (oP (vExt 1 g010) s016) <|
   oSeq (oMv g015 s003) <|
   oMv g016 s004)) <|
  cSeq (cReg 2 (
   oSeq (oMv g003 s017) <|
   oMv g017 s002)) <|
  cExit 0⟩
noncomputable def ffn17 : FFn := ⟨2, 22, [(4, (some (some 3))), (5, none)],
  cSeq (cReg 2 (
   oSeq (oAlloc 25 [(.int .i64 0), .nilSl, .nilSl] 0 s004) <|
   oMv (kc (.int .i64 0)) s005)) <|
  cSeq (cSeq (cReg 3 (
   oSeq (oMv g001 s007) <|
   oSeq (oP (vLen g007) s010) <|
   oP (vGeq g010 (kc (.int .i64 1024))) s011)) <|
  cCond g011
   (cSeq (cReg 3 (
    oSeq (oP (vBuild [(.int .i64 0), .nilSl, .nilSl] []) s012) <|
    oSeq (oStoreN 3 g004 g012 noPut) <|
    oMv (kc (.int .i64 4)) s005)) <|
   cExit 0)
   (cSkip)) <|
  cSeq (cReg 4 (
   oSeq (oMv g000 s013) <|
   oSeq (oMv g001 s014) <|
   oSeq (oCallF 29 (fun T => [g013 T, g014 T]) s015) <|
   oMv g015 s006)) <|
  cSeq (cSeq (cReg 3 (
   oSeq (oMv g006 s016) <|
   oSeq (oP (vLen g016) s017) <|
   oP (vGeq g017 (kc (.int .i64 1024))) s020)) <|
  cCond g020
   (cSeq (cReg 3 (
    oSeq (oP (vBuild [(.int .i64 0), .nilSl, .nilSl] []) s021) <|
    oSeq (oStoreN 3 g004 g021 noPut) <|
    oMv (kc (.int .i64 4)) s005)) <|
   cExit 0)
   (cSkip)) <|
  cSeq (cReg 6 (
   oSeq (oMv g000 s022) <|
   oSeq (oMv g006 s023) <|
   oSeq (oMv g001 s024) <|
   oSeq (oP (vBuild [(.int .i64 0), .nilSl, .nilSl] [((0, 1), g022), ((1, 1), g023), ((2, 1), g024)]) s025) <|
   oSeq (oStoreN 3 g004 g025 noPut) <|
   oMv (kc (.int .i64 0)) s005)) <|
  cExit 0⟩
noncomputable def ffn29 : FFn := ⟨2, 84, [(4, none)],
  cSeq (cReg 1 (
   oMv (kc .nilSl) s004)) <|
  cSeq (cReg 2 (
   oSeq (oMv (kc .nilSl) s005) <|
   oMv (kc .nilSl) s006)) <|
  cSeq (cReg 1 (
   oMv (kc (.bool false)) s007)) <|
  cSeq (cSeq (cReg 3 (
   oSeq (oMv g001 s021) <|
   oSeq (oP (vLen g021) s022) <|
   oMv (kc (.int .i64 0)) s023)) <|
  cBlock 1 (cLoop 1000000 (cSeq (cReg 1 (
     oP (vLss g023 g022) s024)) <|
    cSeq (cCond g024
     (cSkip)
     (cExit 1)) <|
    cSeq (cBlock 3 (cSeq (cReg 4 (
      oSeq (oP (vIdx 2 g021 g023) s025) <|
      oSeq (oLoadN 2 g025 s026) <|
      oSeq (oAlloc 66 [(.int .u8 0), .nilSl] 2 s011) <|
      oStoreN 2 g011 g026 noPut)) <|
     cSeq (cReg 2 (
      oSeq (oP (vFA 0 g011) s027) <|
      oLoad g027 s030)) <|
     cBlock 5 (cSeq (cBlock 11 (cSeq (cBlock 9 (cSeq (cBlock 7 (cSeq (cSeq (cSeq (cReg 2 (
          oSeq (oP (vEql g030 (kc (.int .u8 1))) s032) <|
          oMv g032 s031)) <|
         cCond g031
          (cExit 7)
          (cSkip)) <|
         cSeq (cReg 2 (
          oSeq (oP (vEql g030 (kc (.int .u8 3))) s034) <|
          oMv g034 s033)) <|
         cCond g033
          (cExit 9)
          (cSkip)) <|
         cExit 11)) <|
        cSeq (cSeq (cReg 6 (
         oSeq (oMv g005 s035) <|
         oSeq (oP (vFA 1 g011) s036) <|
         oSeq (oLoad g036 s037) <|
         oSeq (oBuildSlice 36 1 [.nilSl] 1 [((0, 1), g037)] 3 s040) <|
         oSeq (oGen (.append 1 24 36 [.nilSl] (.t 29) (.t 32)) 4 s041) <|
         oMv g041 s005)) <|
        cExit 3) <|
        cExit 5)) <|
       cReg 1 (
        oMv (kc (.bool true)) s007))) <|
      cSeq (cReg 6 (
       oSeq (oMv g006 s042) <|
       oSeq (oP (vFA 1 g011) s043) <|
       oSeq (oLoad g043 s044) <|
       oSeq (oBuildSlice 36 1 [.nilSl] 1 [((0, 1), g044)] 3 s045) <|
       oSeq (oGen (.append 1 24 36 [.nilSl] (.t 34) (.t 37)) 4 s046) <|
       oMv g046 s006)) <|
      cExit 5))) <|
    cReg 2 (
     oSeq (oP (vAdd g023 (kc (.int .i64 1))) s047) <|
     oMv g047 s023)))) <|
  cSeq (cSeq (cReg 2 (
   oSeq (oMv g007 s050) <|
   oGen (.un .not (.t 40)) 1 s051)) <|
  cCond g051
   (cSeq (cReg 5 (
    oSeq (oMv g000 s052) <|
    oSeq (oCallF 30 (fun T => [g052 T, (.int .i64 (-1))]) s053) <|
    oSeq (oP (vBuild [.nilSl, (.bool false)] [((0, 1), g053)]) s054) <|
    oSeq (oBuildSlice 43 2 [.nilSl, (.bool false)] 1 [((0, 2), g054)] 3 s055) <|
    oMv g055 s004)) <|
   cExit 0)
   (cSkip)) <|
  cSeq (cReg 12 (
   oSeq (oMv g000 s057) <|
   oSeq (oP (vAdd g057 (kc (.int .i64 1))) s060) <|
   oSeq (oMv g005 s061) <|
   oSeq (oMv g006 s062) <|
   oSeq (oCallF 31 (fun T => [g060 T, g061 T, g062 T]) s063) <|
   oSeq (oMv g063 s056) <|
   oSeq (oP (vExt 0 g056) s064) <|
   oSeq (oP (vExt 1 g056) s065) <|
   oSeq (oP (vExt 2 g056) s066) <|
   oSeq (oMv g064 s012) <|
   oSeq (oMv g065 s013) <|
   oMv g066 s014)) <|
  cSeq (cSeq (cReg 3 (
   oSeq (oMv g012 s067) <|
   oSeq (oP (vLen g067) s070) <|
   oMv (kc (.int .i64 0)) s071)) <|
  cBlock 13 (cLoop 1000000 (cSeq (cReg 1 (
     oP (vLss g071 g070) s072)) <|
    cSeq (cCond g072
     (cSkip)
     (cExit 13)) <|
    cSeq (cBlock 15 (cSeq (cReg 3 (
      oSeq (oP (vIdx 1 g067 g071) s073) <|
      oSeq (oLoad g073 s074) <|
      oMv g074 s016)) <|
     cReg 6 (
      oSeq (oMv g004 s075) <|
      oSeq (oMv g016 s076) <|
      oSeq (oP (vBuild [.nilSl, (.bool false)] [((0, 1), g076), ((1, 1), (kc (.bool true)))]) s077) <|
      oSeq (oBuildSlice 43 2 [.nilSl, (.bool false)] 1 [((0, 2), g077)] 3 s100) <|
      oSeq (oGen (.append 2 32 43 [.nilSl, (.bool false)] (.t 61) (.t 64)) 4 s101) <|
      oMv g101 s004))) <|
    cReg 2 (
     oSeq (oP (vAdd g071 (kc (.int .i64 1))) s102) <|
     oMv g102 s071)))) <|
  cSeq (cSeq (cReg 3 (
   oSeq (oMv g013 s103) <|
   oSeq (oP (vLen g103) s104) <|
   oMv (kc (.int .i64 0)) s105)) <|
  cBlock 17 (cLoop 1000000 (cSeq (cReg 1 (
     oP (vLss g105 g104) s106)) <|
    cSeq (cCond g106
     (cSkip)
     (cExit 17)) <|
    cSeq (cBlock 19 (cSeq (cReg 3 (
      oSeq (oP (vIdx 1 g103 g105) s107) <|
      oSeq (oLoad g107 s110) <|
      oMv g110 s020)) <|
     cSeq (cReg 5 (
      oSeq (oMv g020 s111) <|
      oSeq (oMv g000 s112) <|
      oSeq (oCallF 30 (fun T => [g112 T, (.int .i64 1)]) s113) <|
      oSeq (oCallF 44 (fun T => [g111 T, g113 T]) s114) <|
      oGen (.un .not (.t 76)) 4 s115)) <|
     cCond g115
      (cReg 6 (
       oSeq (oMv g004 s116) <|
       oSeq (oMv g020 s117) <|
       oSeq (oP (vBuild [.nilSl, (.bool false)] [((0, 1), g117)]) s120) <|
       oSeq (oBuildSlice 43 2 [.nilSl, (.bool false)] 1 [((0, 2), g120)] 3 s121) <|
       oSeq (oGen (.append 2 32 43 [.nilSl, (.bool false)] (.t 78) (.t 81)) 4 s122) <|
       oMv g122 s004))
      (cSkip))) <|
    cReg 2 (
     oSeq (oP (vAdd g105 (kc (.int .i64 1))) s123) <|
     oMv g123 s105)))) <|
  cExit 0⟩
noncomputable def ffn44 : FFn := ⟨2, 8, [(4, none)],
  cSeq (cReg 1 (
   oMv (kc (.bool false)) s004)) <|
  cSeq (cReg 4 (
   oSeq (oMv g000 s005) <|
   oSeq (oMv g001 s006) <|
   oSeq (oCallF 65 (fun T => [g005 T, g006 T, (.fn (.func 66) [] [])]) s007) <|
   oMv g007 s004)) <|
  cExit 0⟩
noncomputable def ffn65 : FFn := ⟨3, 32, [(6, none)],
  cSeq (cReg 1 (
   oMv (kc (.bool false)) s006)) <|
  cSeq (cSeq (cReg 5 (
   oSeq (oMv g000 s012) <|
   oSeq (oP (vLen g012) s013) <|
   oSeq (oMv g001 s014) <|
   oSeq (oP (vLen g014) s015) <|
   oP (vNeq g013 g015) s016)) <|
  cCond g016
   (cSeq (cReg 1 (
    oMv (kc (.bool false)) s006)) <|
   cExit 0)
   (cSkip)) <|
  cSeq (cSeq (cReg 3 (
   oSeq (oMv g000 s017) <|
   oSeq (oP (vLen g017) s020) <|
   oMv (kc (.int .i64 0)) s021)) <|
  cBlock 1 (cLoop 1000000 (cSeq (cReg 1 (
     oP (vLss g021 g020) s022)) <|
    cSeq (cCond g022
     (cSkip)
     (cExit 1)) <|
    cSeq (cBlock 3 (cSeq (cReg 6 (
      oSeq (oMv g021 s023) <|
      oSeq (oP (vIdx 2 g017 g021) s024) <|
      oSeq (oLoadN 2 g024 s025) <|
      oSeq (oAlloc 40 [(.bool false), .nilSl] 3 s010) <|
      oSeq (oMv g023 s007) <|
      oStoreN 2 g010 g025 noPut)) <|
     cSeq (cReg 6 (
      oSeq (oMv g001 s026) <|
      oSeq (oMv g007 s027) <|
      oSeq (oP (vIdx 2 g026 g027) s030) <|
      oSeq (oLoadN 2 g030 s031) <|
      oSeq (oAlloc 40 [(.bool false), .nilSl] 4 s011) <|
      oStoreN 2 g011 g031 noPut)) <|
     cSeq (cReg 5 (
      oSeq (oMv g002 s032) <|
      oSeq (oLoadN 2 g010 s033) <|
      oSeq (oLoadN 2 g011 s034) <|
      oSeq (oCall g032 (fun T => [g033 T, g034 T]) s035) <|
      oGen (.un .not (.t 29)) 4 s036)) <|
     cCond g036
      (cSeq (cReg 1 (
       oMv (kc (.bool false)) s006)) <|
      cExit 0)
      (cSkip))) <|
    cReg 2 (
     oSeq (oP (vAdd g021 (kc (.int .i64 1))) s037) <|
     oMv g037 s021)))) <|
  cSeq (cReg 1 (
   oMv (kc (.bool true)) s006)) <|
  cExit 0⟩
noncomputable def ffn66 : FFn := ⟨2, 17, [(4, none)],
  cSeq (cReg 3 (
   oSeq (oBox 40 g000 0 s002) <|
   oSeq (oBox 40 g001 1 s003) <|
   oMv (kc (.bool false)) s004)) <|
  cSeq (cReg 13 (
   oSeq (oP (vFA 0 g002) s005) <|
   oSeq (oLoad g005 s006) <|
   oSeq (oP (vFA 0 g003) s007) <|
   oSeq (oLoad g007 s010) <|
   oSeq (oGen (.bin .eql .bool (.t 6) (.t 8)) 4 s011) <|
   oSeq (oMv g011 s012) <|
   oSeq (oGuard g012 true s013 (oP (vFA 1 g002) s013)) <|
   oSeq (oGuard g012 true s014 (oLoad g013 s014)) <|
   oSeq (oGuard g012 true s015 (oP (vFA 1 g003) s015)) <|
   oSeq (oGuard g012 true s016 (oLoad g015 s016)) <|
   oSeq (oGuard g012 true s017 (oCallF 86 (fun T => [g014 T, g016 T]) s017)) <|
   oSeq (oP (vPick g012 g017 (kc (.bool false))) s020) <|
   oMv g020 s004)) <|
  cExit 0⟩
noncomputable def ffn86 : FFn := ⟨2, 26, [(4, none)],
  cSeq (cReg 1 (
   oMv (kc (.bool false)) s004)) <|
  cSeq (cSeq (cReg 5 (
   oSeq (oMv g000 s006) <|
   oSeq (oP (vLen g006) s007) <|
   oSeq (oMv g001 s010) <|
   oSeq (oP (vLen g010) s011) <|
   oP (vNeq g007 g011) s012)) <|
  cCond g012
   (cSeq (cReg 1 (
    oMv (kc (.bool false)) s004)) <|
   cExit 0)
   (cSkip)) <|
  cSeq (cSeq (cReg 3 (
   oSeq (oMv g000 s013) <|
   oSeq (oP (vLen g013) s014) <|
   oMv (kc (.int .i64 0)) s015)) <|
  cBlock 1 (cLoop 1000000 (cSeq (cReg 1 (
     oP (vLss g015 g014) s016)) <|
    cSeq (cCond g016
     (cSkip)
     (cExit 1)) <|
    cSeq (cBlock 3 (cSeq (cReg 2 (
      oSeq (oMv g015 s017) <|
      oMv g017 s005)) <|
     cSeq (cDrw 9 (
      dSeq (dLook 0 [] (oMv g000 s020)) <|
      dSeq (dLook 0 [] (oMv g005 s021)) <|
      dSeq (dLook 0 [] (oP (vIdx 1 g020 g021) s022)) <|
      dSeq (dLook 0 [] (oLoad g022 s023)) <|
      dSeq (dLook 0 [] (oMv g001 s024)) <|
      dSeq (dLook 0 [] (oMv g005 s025)) <|
      dSeq (dLook 0 [] (oP (vIdx 1 g024 g025) s026)) <|
      dSeq (dLook 0 [] (oLoad g026 s027)) <|
      dSeq (dLook 0 [] (oP (vNeq g023 g027) s030)) <|
      dNop)
      (ckNop) []) <|
     cCond g030
      (cSeq (cReg 1 (
       oMv (kc (.bool false)) s004)) <|
      cExit 0)
      (cSkip))) <|
    cReg 2 (
     oSeq (oP (vAdd g015 (kc (.int .i64 1))) s031) <|
     oMv g031 s015)))) <|
  cSeq (cReg 1 (
   oMv (kc (.bool true)) s004)) <|
  cExit 0⟩
noncomputable def ffn5 : FFn := ⟨1, 13, [(2, (some (some 3))), (3, none)],
  cSeq (cReg 2 (
   oSeq (oAlloc 25 [(.int .i64 0), .nilSl, .nilSl] 0 s002) <|
   oMv (kc (.int .i64 0)) s003)) <|
  cSeq (cSeq (cReg 6 (
   oSeq (oMv g000 s004) <|
   oSeq (oP (vLss g004 (kc (.int .i64 0))) s005) <|
   oSeq (oMv g005 s006) <|
   oSeq (oGuard g006 false s007 (oMv g000 s007)) <|
   oSeq (oGuard g006 false s010 (oP (vGtr g007 (kc (.int .i64 8))) s010)) <|
   oP (vPick g006 (kc (.bool true)) g010) s011)) <|
  cCond g011
   (cSeq (cReg 3 (
    oSeq (oP (vBuild [(.int .i64 0), .nilSl, .nilSl] []) s012) <|
    oSeq (oStoreN 3 g002 g012 noPut) <|
    oMv (kc (.int .i64 2)) s003)) <|
   cExit 0)
   (cSkip)) <|
  cSeq (cReg 4 (
   oSeq (oMv g000 s013) <|
   oSeq (oCallF 10 (fun T => [g013 T]) s014) <|
   oSeq (oStoreN 3 g002 g014 noPut) <|
   oMv (kc (.int .i64 0)) s003)) <|
  cExit 0⟩
noncomputable def ffn10 : FFn := ⟨1, 5, [(2, (some (some 3)))],
  cSeq (cReg 1 (
   oAlloc 25 [(.int .i64 0), .nilSl, .nilSl] 0 s002)) <|
  cSeq (cReg 3 (
   oSeq (oMv g000 s003) <|
   oSeq (oCallF 19 (fun T => [g003 T, .nilSl]) s004) <|
   oStoreN 3 g002 g004 noPut)) <|
  cExit 0⟩
noncomputable def ffn19 : FFn := ⟨2, 15, [(4, (some (some 3)))],
  cSeq (cReg 1 (
   oAlloc 25 [(.int .i64 0), .nilSl, .nilSl] 0 s004)) <|
  cSeq (cReg 4 (
   oSeq (oMv g000 s006) <|
   oSeq (oMv g001 s007) <|
   oSeq (oCallF 35 (fun T => [g006 T, g007 T]) s010) <|
   oMv g010 s005)) <|
  cSeq (cReg 7 (
   oSeq (oMv g000 s011) <|
   oSeq (oMv g000 s012) <|
   oSeq (oMv g005 s013) <|
   oSeq (oCallF 36 (fun T => [g012 T, g013 T]) s014) <|
   oSeq (oMv g005 s015) <|
   oSeq (oP (vBuild [(.int .i64 0), .nilSl, .nilSl] [((0, 1), g011), ((1, 1), g014), ((2, 1), g015)]) s016) <|
   oStoreN 3 g004 g016 noPut)) <|
  cExit 0⟩
noncomputable def ffn35 : FFn := ⟨2, 63, [(4, none)],
  cSeq (cReg 1 (
   oMv (kc .nilSl) s004)) <|
  cSeq (cReg 13 (
   oSeq (oMv g000 s015) <|
   oSeq (oP (vAdd g015 (kc (.int .i64 1))) s016) <|
   oSeq (oMv g001 s017) <|
   oSeq (oCallF 57 (fun T => [g017 T]) s020) <|
   oSeq (oMv g000 s021) <|
   oSeq (oMv g001 s022) <|
   oSeq (oCallF 58 (fun T => [g021 T, g022 T]) s023) <|
   oSeq (oCallF 56 (fun T => [g016 T, g020 T, g023 T]) s024) <|
   oSeq (oMv g024 s014) <|
   oSeq (oP (vExt 0 g014) s025) <|
   oSeq (oP (vExt 1 g014) s026) <|
   oSeq (oMv g025 s005) <|
   oMv g026 s006)) <|
  cSeq (cReg 1 (
   oMv (kc (.bool false)) s007)) <|
  cSeq (cReg 1 (
   oMv (kc .nilSl) s010)) <|
  cSeq (cSeq (cReg 1 (
   oMv (kc (.int .i64 0)) s011)) <|
  cBlock 1 (cLoop 1000000 (cSeq (cSeq (cReg 4 (
     oSeq (oMv g011 s027) <|
     oSeq (oMv g005 s030) <|
     oSeq (oP (vLen g030) s031) <|
     oP (vLss g027 g031) s032)) <|
    cCond g032
     (cSkip)
     (cExit 1)) <|
    cSeq (cBlock 3 (cReg 9 (
      oSeq (oMv g010 s035) <|
      oSeq (oMv g005 s036) <|
      oSeq (oMv g011 s037) <|
      oSeq (oP (vIdx 1 g036 g037) s040) <|
      oSeq (oLoad g040 s041) <|
      oSeq (oP (vBuild [(.int .u8 0), .nilSl] [((0, 1), (kc (.int .u8 1))), ((1, 1), g041)]) s042) <|
      oSeq (oBuildSlice 66 2 [(.int .u8 0), .nilSl] 1 [((0, 2), g042)] 6 s043) <|
      oSeq (oGen (.append 2 32 66 [(.int .u8 0), .nilSl] (.t 29) (.t 35)) 7 s044) <|
      oMv g044 s010))) <|
    cReg 3 (
     oSeq (oMv g011 s033) <|
     oSeq (oP (vAdd g033 (kc (.int .i64 1))) s034) <|
     oMv g034 s011)))) <|
  cSeq (cSeq (cReg 1 (
   oMv (kc (.int .i64 0)) s012)) <|
  cBlock 5 (cLoop 1000000 (cSeq (cSeq (cReg 4 (
     oSeq (oMv g012 s045) <|
     oSeq (oMv g006 s046) <|
     oSeq (oP (vLen g046) s047) <|
     oP (vLss g045 g047) s050)) <|
    cCond g050
     (cSkip)
     (cExit 5)) <|
    cSeq (cBlock 7 (cSeq (cReg 1 (
      oMv (kc (.int .u8 2)) s013)) <|
     cSeq (cSeq (cReg 8 (
      oSeq (oMv g006 s053) <|
      oSeq (oMv g012 s054) <|
      oSeq (oP (vIdx 1 g053 g054) s055) <|
      oSeq (oLoad g055 s056) <|
      oSeq (oP (vIdx 2 g056 (kc (.int .i64 0))) s057) <|
      oSeq (oLoadN 2 g057 s060) <|
      oSeq (oCallF 59 (fun T => [g060 T]) s061) <|
      oP (vGtr g061 (kc (.int .i64 0))) s062)) <|
     cCond g062
      (cSeq (cReg 1 (
       oMv (kc (.int .u8 3)) s013)) <|
      cReg 1 (
       oMv (kc (.bool true)) s007))
      (cSkip)) <|
     cReg 10 (
      oSeq (oMv g010 s063) <|
      oSeq (oMv g013 s064) <|
      oSeq (oMv g006 s065) <|
      oSeq (oMv g012 s066) <|
      oSeq (oP (vIdx 1 g065 g066) s067) <|
      oSeq (oLoad g067 s070) <|
      oSeq (oP (vBuild [(.int .u8 0), .nilSl] [((0, 1), g064), ((1, 1), g070)]) s071) <|
      oSeq (oBuildSlice 66 2 [(.int .u8 0), .nilSl] 1 [((0, 2), g071)] 7 s072) <|
      oSeq (oGen (.append 2 32 66 [(.int .u8 0), .nilSl] (.t 51) (.t 58)) 8 s073) <|
      oMv g073 s010))) <|
    cReg 3 (
     oSeq (oMv g012 s051) <|
     oSeq (oP (vAdd g051 (kc (.int .i64 1))) s052) <|
     oMv g052 s012)))) <|
  cSeq (cSeq (cReg 2 (
   oSeq (oMv g007 s074) <|
   oGen (.un .not (.t 60)) 1 s075)) <|
  cCond g075
   (cSeq (cReg 1 (
    oMv (kc .nilSl) s004)) <|
   cExit 0)
   (cSkip)) <|
  cSeq (cReg 2 (
   oSeq (oMv g010 s076) <|
   oMv g076 s004)) <|
  cExit 0⟩
noncomputable def ffn57 : FFn := ⟨1, 25, [(2, none)],
  cSeq (cReg 1 (
   oMv (kc .nilSl) s002)) <|
  cSeq (cReg 1 (
   oMv (kc .nilSl) s003)) <|
  cSeq (cSeq (cReg 1 (
   oMv (kc (.int .i64 0)) s004)) <|
  cBlock 1 (cLoop 1000000 (cSeq (cSeq (cReg 4 (
     oSeq (oMv g004 s005) <|
     oSeq (oMv g000 s006) <|
     oSeq (oP (vLen g006) s007) <|
     oP (vLss g005 g007) s010)) <|
    cCond g010
     (cSkip)
     (cExit 1)) <|
    cSeq (cBlock 3 (cSeq (cReg 5 (
      oSeq (oMv g000 s013) <|
      oSeq (oMv g004 s014) <|
      oSeq (oP (vIdx 2 g013 g014) s015) <|
      oSeq (oP (vFA 1 g015) s016) <|
      oLoad g016 s017)) <|
     cCond g017
      (cReg 9 (
       oSeq (oMv g003 s020) <|
       oSeq (oMv g000 s021) <|
       oSeq (oMv g004 s022) <|
       oSeq (oP (vIdx 2 g021 g022) s023) <|
       oSeq (oP (vFA 0 g023) s024) <|
       oSeq (oLoad g024 s025) <|
       oSeq (oBuildSlice 36 1 [.nilSl] 1 [((0, 1), g025)] 6 s026) <|
       oSeq (oGen (.append 1 24 36 [.nilSl] (.t 16) (.t 22)) 7 s027) <|
       oMv g027 s003))
      (cSkip))) <|
    cReg 3 (
     oSeq (oMv g004 s011) <|
     oSeq (oP (vAdd g011 (kc (.int .i64 1))) s012) <|
     oMv g012 s004)))) <|
  cSeq (cReg 2 (
   oSeq (oMv g003 s030) <|
   oMv g030 s002)) <|
  cExit 0⟩
noncomputable def ffn58 : FFn := ⟨2, 31, [(4, none)],
  cSeq (cReg 1 (
   oMv (kc .nilSl) s004)) <|
  cSeq (cReg 4 (
   oSeq (oMv g000 s007) <|
   oSeq (oCallF 22 (fun T => [g007 T, (.int .i64 1)]) s010) <|
   oSeq (oBuildSlice 36 1 [.nilSl] 1 [((0, 1), g010)] 2 s011) <|
   oMv g011 s005)) <|
  cSeq (cSeq (cReg 1 (
   oMv (kc (.int .i64 0)) s006)) <|
  cBlock 1 (cLoop 1000000 (cSeq (cSeq (cReg 4 (
     oSeq (oMv g006 s012) <|
     oSeq (oMv g001 s013) <|
     oSeq (oP (vLen g013) s014) <|
     oP (vLss g012 g014) s015)) <|
    cCond g015
     (cSkip)
     (cExit 1)) <|
    cSeq (cBlock 3 (cSeq (cReg 6 (
      oSeq (oMv g001 s020) <|
      oSeq (oMv g006 s021) <|
      oSeq (oP (vIdx 2 g020 g021) s022) <|
      oSeq (oP (vFA 1 g022) s023) <|
      oSeq (oLoad g023 s024) <|
      oGen (.un .not (.t 20)) 5 s025)) <|
     cCond g025
      (cReg 9 (
       oSeq (oMv g005 s026) <|
       oSeq (oMv g001 s027) <|
       oSeq (oMv g006 s030) <|
       oSeq (oP (vIdx 2 g027 g030) s031) <|
       oSeq (oP (vFA 0 g031) s032) <|
       oSeq (oLoad g032 s033) <|
       oSeq (oBuildSlice 36 1 [.nilSl] 1 [((0, 1), g033)] 6 s034) <|
       oSeq (oGen (.append 1 24 36 [.nilSl] (.t 22) (.t 28)) 7 s035) <|
       oMv g035 s005))
      (cSkip))) <|
    cReg 3 (
     oSeq (oMv g006 s016) <|
     oSeq (oP (vAdd g016 (kc (.int .i64 1))) s017) <|
     oMv g017 s006)))) <|
  cSeq (cReg 2 (
   oSeq (oMv g005 s036) <|
   oMv g036 s004)) <|
  cExit 0⟩
noncomputable def ffn22 : FFn := ⟨2, 20, [(4, none)],
  cSeq (cReg 1 (
   oMv (kc .nilSl) s004)) <|
  cSeq (cReg 4 (
   oSeq (oMv g001 s007) <|
   oSeq (oCallF 38 (fun T => [g007 T]) s010) <|
   oSeq (oBuildSlice 40 2 [(.bool false), .nilSl] 1 [((0, 2), g010)] 2 s011) <|
   oMv g011 s005)) <|
  cSeq (cSeq (cReg 1 (
   oMv (kc (.int .i64 0)) s006)) <|
  cBlock 1 (cLoop 1000000 (cSeq (cSeq (cReg 3 (
     oSeq (oMv g006 s012) <|
     oSeq (oMv g000 s013) <|
     oP (vLss g012 g013) s014)) <|
    cCond g014
     (cSkip)
     (cExit 1)) <|
    cSeq (cBlock 3 (cReg 5 (
      oSeq (oMv g005 s017) <|
      oSeq (oP (vBuild [(.bool false), .nilSl] []) s020) <|
      oSeq (oBuildSlice 40 2 [(.bool false), .nilSl] 1 [((0, 2), g020)] 2 s021) <|
      oSeq (oGen (.append 2 32 40 [(.bool false), .nilSl] (.t 15) (.t 17)) 3 s022) <|
      oMv g022 s005))) <|
    cReg 3 (
     oSeq (oMv g006 s015) <|
     oSeq (oP (vAdd g015 (kc (.int .i64 1))) s016) <|
     oMv g016 s006)))) <|
  cSeq (cReg 2 (
   oSeq (oMv g005 s023) <|
   oMv g023 s004)) <|
  cExit 0⟩
noncomputable def ffn38 : FFn := ⟨1, 15, [(2, (some (some 2)))],
  cSeq (cReg 1 (
   oAlloc 40 [(.bool false), .nilSl] 0 s002)) <|
  cSeq (cReg 3 (
   oSeq (oMv g000 s004) <|
   oSeq (oGen (.conv .u64 (.t 4)) 1 s005) <|
   oMv g005 s003)) <|
  cSeq (cSeq (cReg 2 (
   oSeq (oMv g000 s006) <|
   oP (vLss g006 (kc (.int .i64 0))) s007)) <|
  cCond g007
   (cSeq (cReg 5 (
    oSeq (oMv g003 s010) <|
    oSeq (oP (vSub (kc (.int .u64 0)) g010) s011) <|
    oSeq (oCallF 61 (fun T => [g011 T]) s012) <|
    oSeq (oP (vBuild [(.bool false), .nilSl] [((0, 1), (kc (.bool true))), ((1, 1), g012)]) s013) <|
    oStoreN 2 g002 g013 noPut)) <|
   cExit 0)
   (cSkip)) <|
  cSeq (cReg 4 (
   oSeq (oMv g003 s014) <|
   oSeq (oCallF 61 (fun T => [g014 T]) s015) <|
   oSeq (oP (vBuild [(.bool false), .nilSl] [((1, 1), g015)]) s016) <|
   oStoreN 2 g002 g016 noPut)) <|
  cExit 0⟩
noncomputable def ffn61 : FFn := ⟨1, 7, [(2, none)],
  cSeq (cReg 1 (
   oMv (kc .nilSl) s002)) <|
  cSeq (cSeq (cReg 2 (
   oSeq (oMv g000 s003) <|
   oP (vEql g003 (kc (.int .u64 0))) s004)) <|
  cCond g004
   (cSeq (cReg 1 (
    oMv (kc .nilSl) s002)) <|
   cExit 0)
   (cSkip)) <|
  cSeq (cReg 3 (
   oSeq (oMv g000 s005) <|
   oSeq (oBuildSlice 52 1 [(.int .u64 0)] 1 [((0, 1), g005)] 1 s006) <|
   oMv g006 s002)) <|
  cExit 0⟩
noncomputable def ffn56 : FFn := ⟨3, 19, [(6, none), (7, none)],
  cSeq (cReg 2 (
   oSeq (oMv (kc .nilSl) s006) <|
   oMv (kc .nilSl) s007)) <|
  cSeq (cReg 5 (
   oSeq (oMv g000 s011) <|
   oSeq (oMv g001 s012) <|
   oSeq (oMv g002 s013) <|
   oSeq (oCallF 83 (fun T => [g011 T, g012 T, g013 T]) s014) <|
   oMv g014 s010)) <|
  cSeq (cReg 8 (
   oSeq (oMv g010 s015) <|
   oSeq (oMv g000 s016) <|
   oSeq (oMv g001 s017) <|
   oSeq (oMv g002 s020) <|
   oSeq (oMv g010 s021) <|
   oSeq (oCallF 84 (fun T => [g016 T, g017 T, g020 T, g021 T]) s022) <|
   oSeq (oMv g015 s006) <|
   oMv g022 s007)) <|
  cExit 0⟩
noncomputable def ffn83 : FFn := ⟨3, 12, [(6, none)],
  cSeq (cReg 1 (
   oMv (kc .nilSl) s006)) <|
  cSeq (cReg 6 (
   oSeq (oMv g000 s007) <|
   oSeq (oMv g001 s010) <|
   oSeq (oMv g002 s011) <|
   oSeq (oCallF 114 (fun T => [g010 T, g011 T]) s012) <|
   oSeq (oCallF 113 (fun T => [g007 T, g012 T]) s013) <|
   oMv g013 s006)) <|
  cExit 0⟩
noncomputable def ffn114 : FFn := ⟨2, 12, [(4, none)],
  cSeq (cReg 1 (
   oMv (kc .nilSl) s004)) <|
  cSeq (cReg 1 (
   oMv (kc .nilSl) s005)) <|
  cSeq (cReg 4 (
   oSeq (oMv g005 s006) <|
   oSeq (oMv g000 s007) <|
   oSeq (oGen (.append 1 24 36 [.nilSl] (.t 6) (.t 7)) 2 s010) <|
   oMv g010 s005)) <|
  cSeq (cReg 4 (
   oSeq (oMv g005 s011) <|
   oSeq (oMv g001 s012) <|
   oSeq (oGen (.append 1 24 36 [.nilSl] (.t 9) (.t 10)) 2 s013) <|
   oMv g013 s004)) <|
  cExit 0⟩
noncomputable def ffn113 : FFn := ⟨2, 68, [(4, none)],
  cSeq (cReg 1 (
   oMv (kc .nilSl) s004)) <|
  cSeq (cReg 7 (
   oSeq (oMv g001 s016) <|
   oSeq (oCallF 141 (fun T => [g016 T]) s017) <|
   oSeq (oMv g017 s015) <|
   oSeq (oP (vExt 0 g015) s020) <|
   oSeq (oP (vExt 1 g015) s021) <|
   oSeq (oMv g020 s005) <|
   oMv g021 s006)) <|
  cSeq (cReg 1 (
   oMv (kc .nilSl) s007)) <|
  cSeq (cSeq (cReg 1 (
   oMv (kc (.int .i64 0)) s010)) <|
  cBlock 1 (cLoop 1000000 (cSeq (cSeq (cReg 3 (
     oSeq (oMv g010 s022) <|
     oSeq (oMv g000 s023) <|
     oP (vLss g022 g023) s024)) <|
    cCond g024
     (cSkip)
     (cExit 1)) <|
    cSeq (cBlock 3 (cSeq (cSeq (cReg 3 (
      oSeq (oMv g006 s027) <|
      oSeq (oMv g010 s030) <|
      oCallF 142 (fun T => [g027 T, g030 T]) s031)) <|
     cCond g031
      (cExit 3)
      (cSkip)) <|
     cSeq (cReg 1 (
      oMv (kc .nilSl) s011)) <|
     cSeq (cSeq (cReg 1 (
      oMv (kc (.int .i64 0)) s012)) <|
     cBlock 5 (cLoop 1000000 (cSeq (cSeq (cReg 3 (
        oSeq (oMv g012 s032) <|
        oSeq (oMv g000 s033) <|
        oP (vLss g032 g033) s034)) <|
       cCond g034
        (cSkip)
        (cExit 5)) <|
       cSeq (cBlock 7 (cSeq (cReg 1 (
         oMv (kc (.int .i64 0)) s013)) <|
        cSeq (cSeq (cReg 3 (
         oSeq (oMv g012 s037) <|
         oSeq (oMv g010 s040) <|
         oP (vEql g037 g040) s041)) <|
        cCond g041
         (cReg 1 (
          oMv (kc (.int .i64 1)) s013))
         (cSkip)) <|
        cReg 8 (
         oSeq (oMv g011 s042) <|
         oSeq (oMv g013 s043) <|
         oSeq (oCallF 38 (fun T => [g043 T]) s044) <|
         oSeq (oBuildSlice 52 1 [(.int .u64 0)] 1 [((0, 1), (kc (.int .u64 1)))] 3 s045) <|
         oSeq (oCallF 143 (fun T => [g044 T, g045 T]) s046) <|
         oSeq (oBuildSlice 183 3 [(.bool false), .nilSl, .nilSl] 1 [((0, 3), g046)] 5 s047) <|
         oSeq (oGen (.append 3 56 183 [(.bool false), .nilSl, .nilSl] (.t 34) (.t 39)) 6 s050) <|
         oMv g050 s011))) <|
       cReg 3 (
        oSeq (oMv g012 s035) <|
        oSeq (oP (vAdd g035 (kc (.int .i64 1))) s036) <|
        oMv g036 s012)))) <|
     cSeq (cSeq (cReg 1 (
      oMv (kc (.int .i64 0)) s014)) <|
     cBlock 9 (cLoop 1000000 (cSeq (cSeq (cReg 4 (
        oSeq (oMv g014 s051) <|
        oSeq (oMv g005 s052) <|
        oSeq (oP (vLen g052) s053) <|
        oP (vLss g051 g053) s054)) <|
       cCond g054
        (cSkip)
        (cExit 9)) <|
       cSeq (cBlock 11 (cDrw 15 (
         dSeq (dLook 0 [] (oMv g011 s057)) <|
         dSeq (dLook 0 [] (oMv g006 s060)) <|
         dSeq (dLook 0 [] (oMv g014 s061)) <|
         dSeq (dLook 0 [] (oP (vIdx 1 g060 g061) s062)) <|
         dSeq (dLook 0 [] (oLoad g062 s063)) <|
         dSeq (dLook 0 [] (oMv g005 s064)) <|
         dSeq (dLook 0 [] (oMv g014 s065)) <|
         dSeq (dLook 0 [] (oP (vIdx 1 g064 g065) s066)) <|
         dSeq (dLook 0 [] (oLoad g066 s067)) <|
         dSeq (dLook 0 [] (oMv g010 s070)) <|
         dSeq (dLook 0 [] (oP (vIdx 3 g067 g070) s071)) <|
         dSeq (dLook 0 [] (oLoadN 3 g071 s072)) <|
         dSeq (dAct 0 [] (oCallF 144 (fun T => [g072 T]) s073)) <|
         dSeq (dLook 0 [] (oP (vIdx 3 g057 g063) s074)) <|
         dSeq (dAct 0 [] (oStoreN 3 g074 g073 noPut)) <|
         dNop)
         (ckSeq (ckOne g063 1 [] (oLoad g062 s063)) <|
        ckNop) [])) <|
       cReg 3 (
        oSeq (oMv g014 s055) <|
        oSeq (oP (vAdd g055 (kc (.int .i64 1))) s056) <|
        oMv g056 s014)))) <|
     cReg 6 (
      oSeq (oMv g007 s075) <|
      oSeq (oMv g011 s076) <|
      oSeq (oCallF 145 (fun T => [g076 T]) s077) <|
      oSeq (oBuildSlice 36 1 [.nilSl] 1 [((0, 1), g077)] 3 s100) <|
      oSeq (oGen (.append 1 24 36 [.nilSl] (.t 61) (.t 64)) 4 s101) <|
      oMv g101 s007))) <|
    cReg 3 (
     oSeq (oMv g010 s025) <|
     oSeq (oP (vAdd g025 (kc (.int .i64 1))) s026) <|
     oMv g026 s010)))) <|
  cSeq (cReg 3 (
   oSeq (oMv g007 s102) <|
   oSeq (oCallF 115 (fun T => [g102 T]) s103) <|
   oMv g103 s004)) <|
  cExit 0⟩
noncomputable def ffn141 : FFn := ⟨1, 145, [(2, none), (3, none)],
  cSeq (cReg 2 (
   oSeq (oMv (kc .nilSl) s002) <|
   oMv (kc .nilSl) s003)) <|
  cSeq (cReg 1 (
   oMv (kc .nilSl) s004)) <|
  cSeq (cSeq (cReg 1 (
   oMv (kc (.int .i64 0)) s005)) <|
  cBlock 1 (cLoop 1000000 (cSeq (cSeq (cReg 4 (
     oSeq (oMv g005 s022) <|
     oSeq (oMv g000 s023) <|
     oSeq (oP (vLen g023) s024) <|
     oP (vLss g022 g024) s025)) <|
    cCond g025
     (cSkip)
     (cExit 1)) <|
    cSeq (cBlock 3 (cReg 9 (
      oSeq (oMv g004 s030) <|
      oSeq (oMv g000 s031) <|
      oSeq (oMv g005 s032) <|
      oSeq (oP (vIdx 1 g031 g032) s033) <|
      oSeq (oLoad g033 s034) <|
      oSeq (oCallF 163 (fun T => [g034 T]) s035) <|
      oSeq (oBuildSlice 181 1 [.nilSl] 1 [((0, 1), g035)] 6 s036) <|
      oSeq (oGen (.append 1 24 181 [.nilSl] (.t 24) (.t 30)) 7 s037) <|
      oMv g037 s004))) <|
    cReg 3 (
     oSeq (oMv g005 s026) <|
     oSeq (oP (vAdd g026 (kc (.int .i64 1))) s027) <|
     oMv g027 s005)))) <|
  cSeq (cReg 1 (
   oMv (kc .nilSl) s006)) <|
  cSeq (cReg 1 (
   oMv (kc .nilSl) s007)) <|
  cSeq (cSeq (cReg 3 (
   oSeq (oMv g000 s040) <|
   oSeq (oP (vLen g040) s041) <|
   oP (vEql g041 (kc (.int .i64 0))) s042)) <|
  cCond g042
   (cSeq (cReg 2 (
    oSeq (oMv (kc .nilSl) s002) <|
    oMv (kc .nilSl) s003)) <|
   cExit 0)
   (cSkip)) <|
  cSeq (cSeq (cReg 1 (
   oMv (kc (.int .i64 0)) s010)) <|
  cBlock 5 (cLoop 1000000 (cSeq (cSeq (cReg 6 (
     oSeq (oMv g010 s043) <|
     oSeq (oMv g000 s044) <|
     oSeq (oP (vIdx 1 g044 (kc (.int .i64 0))) s045) <|
     oSeq (oLoad g045 s046) <|
     oSeq (oP (vLen g046) s047) <|
     oP (vLss g043 g047) s050)) <|
    cCond g050
     (cSkip)
     (cExit 5)) <|
    cSeq (cBlock 7 (cSeq (cReg 7 (
      oSeq (oMv g010 s053) <|
      oSeq (oMv g000 s054) <|
      oSeq (oP (vIdx 1 g054 (kc (.int .i64 0))) s055) <|
      oSeq (oLoad g055 s056) <|
      oSeq (oP (vLen g056) s057) <|
      oSeq (oCallF 164 (fun T => [g053 T, g057 T]) s060) <|
      oMv g060 s011)) <|
     cSeq (cReg 1 (
      oMv (kc (.int .i64 0)) s012)) <|
     cSeq (cBlock 9 (cLoop 1000000 (cSeq (cSeq (cReg 14 (
        oSeq (oMv g012 s061) <|
        oSeq (oMv g004 s062) <|
        oSeq (oP (vLen g062) s063) <|
        oSeq (oP (vLss g061 g063) s064) <|
        oSeq (oMv g064 s065) <|
        oSeq (oGuard g065 true s066 (oMv g004 s066)) <|
        oSeq (oGuard g065 true s067 (oMv g012 s067)) <|
        oSeq (oGuard g065 true s070 (oP (vIdx 1 g066 g067) s070)) <|
        oSeq (oGuard g065 true s071 (oLoad g070 s071)) <|
        oSeq (oGuard g065 true s072 (oMv g011 s072)) <|
        oSeq (oGuard g065 true s073 (oP (vIdx 3 g071 g072) s073)) <|
        oSeq (oGuard g065 true s074 (oLoadN 3 g073 s074)) <|
        oSeq (oGuard g065 true s075 (oCallF 165 (fun T => [g074 T]) s075)) <|
        oP (vPick g065 g075 (kc (.bool false))) s076)) <|
       cCond g076
        (cSkip)
        (cExit 9)) <|
       cBlock 11 (cReg 3 (
         oSeq (oMv g012 s077) <|
         oSeq (oP (vAdd g077 (kc (.int .i64 1))) s100) <|
         oMv g100 s012))))) <|
     cSeq (cSeq (cReg 4 (
      oSeq (oMv g012 s101) <|
      oSeq (oMv g004 s102) <|
      oSeq (oP (vLen g102) s103) <|
      oP (vEql g101 g103) s104)) <|
     cCond g104
      (cExit 7)
      (cSkip)) <|
     cSeq (cReg 1 (
      oMv (kc .nilSl) s013)) <|
     cSeq (cSeq (cReg 1 (
      oMv (kc (.int .i64 0)) s014)) <|
     cBlock 13 (cLoop 1000000 (cSeq (cSeq (cReg 6 (
        oSeq (oMv g014 s105) <|
        oSeq (oMv g000 s106) <|
        oSeq (oP (vIdx 1 g106 (kc (.int .i64 0))) s107) <|
        oSeq (oLoad g107 s110) <|
        oSeq (oP (vLen g110) s111) <|
        oP (vLss g105 g111) s112)) <|
       cCond g112
        (cSkip)
        (cExit 13)) <|
       cSeq (cBlock 15 (cSeq (cDrw 21 (
         dSeq (dLook 0 [] (oMv g004 s116)) <|
         dSeq (dLook 0 [] (oMv g012 s117)) <|
         dSeq (dLook 0 [] (oP (vIdx 1 g116 g117) s120)) <|
         dSeq (dLook 0 [] (oLoad g120 s121)) <|
         dSeq (dLook 0 [] (oMv g014 s122)) <|
         dSeq (dLook 0 [] (oP (vIdx 3 g121 g122) s123)) <|
         dSeq (dLook 0 [] (oLoadN 3 g123 s124)) <|
         dSeq (dLook 0 [] (oMv g004 s125)) <|
         dSeq (dLook 0 [] (oMv g012 s126)) <|
         dSeq (dLook 0 [] (oP (vIdx 1 g125 g126) s127)) <|
         dSeq (dLook 0 [] (oLoad g127 s130)) <|
         dSeq (dLook 0 [] (oMv g011 s131)) <|
         dSeq (dLook 0 [] (oP (vIdx 3 g130 g131) s132)) <|
         dSeq (dLook 0 [] (oLoadN 3 g132 s133)) <|
         dSeq (dAct 0 [] (oCallF 166 (fun T => [g124 T, g133 T]) s134)) <|
         dSeq (dLook 0 [] (oMv g134 s115)) <|
         dSeq (dLook 0 [] (oP (vExt 0 g115) s135)) <|
         dSeq (dLook 0 [] (oP (vExt 1 g115) s136)) <|
         dSeq (dMake 18 (oAlloc 183 [(.bool false), .nilSl, .nilSl] 18 s015)) <|
         dSeq (dAct 0 [(18, 0)] (oStoreN 3 g015 g135 noPut)) <|
         dSeq (dLook 0 [] (oMv g136 s016)) <|
         dNop)
         (ckNop) []) <|
        cReg 5 (
         oSeq (oMv g013 s137) <|
         oSeq (oLoadN 3 g015 s140) <|
         oSeq (oBuildSlice 183 3 [(.bool false), .nilSl, .nilSl] 1 [((0, 3), g140)] 2 s141) <|
         oSeq (oGen (.append 3 56 183 [(.bool false), .nilSl, .nilSl] (.t 95) (.t 97)) 3 s142) <|
         oMv g142 s013))) <|
       cReg 3 (
        oSeq (oMv g014 s113) <|
        oSeq (oP (vAdd g113 (kc (.int .i64 1))) s114) <|
        oMv g114 s014)))) <|
     cSeq (cReg 1 (
      oMv (kc .nilSl) s017)) <|
     cSeq (cSeq (cReg 1 (
      oMv (kc (.int .i64 0)) s020)) <|
     cBlock 17 (cLoop 1000000 (cSeq (cSeq (cReg 4 (
        oSeq (oMv g020 s143) <|
        oSeq (oMv g004 s144) <|
        oSeq (oP (vLen g144) s145) <|
        oP (vLss g143 g145) s146)) <|
       cCond g146
        (cSkip)
        (cExit 17)) <|
       cSeq (cBlock 19 (cSeq (cReg 3 (
         oSeq (oMv g020 s151) <|
         oSeq (oMv g012 s152) <|
         oP (vNeq g151 g152) s153)) <|
        cCond g153
         (cReg 11 (
          oSeq (oMv g017 s154) <|
          oSeq (oMv g004 s155) <|
          oSeq (oMv g020 s156) <|
          oSeq (oP (vIdx 1 g155 g156) s157) <|
          oSeq (oLoad g157 s160) <|
          oSeq (oMv g013 s161) <|
          oSeq (oMv g011 s162) <|
          oSeq (oCallF 167 (fun T => [g160 T, g161 T, g162 T]) s163) <|
          oSeq (oBuildSlice 181 1 [.nilSl] 1 [((0, 1), g163)] 8 s164) <|
          oSeq (oGen (.append 1 24 181 [.nilSl] (.t 108) (.t 116)) 9 s165) <|
          oMv g165 s017))
         (cSkip))) <|
       cReg 3 (
        oSeq (oMv g020 s147) <|
        oSeq (oP (vAdd g147 (kc (.int .i64 1))) s150) <|
        oMv g150 s020)))) <|
     cSeq (cReg 2 (
      oSeq (oMv g017 s166) <|
      oMv g166 s004)) <|
     cSeq (cSeq (cReg 1 (
      oMv (kc (.int .i64 0)) s021)) <|
     cBlock 21 (cLoop 1000000 (cSeq (cSeq (cReg 4 (
        oSeq (oMv g021 s167) <|
        oSeq (oMv g006 s170) <|
        oSeq (oP (vLen g170) s171) <|
        oP (vLss g167 g171) s172)) <|
       cCond g172
        (cSkip)
        (cExit 21)) <|
       cSeq (cBlock 23 (cReg 11 (
         oSeq (oMv g006 s175) <|
         oSeq (oMv g021 s176) <|
         oSeq (oMv g006 s177) <|
         oSeq (oMv g021 s200) <|
         oSeq (oP (vIdx 1 g177 g200) s201) <|
         oSeq (oLoad g201 s202) <|
         oSeq (oMv g013 s203) <|
         oSeq (oMv g011 s204) <|
         oSeq (oCallF 167 (fun T => [g202 T, g203 T, g204 T]) s205) <|
         oSeq (oP (vIdx 1 g175 g176) s206) <|
         oStore g206 g205 noPut))) <|
       cReg 3 (
        oSeq (oMv g021 s173) <|
        oSeq (oP (vAdd g173 (kc (.int .i64 1))) s174) <|
        oMv g174 s021)))) <|
     cSeq (cReg 5 (
      oSeq (oMv g006 s207) <|
      oSeq (oMv g013 s210) <|
      oSeq (oBuildSlice 181 1 [.nilSl] 1 [((0, 1), g210)] 2 s211) <|
      oSeq (oGen (.append 1 24 181 [.nilSl] (.t 135) (.t 137)) 3 s212) <|
      oMv g212 s006)) <|
     cReg 5 (
      oSeq (oMv g007 s213) <|
      oSeq (oMv g011 s214) <|
      oSeq (oBuildSlice 3 1 [(.int .i64 0)] 1 [((0, 1), g214)] 2 s215) <|
      oSeq (oGen (.append 1 8 3 [(.int .i64 0)] (.t 139) (.t 141)) 3 s216) <|
      oMv g216 s007))) <|
    cReg 3 (
     oSeq (oMv g010 s051) <|
     oSeq (oP (vAdd g051 (kc (.int .i64 1))) s052) <|
     oMv g052 s010)))) <|
  cSeq (cReg 4 (
   oSeq (oMv g006 s217) <|
   oSeq (oMv g007 s220) <|
   oSeq (oMv g217 s002) <|
   oMv g220 s003)) <|
  cExit 0⟩
noncomputable def ffn163 : FFn := ⟨1, 21, [(2, none)],
  cSeq (cReg 1 (
   oMv (kc .nilSl) s002)) <|
  cSeq (cReg 1 (
   oMv (kc .nilSl) s003)) <|
  cSeq (cSeq (cReg 1 (
   oMv (kc (.int .i64 0)) s004)) <|
  cBlock 1 (cLoop 1000000 (cSeq (cSeq (cReg 4 (
     oSeq (oMv g004 s005) <|
     oSeq (oMv g000 s006) <|
     oSeq (oP (vLen g006) s007) <|
     oP (vLss g005 g007) s010)) <|
    cCond g010
     (cSkip)
     (cExit 1)) <|
    cSeq (cBlock 3 (cReg 10 (
      oSeq (oMv g003 s013) <|
      oSeq (oMv g000 s014) <|
      oSeq (oMv g004 s015) <|
      oSeq (oP (vIdx 2 g014 g015) s016) <|
      oSeq (oLoadN 2 g016 s017) <|
      oSeq (oBuildSlice 52 1 [(.int .u64 0)] 1 [((0, 1), (kc (.int .u64 1)))] 5 s020) <|
      oSeq (oCallF 143 (fun T => [g017 T, g020 T]) s021) <|
      oSeq (oBuildSlice 183 3 [(.bool false), .nilSl, .nilSl] 1 [((0, 3), g021)] 7 s022) <|
      oSeq (oGen (.append 3 56 183 [(.bool false), .nilSl, .nilSl] (.t 11) (.t 18)) 8 s023) <|
      oMv g023 s003))) <|
    cReg 3 (
     oSeq (oMv g004 s011) <|
     oSeq (oP (vAdd g011 (kc (.int .i64 1))) s012) <|
     oMv g012 s004)))) <|
  cSeq (cReg 2 (
   oSeq (oMv g003 s024) <|
   oMv g024 s002)) <|
  cExit 0⟩
noncomputable def ffn143 : FFn := ⟨2, 33, [(4, (some (some 3)))],
  cSeq (cReg 2 (
   oSeq (oBox 40 g000 0 s002) <|
   oAlloc 183 [(.bool false), .nilSl, .nilSl] 1 s004)) <|
  cSeq (cReg 5 (
   oSeq (oP (vFA 1 g002) s012) <|
   oSeq (oLoad g012 s013) <|
   oSeq (oMv g001 s014) <|
   oSeq (oCallF 168 (fun T => [g013 T, g014 T]) s015) <|
   oMv g015 s005)) <|
  cSeq (cReg 9 (
   oSeq (oP (vFA 1 g002) s017) <|
   oSeq (oLoad g017 s020) <|
   oSeq (oMv g005 s021) <|
   oSeq (oCallF 169 (fun T => [g020 T, g021 T]) s022) <|
   oSeq (oMv g022 s016) <|
   oSeq (oP (vExt 0 g016) s023) <|
   oSeq (oP (vExt 1 g016) s024) <|
   oSeq (oMv g023 s006) <|
   oMv g024 s007)) <|
  cSeq (cReg 8 (
   oSeq (oMv g001 s026) <|
   oSeq (oMv g005 s027) <|
   oSeq (oCallF 169 (fun T => [g026 T, g027 T]) s030) <|
   oSeq (oMv g030 s025) <|
   oSeq (oP (vExt 0 g025) s031) <|
   oSeq (oP (vExt 1 g025) s032) <|
   oSeq (oMv g031 s010) <|
   oMv g032 s011)) <|
  cSeq (cReg 7 (
   oSeq (oP (vFA 0 g002) s033) <|
   oSeq (oLoad g033 s034) <|
   oSeq (oMv g006 s035) <|
   oSeq (oP (vBuild [(.bool false), .nilSl] [((0, 1), g034), ((1, 1), g035)]) s036) <|
   oSeq (oMv g010 s037) <|
   oSeq (oP (vBuild [(.bool false), .nilSl, .nilSl] [((0, 2), g036), ((2, 1), g037)]) s040) <|
   oStoreN 3 g004 g040 noPut)) <|
  cExit 0⟩
noncomputable def ffn168 : FFn := ⟨2, 73, [(4, none)],
  cSeq (cReg 1 (
   oMv (kc .nilSl) s004)) <|
  cSeq (cSeq (cReg 3 (
   oSeq (oMv g000 s006) <|
   oSeq (oP (vLen g006) s007) <|
   oP (vEql g007 (kc (.int .i64 0))) s010)) <|
  cCond g010
   (cSeq (cReg 3 (
    oSeq (oMv g001 s011) <|
    oSeq (oCallF 174 (fun T => [g011 T, .nilSl]) s012) <|
    oMv g012 s004)) <|
   cExit 0)
   (cSkip)) <|
  cSeq (cSeq (cReg 3 (
   oSeq (oMv g001 s013) <|
   oSeq (oP (vLen g013) s014) <|
   oP (vEql g014 (kc (.int .i64 0))) s015)) <|
  cCond g015
   (cSeq (cReg 3 (
    oSeq (oMv g000 s016) <|
    oSeq (oCallF 174 (fun T => [g016 T, .nilSl]) s017) <|
    oMv g017 s004)) <|
   cExit 0)
   (cSkip)) <|
  cSeq (cSeq (cReg 8 (
   oSeq (oMv g000 s020) <|
   oSeq (oP (vLen g020) s021) <|
   oSeq (oP (vEql g021 (kc (.int .i64 1))) s022) <|
   oSeq (oMv g022 s023) <|
   oSeq (oGuard g023 true s024 (oMv g001 s024)) <|
   oSeq (oGuard g023 true s025 (oP (vLen g024) s025)) <|
   oSeq (oGuard g023 true s026 (oP (vEql g025 (kc (.int .i64 1))) s026)) <|
   oP (vPick g023 g026 (kc (.bool false))) s027)) <|
  cCond g027
   (cSeq (cDrw 9 (
    dSeq (dLook 0 [] (oMv g000 s030)) <|
    dSeq (dLook 0 [] (oP (vIdx 1 g030 (kc (.int .i64 0))) s031)) <|
    dSeq (dLook 0 [] (oLoad g031 s032)) <|
    dSeq (dLook 0 [] (oMv g001 s033)) <|
    dSeq (dLook 0 [] (oP (vIdx 1 g033 (kc (.int .i64 0))) s034)) <|
    dSeq (dLook 0 [] (oLoad g034 s035)) <|
    dSeq (dAct 0 [] (oCallF 189 (fun T => [g032 T, g035 T]) s036)) <|
    dSeq (dAct 0 [] (oCallF 61 (fun T => [g036 T]) s037)) <|
    dSeq (dLook 0 [] (oMv g037 s004)) <|
    dNop)
    (ckNop) []) <|
   cExit 0)
   (cSkip)) <|
  cSeq (cReg 1 (
   oMv (kc (.int .i64 0)) s005)) <|
  cSeq (cBlock 1 (cLoop 1000000 (cSeq (cSeq (cReg 8 (
     oSeq (oMv g000 s040) <|
     oSeq (oCallF 190 (fun T => [g040 T, (.int .i64 0)]) s041) <|
     oSeq (oP (vEql g041 (kc (.int .i64 0))) s042) <|
     oSeq (oMv g042 s043) <|
     oSeq (oGuard g043 true s044 (oMv g001 s044)) <|
     oSeq (oGuard g043 true s045 (oCallF 190 (fun T => [g044 T, (.int .i64 0)]) s045)) <|
     oSeq (oGuard g043 true s046 (oP (vEql g045 (kc (.int .i64 0))) s046)) <|
     oP (vPick g043 g046 (kc (.bool false))) s047)) <|
    cCond g047
     (cSkip)
     (cExit 1)) <|
    cBlock 3 (cSeq (cReg 3 (
      oSeq (oMv g000 s050) <|
      oSeq (oCallF 191 (fun T => [g050 T]) s051) <|
      oMv g051 s000)) <|
     cSeq (cReg 3 (
      oSeq (oMv g001 s052) <|
      oSeq (oCallF 191 (fun T => [g052 T]) s053) <|
      oMv g053 s001)) <|
     cReg 3 (
      oSeq (oMv g005 s054) <|
      oSeq (oP (vAdd g054 (kc (.int .i64 1))) s055) <|
      oMv g055 s005))))) <|
  cSeq (cBlock 5 (cLoop 1000000 (cSeq (cSeq (cReg 4 (
     oSeq (oMv g000 s056) <|
     oSeq (oMv g001 s057) <|
     oSeq (oCallF 175 (fun T => [g056 T, g057 T]) s060) <|
     oP (vNeq g060 (kc (.int .i64 0))) s061)) <|
    cCond g061
     (cSkip)
     (cExit 5)) <|
    cBlock 7 (cSeq (cReg 3 (
      oSeq (oMv g000 s062) <|
      oSeq (oCallF 190 (fun T => [g062 T, (.int .i64 0)]) s063) <|
      oP (vEql g063 (kc (.int .i64 0))) s064)) <|
     cCond g064
      (cReg 3 (
       oSeq (oMv g000 s065) <|
       oSeq (oCallF 191 (fun T => [g065 T]) s066) <|
       oMv g066 s000))
      (cSeq (cReg 3 (
       oSeq (oMv g001 s067) <|
       oSeq (oCallF 190 (fun T => [g067 T, (.int .i64 0)]) s070) <|
       oP (vEql g070 (kc (.int .i64 0))) s071)) <|
      cCond g071
       (cReg 3 (
        oSeq (oMv g001 s072) <|
        oSeq (oCallF 191 (fun T => [g072 T]) s073) <|
        oMv g073 s001))
       (cSeq (cReg 4 (
        oSeq (oMv g000 s074) <|
        oSeq (oMv g001 s075) <|
        oSeq (oCallF 175 (fun T => [g074 T, g075 T]) s076) <|
        oP (vGtr g076 (kc (.int .i64 0))) s077)) <|
       cCond g077
        (cReg 4 (
         oSeq (oMv g000 s100) <|
         oSeq (oMv g001 s101) <|
         oSeq (oCallF 176 (fun T => [g100 T, g101 T]) s102) <|
         oMv g102 s000))
        (cReg 4 (
         oSeq (oMv g001 s103) <|
         oSeq (oMv g000 s104) <|
         oSeq (oCallF 176 (fun T => [g103 T, g104 T]) s105) <|
         oMv g105 s001)))))))) <|
  cSeq (cReg 4 (
   oSeq (oMv g000 s106) <|
   oSeq (oMv g005 s107) <|
   oSeq (oCallF 192 (fun T => [g106 T, g107 T]) s110) <|
   oMv g110 s004)) <|
  cExit 0⟩
noncomputable def ffn174 : FFn := ⟨2, 53, [(4, none)],
  cSeq (cReg 1 (
   oMv (kc .nilSl) s004)) <|
  cSeq (cSeq (cReg 13 (
   oSeq (oMv g000 s011) <|
   oSeq (oMv g001 s012) <|
   oSeq (oCallF 198 (fun T => [g011 T, g012 T]) s013) <|
   oSeq (oMv g013 s014) <|
   oSeq (oGuard g014 true s015 (oMv g000 s015)) <|
   oSeq (oGuard g014 true s016 (oCallF 199 (fun T => [g015 T]) s016)) <|
   oSeq (oGuard g014 true s017 (oP (vLss g016 (kc (.int .u64 9223372036854775808))) s017)) <|
   oSeq (oP (vPick g014 g017 (kc (.bool false))) s020) <|
   oSeq (oMv g020 s021) <|
   oSeq (oGuard g021 true s022 (oMv g001 s022)) <|
   oSeq (oGuard g021 true s023 (oCallF 199 (fun T => [g022 T]) s023)) <|
   oSeq (oGuard g021 true s024 (oP (vLss g023 (kc (.int .u64 9223372036854775808))) s024)) <|
   oP (vPick g021 g024 (kc (.bool false))) s025)) <|
  cCond g025
   (cSeq (cReg 7 (
    oSeq (oMv g000 s026) <|
    oSeq (oCallF 199 (fun T => [g026 T]) s027) <|
    oSeq (oMv g001 s030) <|
    oSeq (oCallF 199 (fun T => [g030 T]) s031) <|
    oSeq (oP (vAdd g027 g031) s032) <|
    oSeq (oCallF 61 (fun T => [g032 T]) s033) <|
    oMv g033 s004)) <|
   cExit 0)
   (cSkip)) <|
  cSeq (cReg 1 (
   oMv (kc .nilSl) s005)) <|
  cSeq (cReg 1 (
   oMv (kc (.int .i64 0)) s006)) <|
  cSeq (cSeq (cReg 1 (
   oMv (kc (.int .i64 0)) s007)) <|
  cBlock 1 (cLoop 1000000 (cSeq (cSeq (cReg 5 (
     oSeq (oMv g007 s034) <|
     oSeq (oMv g000 s035) <|
     oSeq (oMv g001 s036) <|
     oSeq (oCallF 200 (fun T => [g035 T, g036 T]) s037) <|
     oP (vLeq g034 g037) s040)) <|
    cCond g040
     (cSkip)
     (cExit 1)) <|
    cSeq (cBlock 3 (cSeq (cReg 10 (
      oSeq (oMv g000 s043) <|
      oSeq (oMv g007 s044) <|
      oSeq (oCallF 190 (fun T => [g043 T, g044 T]) s045) <|
      oSeq (oMv g001 s046) <|
      oSeq (oMv g007 s047) <|
      oSeq (oCallF 190 (fun T => [g046 T, g047 T]) s050) <|
      oSeq (oP (vAdd g045 g050) s051) <|
      oSeq (oMv g006 s052) <|
      oSeq (oP (vAdd g051 g052) s053) <|
      oMv g053 s010)) <|
     cSeq (cReg 6 (
      oSeq (oMv g005 s054) <|
      oSeq (oMv g010 s055) <|
      oSeq (oGen (.bin .rem .int (.t 45) (.c (.int .i64 2))) 2 s056) <|
      oSeq (oBuildSlice 3 1 [(.int .i64 0)] 1 [((0, 1), g056)] 3 s057) <|
      oSeq (oGen (.append 1 8 3 [(.int .i64 0)] (.t 44) (.t 47)) 4 s060) <|
      oMv g060 s005)) <|
     cReg 3 (
      oSeq (oMv g010 s061) <|
      oSeq (oGen (.bin .quo .int (.t 49) (.c (.int .i64 2))) 1 s062) <|
      oMv g062 s006))) <|
    cReg 3 (
     oSeq (oMv g007 s041) <|
     oSeq (oP (vAdd g041 (kc (.int .i64 1))) s042) <|
     oMv g042 s007)))) <|
  cSeq (cReg 3 (
   oSeq (oMv g005 s063) <|
   oSeq (oCallF 193 (fun T => [g063 T]) s064) <|
   oMv g064 s004)) <|
  cExit 0⟩
noncomputable def ffn198 : FFn := ⟨2, 13, [(4, none)],
  cSeq (cReg 1 (
   oMv (kc (.bool false)) s004)) <|
  cSeq (cReg 9 (
   oSeq (oMv g000 s005) <|
   oSeq (oP (vLen g005) s006) <|
   oSeq (oP (vLeq g006 (kc (.int .i64 1))) s007) <|
   oSeq (oMv g007 s010) <|
   oSeq (oGuard g010 true s011 (oMv g001 s011)) <|
   oSeq (oGuard g010 true s012 (oP (vLen g011) s012)) <|
   oSeq (oGuard g010 true s013 (oP (vLeq g012 (kc (.int .i64 1))) s013)) <|
   oSeq (oP (vPick g010 g013 (kc (.bool false))) s014) <|
   oMv g014 s004)) <|
  cExit 0⟩
noncomputable def ffn199 : FFn := ⟨1, 9, [(2, none)],
  cSeq (cReg 1 (
   oMv (kc (.int .u64 0)) s002)) <|
  cSeq (cSeq (cReg 3 (
   oSeq (oMv g000 s003) <|
   oSeq (oP (vLen g003) s004) <|
   oP (vEql g004 (kc (.int .i64 0))) s005)) <|
  cCond g005
   (cSeq (cReg 1 (
    oMv (kc (.int .u64 0)) s002)) <|
   cExit 0)
   (cSkip)) <|
  cSeq (cReg 4 (
   oSeq (oMv g000 s006) <|
   oSeq (oP (vIdx 1 g006 (kc (.int .i64 0))) s007) <|
   oSeq (oLoad g007 s010) <|
   oMv g010 s002)) <|
  cExit 0⟩
noncomputable def ffn200 : FFn := ⟨2, 11, [(4, none)],
  cSeq (cReg 1 (
   oMv (kc (.int .i64 0)) s004)) <|
  cSeq (cReg 7 (
   oSeq (oMv g000 s005) <|
   oSeq (oP (vLen g005) s006) <|
   oSeq (oMv g001 s007) <|
   oSeq (oP (vLen g007) s010) <|
   oSeq (oGen (.max [(.t 6), (.t 8)]) 4 s011) <|
   oSeq (oP (vMul (kc (.int .i64 64)) g011) s012) <|
   oMv g012 s004)) <|
  cExit 0⟩
noncomputable def ffn190 : FFn := ⟨2, 20, [(4, none)],
  cSeq (cReg 1 (
   oMv (kc (.int .i64 0)) s004)) <|
  cSeq (cSeq (cReg 5 (
   oSeq (oMv g001 s005) <|
   oSeq (oGen (.bin .quo .int (.t 5) (.c (.int .i64 64))) 1 s006) <|
   oSeq (oMv g000 s007) <|
   oSeq (oP (vLen g007) s010) <|
   oP (vGeq g006 g010) s011)) <|
  cCond g011
   (cSeq (cReg 1 (
    oMv (kc (.int .i64 0)) s004)) <|
   cExit 0)
   (cSkip)) <|
  cSeq (cReg 11 (
   oSeq (oMv g000 s012) <|
   oSeq (oMv g001 s013) <|
   oSeq (oGen (.bin .quo .int (.t 11) (.c (.int .i64 64))) 2 s014) <|
   oSeq (oP (vIdx 1 g012 g014) s015) <|
   oSeq (oLoad g015 s016) <|
   oSeq (oMv g001 s017) <|
   oSeq (oGen (.bin .rem .int (.t 15) (.c (.int .i64 64))) 6 s020) <|
   oSeq (oGen (.bin .shr .int (.t 14) (.t 16)) 7 s021) <|
   oSeq (oGen (.bin .and .int (.t 17) (.c (.int .u64 1))) 8 s022) <|
   oSeq (oGen (.conv .i64 (.t 18)) 9 s023) <|
   oMv g023 s004)) <|
  cExit 0⟩
noncomputable def ffn193 : FFn := ⟨1, 47, [(2, none)],
  cSeq (cReg 1 (
   oMv (kc .nilSl) s002)) <|
  cSeq (cReg 3 (
   oSeq (oMv g000 s006) <|
   oSeq (oP (vLen g006) s007) <|
   oMv g007 s003)) <|
  cSeq (cBlock 1 (cLoop 1000000 (cSeq (cSeq (cReg 10 (
     oSeq (oMv g003 s010) <|
     oSeq (oP (vGtr g010 (kc (.int .i64 0))) s011) <|
     oSeq (oMv g011 s012) <|
     oSeq (oGuard g012 true s013 (oMv g000 s013)) <|
     oSeq (oGuard g012 true s014 (oMv g003 s014)) <|
     oSeq (oGuard g012 true s015 (oP (vSub g014 (kc (.int .i64 1))) s015)) <|
     oSeq (oGuard g012 true s016 (oP (vIdx 1 g013 g015) s016)) <|
     oSeq (oGuard g012 true s017 (oLoad g016 s017)) <|
     oSeq (oGuard g012 true s020 (oP (vEql g017 (kc (.int .i64 0))) s020)) <|
     oP (vPick g012 g020 (kc (.bool false))) s021)) <|
    cCond g021
     (cSkip)
     (cExit 1)) <|
    cBlock 3 (cReg 3 (
      oSeq (oMv g003 s022) <|
      oSeq (oP (vSub g022 (kc (.int .i64 1))) s023) <|
      oMv g023 s003))))) <|
  cSeq (cReg 1 (
   oMv (kc .nilSl) s004)) <|
  cSeq (cSeq (cReg 1 (
   oMv (kc (.int .i64 0)) s005)) <|
  cBlock 5 (cLoop 1000000 (cSeq (cSeq (cReg 3 (
     oSeq (oMv g005 s024) <|
     oSeq (oMv g003 s025) <|
     oP (vLss g024 g025) s026)) <|
    cCond g026
     (cSkip)
     (cExit 5)) <|
    cSeq (cBlock 7 (cSeq (cSeq (cReg 3 (
      oSeq (oMv g005 s031) <|
      oSeq (oGen (.bin .rem .int (.t 25) (.c (.int .i64 64))) 1 s032) <|
      oP (vEql g032 (kc (.int .i64 0))) s033)) <|
     cCond g033
      (cReg 4 (
       oSeq (oMv g004 s034) <|
       oSeq (oBuildSlice 52 1 [(.int .u64 0)] 1 [((0, 1), (kc (.int .u64 0)))] 1 s035) <|
       oSeq (oGen (.append 1 8 52 [(.int .u64 0)] (.t 28) (.t 29)) 2 s036) <|
       oMv g036 s004))
      (cSkip)) <|
     cSeq (cReg 5 (
      oSeq (oMv g000 s037) <|
      oSeq (oMv g005 s040) <|
      oSeq (oP (vIdx 1 g037 g040) s041) <|
      oSeq (oLoad g041 s042) <|
      oP (vEql g042 (kc (.int .i64 1))) s043)) <|
     cCond g043
      (cDrw 11 (
       dSeq (dLook 0 [] (oMv g004 s044)) <|
       dSeq (dLook 0 [] (oMv g005 s045)) <|
       dSeq (dLook 0 [] (oGen (.bin .quo .int (.t 37) (.c (.int .i64 64))) 2 s046)) <|
       dSeq (dLook 0 [] (oP (vIdx 1 g044 g046) s047)) <|
       dSeq (dLook 0 [] (oLoad g047 s050)) <|
       dSeq (dLook 0 [] (oMv g005 s051)) <|
       dSeq (dLook 0 [] (oGen (.bin .rem .int (.t 41) (.c (.int .i64 64))) 6 s052)) <|
       dSeq (dLook 0 [] (oGen (.bin .shl .int (.c (.int .u64 1)) (.t 42)) 7 s053)) <|
       dSeq (dLook 0 [] (oP (vAdd g050 g053) s054)) <|
       dSeq (dLook 0 [] (oP (vIdx 1 g044 g046) s055)) <|
       dSeq (dAct 0 [] (oStore g055 g054 noPut)) <|
       dNop)
       (ckNop) [])
      (cSkip))) <|
    cReg 3 (
     oSeq (oMv g005 s027) <|
     oSeq (oP (vAdd g027 (kc (.int .i64 1))) s030) <|
     oMv g030 s005)))) <|
  cSeq (cReg 2 (
   oSeq (oMv g004 s056) <|
   oMv g056 s002)) <|
  cExit 0⟩
noncomputable def ffn189 : FFn := ⟨2, 12, [(4, none)],
  cSeq (cReg 1 (
   oMv (kc (.int .u64 0)) s004)) <|
  cSeq (cBlock 1 (cLoop 1000000 (cSeq (cSeq (cReg 2 (
     oSeq (oMv g001 s005) <|
     oP (vGtr g005 (kc (.int .u64 0))) s006)) <|
    cCond g006
     (cSkip)
     (cExit 1)) <|
    cBlock 3 (cDrw 6 (
      dSeq (dLook 0 [] (oMv g001 s007)) <|
      dSeq (dLook 0 [] (oMv g000 s010)) <|
      dSeq (dLook 0 [] (oMv g001 s011)) <|
      dSeq (dLook 0 [] (oGen (.bin .rem .int (.t 8) (.t 9)) 3 s012)) <|
      dSeq (dLook 0 [] (oMv g007 s000)) <|
      dSeq (dLook 0 [] (oMv g012 s001)) <|
      dNop)
      (ckNop) [])))) <|
  cSeq (cReg 2 (
   oSeq (oMv g000 s013) <|
   oMv g013 s004)) <|
  cExit 0⟩
noncomputable def ffn227 : FFn := ⟨1, 15, [(2, none)],
  cSeq (cReg 1 (
   oMv (kc (.bool false)) s002)) <|
  cSeq (cReg 13 (
   oSeq (oMv g000 s003) <|
   oSeq (oP (vLen g003) s004) <|
   oSeq (oP (vEql g004 (kc (.int .i64 0))) s005) <|
   oSeq (oMv g005 s006) <|
   oSeq (oGuard g006 false s007 (oMv g000 s007)) <|
   oSeq (oGuard g006 false s010 (oMv g000 s010)) <|
   oSeq (oGuard g006 false s011 (oP (vLen g010) s011)) <|
   oSeq (oGuard g006 false s012 (oP (vSub g011 (kc (.int .i64 1))) s012)) <|
   oSeq (oGuard g006 false s013 (oP (vIdx 1 g007 g012) s013)) <|
   oSeq (oGuard g006 false s014 (oLoad g013 s014)) <|
   oSeq (oGuard g006 false s015 (oP (vNeq g014 (kc (.int .u64 0))) s015)) <|
   oSeq (oP (vPick g006 (kc (.bool true)) g015) s016) <|
   oMv g016 s002)) <|
  cExit 0⟩
noncomputable def ffn175 : FFn := ⟨2, 43, [(4, none)],
  cSeq (cReg 1 (
   oMv (kc (.int .i64 0)) s004)) <|
  cSeq (cSeq (cReg 10 (
   oSeq (oMv g000 s006) <|
   oSeq (oMv g001 s007) <|
   oSeq (oCallF 198 (fun T => [g006 T, g007 T]) s010) <|
   oSeq (oMv g010 s011) <|
   oSeq (oGuard g011 true s012 (oMv g000 s012)) <|
   oSeq (oGuard g011 true s013 (oCallF 199 (fun T => [g012 T]) s013)) <|
   oSeq (oGuard g011 true s014 (oMv g001 s014)) <|
   oSeq (oGuard g011 true s015 (oCallF 199 (fun T => [g014 T]) s015)) <|
   oSeq (oGuard g011 true s016 (oP (vNeq g013 g015) s016)) <|
   oP (vPick g011 g016 (kc (.bool false))) s017)) <|
  cCond g017
   (cSeq (cSeq (cReg 5 (
    oSeq (oMv g000 s020) <|
    oSeq (oCallF 199 (fun T => [g020 T]) s021) <|
    oSeq (oMv g001 s022) <|
    oSeq (oCallF 199 (fun T => [g022 T]) s023) <|
    oP (vLss g021 g023) s024)) <|
   cCond g024
    (cSeq (cReg 1 (
     oMv (kc (.int .i64 (-1))) s004)) <|
    cExit 0)
    (cSkip)) <|
   cSeq (cReg 1 (
    oMv (kc (.int .i64 1)) s004)) <|
   cExit 0)
   (cSkip)) <|
  cSeq (cSeq (cReg 5 (
   oSeq (oMv g000 s025) <|
   oSeq (oMv g001 s026) <|
   oSeq (oCallF 200 (fun T => [g025 T, g026 T]) s027) <|
   oSeq (oP (vSub g027 (kc (.int .i64 1))) s030) <|
   oMv g030 s005)) <|
  cBlock 1 (cLoop 1000000 (cSeq (cSeq (cReg 2 (
     oSeq (oMv g005 s031) <|
     oP (vGeq g031 (kc (.int .i64 0))) s032)) <|
    cCond g032
     (cSkip)
     (cExit 1)) <|
    cSeq (cBlock 3 (cSeq (cReg 7 (
      oSeq (oMv g000 s035) <|
      oSeq (oMv g005 s036) <|
      oSeq (oCallF 190 (fun T => [g035 T, g036 T]) s037) <|
      oSeq (oMv g001 s040) <|
      oSeq (oMv g005 s041) <|
      oSeq (oCallF 190 (fun T => [g040 T, g041 T]) s042) <|
      oP (vNeq g037 g042) s043)) <|
     cCond g043
      (cSeq (cReg 8 (
       oSeq (oMv g000 s044) <|
       oSeq (oMv g005 s045) <|
       oSeq (oCallF 190 (fun T => [g044 T, g045 T]) s046) <|
       oSeq (oMv g001 s047) <|
       oSeq (oMv g005 s050) <|
       oSeq (oCallF 190 (fun T => [g047 T, g050 T]) s051) <|
       oSeq (oP (vSub g046 g051) s052) <|
       oMv g052 s004)) <|
      cExit 0)
      (cSkip))) <|
    cReg 3 (
     oSeq (oMv g005 s033) <|
     oSeq (oP (vSub g033 (kc (.int .i64 1))) s034) <|
     oMv g034 s005)))) <|
  cSeq (cReg 1 (
   oMv (kc (.int .i64 0)) s004)) <|
  cExit 0⟩
noncomputable def ffn176 : FFn := ⟨2, 44, [(4, none)],
  cSeq (cReg 1 (
   oMv (kc .nilSl) s004)) <|
  cSeq (cSeq (cReg 3 (
   oSeq (oMv g000 s011) <|
   oSeq (oMv g001 s012) <|
   oCallF 198 (fun T => [g011 T, g012 T]) s013)) <|
  cCond g013
   (cSeq (cReg 7 (
    oSeq (oMv g000 s014) <|
    oSeq (oCallF 199 (fun T => [g014 T]) s015) <|
    oSeq (oMv g001 s016) <|
    oSeq (oCallF 199 (fun T => [g016 T]) s017) <|
    oSeq (oP (vSub g015 g017) s020) <|
    oSeq (oCallF 61 (fun T => [g020 T]) s021) <|
    oMv g021 s004)) <|
   cExit 0)
   (cSkip)) <|
  cSeq (cReg 1 (
   oMv (kc .nilSl) s005)) <|
  cSeq (cReg 1 (
   oMv (kc (.int .i64 0)) s006)) <|
  cSeq (cSeq (cReg 1 (
   oMv (kc (.int .i64 0)) s007)) <|
  cBlock 1 (cLoop 1000000 (cSeq (cSeq (cReg 5 (
     oSeq (oMv g007 s022) <|
     oSeq (oMv g000 s023) <|
     oSeq (oMv g001 s024) <|
     oSeq (oCallF 200 (fun T => [g023 T, g024 T]) s025) <|
     oP (vLss g022 g025) s026)) <|
    cCond g026
     (cSkip)
     (cExit 1)) <|
    cSeq (cBlock 3 (cSeq (cReg 10 (
      oSeq (oMv g000 s031) <|
      oSeq (oMv g007 s032) <|
      oSeq (oCallF 190 (fun T => [g031 T, g032 T]) s033) <|
      oSeq (oMv g001 s034) <|
      oSeq (oMv g007 s035) <|
      oSeq (oCallF 190 (fun T => [g034 T, g035 T]) s036) <|
      oSeq (oP (vSub g033 g036) s037) <|
      oSeq (oMv g006 s040) <|
      oSeq (oP (vSub g037 g040) s041) <|
      oMv g041 s010)) <|
     cSeq (cReg 1 (
      oMv (kc (.int .i64 0)) s006)) <|
     cSeq (cSeq (cReg 2 (
      oSeq (oMv g010 s042) <|
      oP (vLss g042 (kc (.int .i64 0))) s043)) <|
     cCond g043
      (cSeq (cReg 3 (
       oSeq (oMv g010 s044) <|
       oSeq (oP (vAdd g044 (kc (.int .i64 2))) s045) <|
       oMv g045 s010)) <|
      cReg 1 (
       oMv (kc (.int .i64 1)) s006))
      (cSkip)) <|
     cReg 5 (
      oSeq (oMv g005 s046) <|
      oSeq (oMv g010 s047) <|
      oSeq (oBuildSlice 3 1 [(.int .i64 0)] 1 [((0, 1), g047)] 2 s050) <|
      oSeq (oGen (.append 1 8 3 [(.int .i64 0)] (.t 38) (.t 40)) 3 s051) <|
      oMv g051 s005))) <|
    cReg 3 (
     oSeq (oMv g007 s027) <|
     oSeq (oP (vAdd g027 (kc (.int .i64 1))) s030) <|
     oMv g030 s007)))) <|
  cSeq (cReg 3 (
   oSeq (oMv g005 s052) <|
   oSeq (oCallF 193 (fun T => [g052 T]) s053) <|
   oMv g053 s004)) <|
  cExit 0⟩
noncomputable def ffn169 : FFn := ⟨2, 67, [(4, none), (5, none)],
  cSeq (cReg 2 (
   oSeq (oMv (kc .nilSl) s004) <|
   oMv (kc .nilSl) s005)) <|
  cSeq (cSeq (cReg 8 (
   oSeq (oMv g000 s012) <|
   oSeq (oP (vLen g012) s013) <|
   oSeq (oP (vEql g013 (kc (.int .i64 1))) s014) <|
   oSeq (oMv g014 s015) <|
   oSeq (oGuard g015 true s016 (oMv g001 s016)) <|
   oSeq (oGuard g015 true s017 (oP (vLen g016) s017)) <|
   oSeq (oGuard g015 true s020 (oP (vEql g017 (kc (.int .i64 1))) s020)) <|
   oP (vPick g015 g020 (kc (.bool false))) s021)) <|
  cCond g021
   (cSeq (cDrw 18 (
    dSeq (dLook 0 [] (oMv g000 s022)) <|
    dSeq (dLook 0 [] (oP (vIdx 1 g022 (kc (.int .i64 0))) s023)) <|
    dSeq (dLook 0 [] (oLoad g023 s024)) <|
    dSeq (dLook 0 [] (oMv g001 s025)) <|
    dSeq (dLook 0 [] (oP (vIdx 1 g025 (kc (.int .i64 0))) s026)) <|
    dSeq (dLook 0 [] (oLoad g026 s027)) <|
    dSeq (dLook 0 [] (oGen (.bin .quo .int (.t 20) (.t 23)) 6 s030)) <|
    dSeq (dAct 0 [] (oCallF 61 (fun T => [g030 T]) s031)) <|
    dSeq (dLook 0 [] (oMv g000 s032)) <|
    dSeq (dLook 0 [] (oP (vIdx 1 g032 (kc (.int .i64 0))) s033)) <|
    dSeq (dLook 1 [] (oLoad g033 s034)) <|
    dSeq (dLook 0 [] (oMv g001 s035)) <|
    dSeq (dLook 0 [] (oP (vIdx 1 g035 (kc (.int .i64 0))) s036)) <|
    dSeq (dLook 1 [] (oLoad g036 s037)) <|
    dSeq (dLook 0 [] (oGen (.bin .rem .int (.t 28) (.t 31)) 14 s040)) <|
    dSeq (dAct 0 [] (oCallF 61 (fun T => [g040 T]) s041)) <|
    dSeq (dLook 0 [] (oMv g031 s004)) <|
    dSeq (dLook 0 [] (oMv g041 s005)) <|
    dNop)
    (ckSeq (ckOne g034 1 [] (oLoad g033 s034)) <|
   ckSeq (ckOne g037 1 [] (oLoad g036 s037)) <|
   ckNop) []) <|
   cExit 0)
   (cSkip)) <|
  cSeq (cReg 1 (
   oMv (kc .nilSl) s006)) <|
  cSeq (cReg 4 (
   oSeq (oMv g000 s042) <|
   oSeq (oP (vLen g042) s043) <|
   oSeq (oP (vMul (kc (.int .i64 64)) g043) s044) <|
   oMv g044 s007)) <|
  cSeq (cReg 3 (
   oSeq (oMv g007 s045) <|
   oSeq (oGen (.mksl 3 1 8 [(.int .i64 0)] (.t 37) (.t 37)) 1 s046) <|
   oMv g046 s010)) <|
  cSeq (cSeq (cReg 3 (
   oSeq (oMv g007 s047) <|
   oSeq (oP (vSub g047 (kc (.int .i64 1))) s050) <|
   oMv g050 s011)) <|
  cBlock 1 (cLoop 1000000 (cSeq (cSeq (cReg 2 (
     oSeq (oMv g011 s051) <|
     oP (vGeq g051 (kc (.int .i64 0))) s052)) <|
    cCond g052
     (cSkip)
     (cExit 1)) <|
    cSeq (cBlock 3 (cSeq (cReg 3 (
      oSeq (oMv g006 s055) <|
      oSeq (oCallF 192 (fun T => [g055 T, (.int .i64 1)]) s056) <|
      oMv g056 s006)) <|
     cSeq (cSeq (cReg 4 (
      oSeq (oMv g000 s057) <|
      oSeq (oMv g011 s060) <|
      oSeq (oCallF 190 (fun T => [g057 T, g060 T]) s061) <|
      oP (vEql g061 (kc (.int .i64 1))) s062)) <|
     cCond g062
      (cReg 4 (
       oSeq (oMv g006 s063) <|
       oSeq (oBuildSlice 52 1 [(.int .u64 0)] 1 [((0, 1), (kc (.int .u64 1)))] 1 s064) <|
       oSeq (oCallF 174 (fun T => [g063 T, g064 T]) s065) <|
       oMv g065 s006))
      (cSkip)) <|
     cSeq (cReg 4 (
      oSeq (oMv g006 s066) <|
      oSeq (oMv g001 s067) <|
      oSeq (oCallF 175 (fun T => [g066 T, g067 T]) s070) <|
      oP (vGeq g070 (kc (.int .i64 0))) s071)) <|
     cCond g071
      (cSeq (cReg 4 (
       oSeq (oMv g006 s072) <|
       oSeq (oMv g001 s073) <|
       oSeq (oCallF 176 (fun T => [g072 T, g073 T]) s074) <|
       oMv g074 s006)) <|
      cReg 4 (
       oSeq (oMv g010 s075) <|
       oSeq (oMv g011 s076) <|
       oSeq (oP (vIdx 1 g075 g076) s077) <|
       oStore g077 (kc (.int .i64 1)) noPut))
      (cSkip))) <|
    cReg 3 (
     oSeq (oMv g011 s053) <|
     oSeq (oP (vSub g053 (kc (.int .i64 1))) s054) <|
     oMv g054 s011)))) <|
  cSeq (cReg 5 (
   oSeq (oMv g010 s100) <|
   oSeq (oCallF 193 (fun T => [g100 T]) s101) <|
   oSeq (oMv g006 s102) <|
   oSeq (oMv g101 s004) <|
   oMv g102 s005)) <|
  cExit 0⟩
noncomputable def ffn164 : FFn := ⟨2, 9, [(4, none)],
  cSeq (cReg 1 (
   oMv (kc (.int .i64 0)) s004)) <|
  cSeq (cReg 5 (
   oSeq (oMv g000 s005) <|
   oSeq (oP (vAdd g005 (kc (.int .i64 1))) s006) <|
   oSeq (oMv g001 s007) <|
   oSeq (oGen (.bin .rem .int (.t 6) (.t 7)) 3 s010) <|
   oMv g010 s004)) <|
  cExit 0⟩
noncomputable def ffn165 : FFn := ⟨1, 8, [(2, none)],
  cSeq (cReg 2 (
   oSeq (oBox 183 g000 0 s001) <|
   oMv (kc (.bool false)) s002)) <|
  cSeq (cReg 6 (
   oSeq (oP (vFA 0 g001) s003) <|
   oSeq (oP (vFA 1 g003) s004) <|
   oSeq (oLoad g004 s005) <|
   oSeq (oP (vLen g005) s006) <|
   oSeq (oP (vEql g006 (kc (.int .i64 0))) s007) <|
   oMv g007 s002)) <|
  cExit 0⟩
noncomputable def ffn166 : FFn := ⟨2, 39, [(4, (some (some 3))), (5, none)],
  cSeq (cReg 4 (
   oSeq (oBox 183 g000 0 s002) <|
   oSeq (oBox 183 g001 1 s003) <|
   oSeq (oAlloc 183 [(.bool false), .nilSl, .nilSl] 2 s004) <|
   oMv (kc (.int .i64 0)) s005)) <|
  cSeq (cReg 4 (
   oSeq (oLoadN 3 g002 s010) <|
   oSeq (oLoadN 3 g003 s011) <|
   oSeq (oCallF 185 (fun T => [g010 T, g011 T]) s012) <|
   oMv g012 s006)) <|
  cSeq (cSeq (cReg 2 (
   oSeq (oMv g006 s013) <|
   oP (vNeq g013 (kc (.int .i64 0))) s014)) <|
  cCond g014
   (cSeq (cReg 4 (
    oSeq (oP (vBuild [(.bool false), .nilSl, .nilSl] []) s015) <|
    oSeq (oMv g006 s016) <|
    oSeq (oStoreN 3 g004 g015 noPut) <|
    oMv g016 s005)) <|
   cExit 0)
   (cSkip)) <|
  cSeq (cSeq (cReg 5 (
   oSeq (oP (vFA 0 g003) s017) <|
   oSeq (oP (vFA 1 g017) s020) <|
   oSeq (oLoad g020 s021) <|
   oSeq (oP (vLen g021) s022) <|
   oP (vEql g022 (kc (.int .i64 0))) s023)) <|
  cCond g023
   (cSeq (cReg 3 (
    oSeq (oP (vBuild [(.bool false), .nilSl, .nilSl] []) s024) <|
    oSeq (oStoreN 3 g004 g024 noPut) <|
    oMv (kc (.int .i64 30)) s005)) <|
   cExit 0)
   (cSkip)) <|
  cSeq (cReg 7 (
   oSeq (oP (vFA 0 g002) s025) <|
   oSeq (oLoadN 2 g025 s026) <|
   oSeq (oP (vFA 2 g003) s027) <|
   oSeq (oLoad g027 s030) <|
   oSeq (oCallF 186 (fun T => [g026 T, g030 T]) s031) <|
   oSeq (oAlloc 40 [(.bool false), .nilSl] 5 s007) <|
   oStoreN 2 g007 g031 noPut)) <|
  cSeq (cSeq (cReg 3 (
   oSeq (oP (vFA 0 g003) s032) <|
   oSeq (oP (vFA 0 g032) s033) <|
   oLoad g033 s034)) <|
  cCond g034
   (cReg 3 (
    oSeq (oLoadN 2 g007 s035) <|
    oSeq (oCallF 170 (fun T => [g035 T]) s036) <|
    oStoreN 2 g007 g036 noPut))
   (cSkip)) <|
  cSeq (cDrw 10 (
   dSeq (dLook 0 [] (oLoadN 2 g007 s037)) <|
   dSeq (dLook 0 [] (oP (vFA 2 g002) s040)) <|
   dSeq (dLook 0 [] (oLoad g040 s041)) <|
   dSeq (dLook 0 [] (oP (vFA 0 g003) s042)) <|
   dSeq (dLook 0 [] (oP (vFA 1 g042) s043)) <|
   dSeq (dLook 0 [] (oLoad g043 s044)) <|
   dSeq (dAct 0 [] (oCallF 171 (fun T => [g041 T, g044 T]) s045)) <|
   dSeq (dAct 0 [] (oCallF 143 (fun T => [g037 T, g045 T]) s046)) <|
   dSeq (dAct 0 [] (oStoreN 3 g004 g046 noPut)) <|
   dSeq (dLook 0 [] (oMv (kc (.int .i64 0)) s005)) <|
   dNop)
   (ckSeq (ckOne g037 2 [] (oLoadN 2 g007 s037)) <|
  ckNop) []) <|
  cExit 0⟩
noncomputable def ffn185 : FFn := ⟨2, 13, [(4, none)],
  cSeq (cReg 3 (
   oSeq (oBox 183 g000 0 s002) <|
   oSeq (oBox 183 g001 1 s003) <|
   oMv (kc (.int .i64 0)) s004)) <|
  cSeq (cSeq (cReg 8 (
   oSeq (oLoadN 3 g002 s005) <|
   oSeq (oCallF 214 (fun T => [g005 T]) s006) <|
   oSeq (oGen (.un .not (.t 6)) 2 s007) <|
   oSeq (oMv g007 s010) <|
   oSeq (oGuard g010 false s011 (oLoadN 3 g003 s011)) <|
   oSeq (oGuard g010 false s012 (oCallF 214 (fun T => [g011 T]) s012)) <|
   oSeq (oGuard g010 false s013 (oGen (.un .not (.t 10)) 6 s013)) <|
   oP (vPick g010 (kc (.bool true)) g013) s014)) <|
  cCond g014
   (cSeq (cReg 1 (
    oMv (kc (.int .i64 8)) s004)) <|
   cExit 0)
   (cSkip)) <|
  cSeq (cReg 1 (
   oMv (kc (.int .i64 0)) s004)) <|
  cExit 0⟩
noncomputable def ffn214 : FFn := ⟨1, 27, [(2, none)],
  cSeq (cReg 2 (
   oSeq (oBox 183 g000 0 s001) <|
   oMv (kc (.bool false)) s002)) <|
  cSeq (cReg 25 (
   oSeq (oP (vFA 0 g001) s003) <|
   oSeq (oLoadN 2 g003 s004) <|
   oSeq (oCallF 226 (fun T => [g004 T]) s005) <|
   oSeq (oMv g005 s006) <|
   oSeq (oGuard g006 true s007 (oP (vFA 2 g001) s007)) <|
   oSeq (oGuard g006 true s010 (oLoad g007 s010)) <|
   oSeq (oGuard g006 true s011 (oCallF 227 (fun T => [g010 T]) s011)) <|
   oSeq (oP (vPick g006 g011 (kc (.bool false))) s012) <|
   oSeq (oMv g012 s013) <|
   oSeq (oGuard g013 true s014 (oP (vFA 2 g001) s014)) <|
   oSeq (oGuard g013 true s015 (oLoad g014 s015)) <|
   oSeq (oGuard g013 true s016 (oP (vLen g015) s016)) <|
   oSeq (oGuard g013 true s017 (oP (vGtr g016 (kc (.int .i64 0))) s017)) <|
   oSeq (oP (vPick g013 g017 (kc (.bool false))) s020) <|
   oSeq (oMv g020 s021) <|
   oSeq (oGuard g021 true s022 (oP (vFA 0 g001) s022)) <|
   oSeq (oGuard g021 true s023 (oP (vFA 1 g022) s023)) <|
   oSeq (oGuard g021 true s024 (oLoad g023 s024)) <|
   oSeq (oGuard g021 true s025 (oP (vFA 2 g001) s025)) <|
   oSeq (oGuard g021 true s026 (oLoad g025 s026)) <|
   oSeq (oGuard g021 true s027 (oCallF 168 (fun T => [g024 T, g026 T]) s027)) <|
   oSeq (oGuard g021 true s030 (oBuildSlice 52 1 [(.int .u64 0)] 1 [((0, 1), (kc (.int .u64 1)))] 21 s030)) <|
   oSeq (oGuard g021 true s031 (oCallF 85 (fun T => [g027 T, g030 T]) s031)) <|
   oSeq (oP (vPick g021 g031 (kc (.bool false))) s032) <|
   oMv g032 s002)) <|
  cExit 0⟩
noncomputable def ffn226 : FFn := ⟨1, 17, [(2, none)],
  cSeq (cReg 2 (
   oSeq (oBox 40 g000 0 s001) <|
   oMv (kc (.bool false)) s002)) <|
  cSeq (cReg 15 (
   oSeq (oP (vFA 1 g001) s003) <|
   oSeq (oLoad g003 s004) <|
   oSeq (oCallF 227 (fun T => [g004 T]) s005) <|
   oSeq (oMv g005 s006) <|
   oSeq (oGuard g006 true s007 (oP (vFA 0 g001) s007)) <|
   oSeq (oGuard g006 true s010 (oLoad g007 s010)) <|
   oSeq (oGuard g006 true s011 (oGen (.un .not (.t 8)) 6 s011)) <|
   oSeq (oGuard g006 true s012 (oMv g011 s012)) <|
   oSeq (oGuard g012 false s013 (oP (vFA 1 g001) s013)) <|
   oSeq (oGuard g012 false s014 (oLoad g013 s014)) <|
   oSeq (oGuard g012 false s015 (oP (vLen g014) s015)) <|
   oSeq (oGuard g012 false s016 (oP (vGtr g015 (kc (.int .i64 0))) s016)) <|
   oSeq (oGuard g006 true s017 (oP (vPick g012 (kc (.bool true)) g016) s017)) <|
   oSeq (oP (vPick g006 g017 (kc (.bool false))) s020) <|
   oMv g020 s002)) <|
  cExit 0⟩
noncomputable def ffn85 : FFn := ⟨2, 26, [(4, none)],
  cSeq (cReg 1 (
   oMv (kc (.bool false)) s004)) <|
  cSeq (cSeq (cReg 5 (
   oSeq (oMv g000 s006) <|
   oSeq (oP (vLen g006) s007) <|
   oSeq (oMv g001 s010) <|
   oSeq (oP (vLen g010) s011) <|
   oP (vNeq g007 g011) s012)) <|
  cCond g012
   (cSeq (cReg 1 (
    oMv (kc (.bool false)) s004)) <|
   cExit 0)
   (cSkip)) <|
  cSeq (cSeq (cReg 1 (
   oMv (kc (.int .i64 0)) s005)) <|
  cBlock 1 (cLoop 1000000 (cSeq (cSeq (cReg 4 (
     oSeq (oMv g005 s013) <|
     oSeq (oMv g000 s014) <|
     oSeq (oP (vLen g014) s015) <|
     oP (vLss g013 g015) s016)) <|
    cCond g016
     (cSkip)
     (cExit 1)) <|
    cSeq (cBlock 3 (cSeq (cDrw 9 (
      dSeq (dLook 0 [] (oMv g000 s021)) <|
      dSeq (dLook 0 [] (oMv g005 s022)) <|
      dSeq (dLook 0 [] (oP (vIdx 1 g021 g022) s023)) <|
      dSeq (dLook 0 [] (oLoad g023 s024)) <|
      dSeq (dLook 0 [] (oMv g001 s025)) <|
      dSeq (dLook 0 [] (oMv g005 s026)) <|
      dSeq (dLook 0 [] (oP (vIdx 1 g025 g026) s027)) <|
      dSeq (dLook 0 [] (oLoad g027 s030)) <|
      dSeq (dLook 0 [] (oP (vNeq g024 g030) s031)) <|
      dNop)
      (ckNop) []) <|
     cCond g031
      (cSeq (cReg 1 (
       oMv (kc (.bool false)) s004)) <|
      cExit 0)
      (cSkip))) <|
    cReg 3 (
     oSeq (oMv g005 s017) <|
     oSeq (oP (vAdd g017 (kc (.int .i64 1))) s020) <|
     oMv g020 s005)))) <|
  cSeq (cReg 1 (
   oMv (kc (.bool true)) s004)) <|
  cExit 0⟩
noncomputable def ffn186 : FFn := ⟨2, 9, [(4, (some (some 2)))],
  cSeq (cReg 2 (
   oSeq (oBox 40 g000 0 s002) <|
   oAlloc 40 [(.bool false), .nilSl] 1 s004)) <|
  cSeq (cReg 5 (
   oSeq (oLoadN 2 g002 s005) <|
   oSeq (oMv g001 s006) <|
   oSeq (oP (vBuild [(.bool false), .nilSl] [((1, 1), g006)]) s007) <|
   oSeq (oCallF 151 (fun T => [g005 T, g007 T]) s010) <|
   oStoreN 2 g004 g010 noPut)) <|
  cExit 0⟩
noncomputable def ffn151 : FFn := ⟨2, 23, [(4, (some (some 2)))],
  cSeq (cReg 3 (
   oSeq (oBox 40 g000 0 s002) <|
   oSeq (oBox 40 g001 1 s003) <|
   oAlloc 40 [(.bool false), .nilSl] 2 s004)) <|
  cSeq (cReg 6 (
   oSeq (oP (vFA 1 g002) s006) <|
   oSeq (oLoad g006 s007) <|
   oSeq (oP (vFA 1 g003) s010) <|
   oSeq (oLoad g010 s011) <|
   oSeq (oCallF 171 (fun T => [g007 T, g011 T]) s012) <|
   oMv g012 s005)) <|
  cSeq (cReg 13 (
   oSeq (oP (vFA 0 g002) s013) <|
   oSeq (oLoad g013 s014) <|
   oSeq (oP (vFA 0 g003) s015) <|
   oSeq (oLoad g015 s016) <|
   oSeq (oGen (.bin .neq .bool (.t 12) (.t 14)) 4 s017) <|
   oSeq (oMv g017 s020) <|
   oSeq (oGuard g020 true s021 (oMv g005 s021)) <|
   oSeq (oGuard g020 true s022 (oP (vLen g021) s022)) <|
   oSeq (oGuard g020 true s023 (oP (vGtr g022 (kc (.int .i64 0))) s023)) <|
   oSeq (oP (vPick g020 g023 (kc (.bool false))) s024) <|
   oSeq (oMv g005 s025) <|
   oSeq (oP (vBuild [(.bool false), .nilSl] [((0, 1), g024), ((1, 1), g025)]) s026) <|
   oStoreN 2 g004 g026 noPut)) <|
  cExit 0⟩
noncomputable def ffn171 : FFn := ⟨2, 70, [(4, none)],
  cSeq (cReg 1 (
   oMv (kc .nilSl) s004)) <|
  cSeq (cReg 3 (
   oSeq (oMv g000 s014) <|
   oSeq (oCallF 194 (fun T => [g014 T]) s015) <|
   oMv g015 s005)) <|
  cSeq (cReg 3 (
   oSeq (oMv g001 s016) <|
   oSeq (oCallF 194 (fun T => [g016 T]) s017) <|
   oMv g017 s006)) <|
  cSeq (cReg 7 (
   oSeq (oMv g005 s020) <|
   oSeq (oP (vLen g020) s021) <|
   oSeq (oMv g006 s022) <|
   oSeq (oP (vLen g022) s023) <|
   oSeq (oP (vAdd g021 g023) s024) <|
   oSeq (oGen (.mksl 52 1 8 [(.int .u64 0)] (.t 20) (.t 20)) 5 s025) <|
   oMv g025 s007)) <|
  cSeq (cSeq (cReg 1 (
   oMv (kc (.int .i64 0)) s010)) <|
  cBlock 1 (cLoop 1000000 (cSeq (cSeq (cReg 4 (
     oSeq (oMv g010 s026) <|
     oSeq (oMv g005 s027) <|
     oSeq (oP (vLen g027) s030) <|
     oP (vLss g026 g030) s031)) <|
    cCond g031
     (cSkip)
     (cExit 1)) <|
    cSeq (cBlock 3 (cSeq (cReg 1 (
      oMv (kc (.int .u64 0)) s011)) <|
     cSeq (cSeq (cReg 1 (
      oMv (kc (.int .i64 0)) s012)) <|
     cBlock 5 (cLoop 1000000 (cSeq (cSeq (cReg 4 (
        oSeq (oMv g012 s034) <|
        oSeq (oMv g006 s035) <|
        oSeq (oP (vLen g035) s036) <|
        oP (vLss g034 g036) s037)) <|
       cCond g037
        (cSkip)
        (cExit 5)) <|
       cSeq (cBlock 7 (cSeq (cDrw 19 (
         dSeq (dLook 0 [] (oMv g005 s042)) <|
         dSeq (dLook 0 [] (oMv g010 s043)) <|
         dSeq (dLook 0 [] (oP (vIdx 1 g042 g043) s044)) <|
         dSeq (dLook 0 [] (oLoad g044 s045)) <|
         dSeq (dLook 0 [] (oMv g006 s046)) <|
         dSeq (dLook 0 [] (oMv g012 s047)) <|
         dSeq (dLook 0 [] (oP (vIdx 1 g046 g047) s050)) <|
         dSeq (dLook 0 [] (oLoad g050 s051)) <|
         dSeq (dLook 0 [] (oP (vMul g045 g051) s052)) <|
         dSeq (dLook 0 [] (oMv g007 s053)) <|
         dSeq (dLook 0 [] (oMv g010 s054)) <|
         dSeq (dLook 0 [] (oMv g012 s055)) <|
         dSeq (dLook 0 [] (oP (vAdd g054 g055) s056)) <|
         dSeq (dLook 0 [] (oP (vIdx 1 g053 g056) s057)) <|
         dSeq (dLook 0 [] (oLoad g057 s060)) <|
         dSeq (dLook 0 [] (oP (vAdd g052 g060) s061)) <|
         dSeq (dLook 0 [] (oMv g011 s062)) <|
         dSeq (dLook 0 [] (oP (vAdd g061 g062) s063)) <|
         dSeq (dLook 0 [] (oMv g063 s013)) <|
         dNop)
         (ckNop) []) <|
        cSeq (cReg 8 (
         oSeq (oMv g007 s064) <|
         oSeq (oMv g010 s065) <|
         oSeq (oMv g012 s066) <|
         oSeq (oP (vAdd g065 g066) s067) <|
         oSeq (oMv g013 s070) <|
         oSeq (oGen (.bin .rem .int (.t 56) (.c (.int .u64 4294967296))) 5 s071) <|
         oSeq (oP (vIdx 1 g064 g067) s072) <|
         oStore g072 g071 noPut)) <|
        cReg 3 (
         oSeq (oMv g013 s073) <|
         oSeq (oGen (.bin .quo .int (.t 59) (.c (.int .u64 4294967296))) 1 s074) <|
         oMv g074 s011))) <|
       cReg 3 (
        oSeq (oMv g012 s040) <|
        oSeq (oP (vAdd g040 (kc (.int .i64 1))) s041) <|
        oMv g041 s012)))) <|
     cReg 8 (
      oSeq (oMv g007 s075) <|
      oSeq (oMv g010 s076) <|
      oSeq (oMv g006 s077) <|
      oSeq (oP (vLen g077) s100) <|
      oSeq (oP (vAdd g076 g100) s101) <|
      oSeq (oMv g011 s102) <|
      oSeq (oP (vIdx 1 g075 g101) s103) <|
      oStore g103 g102 noPut))) <|
    cReg 3 (
     oSeq (oMv g010 s032) <|
     oSeq (oP (vAdd g032 (kc (.int .i64 1))) s033) <|
     oMv g033 s010)))) <|
  cSeq (cReg 3 (
   oSeq (oMv g007 s104) <|
   oSeq (oCallF 195 (fun T => [g104 T]) s105) <|
   oMv g105 s004)) <|
  cExit 0⟩
noncomputable def ffn194 : FFn := ⟨1, 25, [(2, none)],
  cSeq (cReg 1 (
   oMv (kc .nilSl) s002)) <|
  cSeq (cReg 1 (
   oMv (kc .nilSl) s003)) <|
  cSeq (cSeq (cReg 1 (
   oMv (kc (.int .i64 0)) s004)) <|
  cBlock 1 (cLoop 1000000 (cSeq (cSeq (cReg 4 (
     oSeq (oMv g004 s005) <|
     oSeq (oMv g000 s006) <|
     oSeq (oP (vLen g006) s007) <|
     oP (vLss g005 g007) s010)) <|
    cCond g010
     (cSkip)
     (cExit 1)) <|
    cSeq (cBlock 3 (cDrw 14 (
      dSeq (dLook 0 [] (oMv g003 s013)) <|
      dSeq (dLook 0 [] (oMv g000 s014)) <|
      dSeq (dLook 0 [] (oMv g004 s015)) <|
      dSeq (dLook 0 [] (oP (vIdx 1 g014 g015) s016)) <|
      dSeq (dLook 0 [] (oLoad g016 s017)) <|
      dSeq (dLook 0 [] (oGen (.bin .rem .int (.t 15) (.c (.int .u64 4294967296))) 5 s020)) <|
      dSeq (dLook 0 [] (oMv g000 s021)) <|
      dSeq (dLook 0 [] (oMv g004 s022)) <|
      dSeq (dLook 0 [] (oP (vIdx 1 g021 g022) s023)) <|
      dSeq (dLook 0 [] (oLoad g023 s024)) <|
      dSeq (dLook 0 [] (oGen (.bin .quo .int (.t 20) (.c (.int .u64 4294967296))) 10 s025)) <|
      dSeq (dMake 11 (oBuildSlice 52 1 [(.int .u64 0), (.int .u64 0)] 2 [((0, 1), g020), ((1, 1), g025)] 11 s026)) <|
      dSeq (dAct 0 [(11, 0)] (oGen (.append 1 8 52 [(.int .u64 0)] (.t 11) (.t 22)) 12 s027)) <|
      dSeq (dLook 0 [] (oMv g027 s003)) <|
      dNop)
      (ckNop) [])) <|
    cReg 3 (
     oSeq (oMv g004 s011) <|
     oSeq (oP (vAdd g011 (kc (.int .i64 1))) s012) <|
     oMv g012 s004)))) <|
  cSeq (cReg 2 (
   oSeq (oMv g003 s030) <|
   oMv g030 s002)) <|
  cExit 0⟩
noncomputable def ffn195 : FFn := ⟨1, 44, [(2, none)],
  cSeq (cReg 1 (
   oMv (kc .nilSl) s002)) <|
  cSeq (cReg 1 (
   oMv (kc .nilSl) s003)) <|
  cSeq (cSeq (cReg 1 (
   oMv (kc (.int .i64 0)) s004)) <|
  cBlock 1 (cLoop 1000000 (cSeq (cSeq (cReg 5 (
     oSeq (oMv g004 s005) <|
     oSeq (oP (vAdd g005 (kc (.int .i64 1))) s006) <|
     oSeq (oMv g000 s007) <|
     oSeq (oP (vLen g007) s010) <|
     oP (vLss g006 g010) s011)) <|
    cCond g011
     (cSkip)
     (cExit 1)) <|
    cSeq (cBlock 3 (cDrw 15 (
      dSeq (dLook 0 [] (oMv g003 s014)) <|
      dSeq (dLook 0 [] (oMv g000 s015)) <|
      dSeq (dLook 0 [] (oMv g004 s016)) <|
      dSeq (dLook 0 [] (oP (vIdx 1 g015 g016) s017)) <|
      dSeq (dLook 0 [] (oLoad g017 s020)) <|
      dSeq (dLook 0 [] (oMv g000 s021)) <|
      dSeq (dLook 0 [] (oMv g004 s022)) <|
      dSeq (dLook 0 [] (oP (vAdd g022 (kc (.int .i64 1))) s023)) <|
      dSeq (dLook 0 [] (oP (vIdx 1 g021 g023) s024)) <|
      dSeq (dLook 0 [] (oLoad g024 s025)) <|
      dSeq (dLook 0 [] (oP (vMul (kc (.int .u64 4294967296)) g025) s026)) <|
      dSeq (dLook 0 [] (oP (vAdd g020 g026) s027)) <|
      dSeq (dMake 12 (oBuildSlice 52 1 [(.int .u64 0)] 1 [((0, 1), g027)] 12 s030)) <|
      dSeq (dAct 0 [(12, 0)] (oGen (.append 1 8 52 [(.int .u64 0)] (.t 12) (.t 24)) 13 s031)) <|
      dSeq (dLook 0 [] (oMv g031 s003)) <|
      dNop)
      (ckNop) [])) <|
    cReg 3 (
     oSeq (oMv g004 s012) <|
     oSeq (oP (vAdd g012 (kc (.int .i64 2))) s013) <|
     oMv g013 s004)))) <|
  cSeq (cBlock 5 (cLoop 1000000 (cSeq (cSeq (cReg 12 (
     oSeq (oMv g003 s032) <|
     oSeq (oP (vLen g032) s033) <|
     oSeq (oP (vGtr g033 (kc (.int .i64 0))) s034) <|
     oSeq (oMv g034 s035) <|
     oSeq (oGuard g035 true s036 (oMv g003 s036)) <|
     oSeq (oGuard g035 true s037 (oMv g003 s037)) <|
     oSeq (oGuard g035 true s040 (oP (vLen g037) s040)) <|
     oSeq (oGuard g035 true s041 (oP (vSub g040 (kc (.int .i64 1))) s041)) <|
     oSeq (oGuard g035 true s042 (oP (vIdx 1 g036 g041) s042)) <|
     oSeq (oGuard g035 true s043 (oLoad g042 s043)) <|
     oSeq (oGuard g035 true s044 (oP (vEql g043 (kc (.int .u64 0))) s044)) <|
     oP (vPick g035 g044 (kc (.bool false))) s045)) <|
    cCond g045
     (cSkip)
     (cExit 5)) <|
    cBlock 7 (cReg 6 (
      oSeq (oMv g003 s046) <|
      oSeq (oMv g003 s047) <|
      oSeq (oP (vLen g047) s050) <|
      oSeq (oP (vSub g050 (kc (.int .i64 1))) s051) <|
      oSeq (oGen (.slice 1 (.t 38) none (some (.t 41)) none) 4 s052) <|
      oMv g052 s003))))) <|
  cSeq (cReg 2 (
   oSeq (oMv g003 s053) <|
   oMv g053 s002)) <|
  cExit 0⟩
noncomputable def ffn170 : FFn := ⟨1, 16, [(2, (some (some 2)))],
  cSeq (cReg 2 (
   oSeq (oBox 40 g000 0 s001) <|
   oAlloc 40 [(.bool false), .nilSl] 1 s002)) <|
  cSeq (cDrw 14 (
   dSeq (dLook 0 [] (oP (vFA 0 g001) s003)) <|
   dSeq (dLook 0 [] (oLoad g003 s004)) <|
   dSeq (dLook 0 [] (oGen (.un .not (.t 4)) 2 s005)) <|
   dSeq (dLook 0 [] (oMv g005 s006)) <|
   dSeq (dLook 0 [] (oGuard g006 true s007 (oP (vFA 1 g001) s007))) <|
   dSeq (dLook 0 [] (oGuard g006 true s010 (oLoad g007 s010))) <|
   dSeq (dLook 0 [] (oGuard g006 true s011 (oP (vLen g010) s011))) <|
   dSeq (dLook 0 [] (oGuard g006 true s012 (oP (vGtr g011 (kc (.int .i64 0))) s012))) <|
   dSeq (dLook 0 [] (oP (vPick g006 g012 (kc (.bool false))) s013)) <|
   dSeq (dLook 0 [] (oP (vFA 1 g001) s014)) <|
   dSeq (dLook 0 [] (oLoad g014 s015)) <|
   dSeq (dAct 0 [] (oGen (.append 1 8 52 [(.int .u64 0)] (.c .nilSl) (.t 13)) 11 s016)) <|
   dSeq (dLook 0 [] (oP (vBuild [(.bool false), .nilSl] [((0, 1), g013), ((1, 1), g016)]) s017)) <|
   dSeq (dAct 0 [] (oStoreN 2 g002 g017 noPut)) <|
   dNop)
   (ckSeq (ckOne g010 1 [] (oGuard g006 true s010 (oLoad g007 s010))) <|
  ckNop) []) <|
  cExit 0⟩
noncomputable def ffn167 : FFn := ⟨3, 34, [(6, none)],
  cSeq (cReg 1 (
   oMv (kc .nilSl) s006)) <|
  cSeq (cReg 1 (
   oMv (kc .nilSl) s007)) <|
  cSeq (cSeq (cReg 1 (
   oMv (kc (.int .i64 0)) s010)) <|
  cBlock 1 (cLoop 1000000 (cSeq (cSeq (cReg 4 (
     oSeq (oMv g010 s011) <|
     oSeq (oMv g000 s012) <|
     oSeq (oP (vLen g012) s013) <|
     oP (vLss g011 g013) s014)) <|
    cCond g014
     (cSkip)
     (cExit 1)) <|
    cSeq (cBlock 3 (cDrw 19 (
      dSeq (dLook 0 [] (oMv g007 s017)) <|
      dSeq (dLook 0 [] (oMv g000 s020)) <|
      dSeq (dLook 0 [] (oMv g010 s021)) <|
      dSeq (dLook 0 [] (oP (vIdx 3 g020 g021) s022)) <|
      dSeq (dLook 0 [] (oLoadN 3 g022 s023)) <|
      dSeq (dLook 0 [] (oMv g000 s024)) <|
      dSeq (dLook 0 [] (oMv g002 s025)) <|
      dSeq (dLook 0 [] (oP (vIdx 3 g024 g025) s026)) <|
      dSeq (dLook 0 [] (oLoadN 3 g026 s027)) <|
      dSeq (dLook 0 [] (oMv g001 s030)) <|
      dSeq (dLook 0 [] (oMv g010 s031)) <|
      dSeq (dLook 0 [] (oP (vIdx 3 g030 g031) s032)) <|
      dSeq (dLook 0 [] (oLoadN 3 g032 s033)) <|
      dSeq (dAct 0 [] (oCallF 188 (fun T => [g027 T, g033 T]) s034)) <|
      dSeq (dAct 0 [] (oCallF 144 (fun T => [g034 T]) s035)) <|
      dSeq (dAct 0 [] (oCallF 187 (fun T => [g023 T, g035 T]) s036)) <|
      dSeq (dMake 16 (oBuildSlice 183 3 [(.bool false), .nilSl, .nilSl] 1 [((0, 3), g036)] 16 s037)) <|
      dSeq (dAct 0 [(16, 0)] (oGen (.append 3 56 183 [(.bool false), .nilSl, .nilSl] (.t 15) (.t 31)) 17 s040)) <|
      dSeq (dLook 0 [] (oMv g040 s007)) <|
      dNop)
      (ckSeq (ckOne g023 3 [] (oLoadN 3 g022 s023)) <|
     ckSeq (ckOne g023 2 [] (oLoadN 3 g022 s023)) <|
     ckNop) [])) <|
    cReg 3 (
     oSeq (oMv g010 s015) <|
     oSeq (oP (vAdd g015 (kc (.int .i64 1))) s016) <|
     oMv g016 s010)))) <|
  cSeq (cReg 2 (
   oSeq (oMv g007 s041) <|
   oMv g041 s006)) <|
  cExit 0⟩
noncomputable def ffn188 : FFn := ⟨2, 16, [(4, (some (some 3)))],
  cSeq (cReg 3 (
   oSeq (oBox 183 g000 0 s002) <|
   oSeq (oBox 183 g001 1 s003) <|
   oAlloc 183 [(.bool false), .nilSl, .nilSl] 2 s004)) <|
  cSeq (cDrw 12 (
   dSeq (dLook 0 [] (oP (vFA 0 g002) s005)) <|
   dSeq (dLook 0 [] (oLoadN 2 g005 s006)) <|
   dSeq (dLook 0 [] (oP (vFA 0 g003) s007)) <|
   dSeq (dLook 0 [] (oLoadN 2 g007 s010)) <|
   dSeq (dAct 0 [] (oCallF 151 (fun T => [g006 T, g010 T]) s011)) <|
   dSeq (dLook 0 [] (oP (vFA 2 g002) s012)) <|
   dSeq (dLook 1 [] (oLoad g012 s013)) <|
   dSeq (dLook 0 [] (oP (vFA 2 g003) s014)) <|
   dSeq (dLook 1 [] (oLoad g014 s015)) <|
   dSeq (dAct 0 [] (oCallF 171 (fun T => [g013 T, g015 T]) s016)) <|
   dSeq (dAct 0 [] (oCallF 143 (fun T => [g011 T, g016 T]) s017)) <|
   dSeq (dAct 0 [] (oStoreN 3 g004 g017 noPut)) <|
   dNop)
   (ckSeq (ckOne g013 3 [] (oLoad g012 s013)) <|
  ckSeq (ckOne g015 3 [] (oLoad g014 s015)) <|
  ckNop) []) <|
  cExit 0⟩
noncomputable def ffn144 : FFn := ⟨1, 9, [(2, (some (some 3)))],
  cSeq (cReg 2 (
   oSeq (oBox 183 g000 0 s001) <|
   oAlloc 183 [(.bool false), .nilSl, .nilSl] 1 s002)) <|
  cSeq (cDrw 7 (
   dSeq (dLook 0 [] (oP (vFA 0 g001) s003)) <|
   dSeq (dLook 0 [] (oLoadN 2 g003 s004)) <|
   dSeq (dAct 0 [] (oCallF 170 (fun T => [g004 T]) s005)) <|
   dSeq (dLook 0 [] (oP (vFA 2 g001) s006)) <|
   dSeq (dLook 1 [] (oLoad g006 s007)) <|
   dSeq (dLook 0 [] (oP (vBuild [(.bool false), .nilSl, .nilSl] [((0, 2), g005), ((2, 1), g007)]) s010)) <|
   dSeq (dAct 0 [] (oStoreN 3 g002 g010 noPut)) <|
   dNop)
   (ckSeq (ckOne g007 1 [] (oLoad g006 s007)) <|
  ckNop) []) <|
  cExit 0⟩
noncomputable def ffn187 : FFn := ⟨2, 22, [(4, (some (some 3)))],
  cSeq (cReg 3 (
   oSeq (oBox 183 g000 0 s002) <|
   oSeq (oBox 183 g001 1 s003) <|
   oAlloc 183 [(.bool false), .nilSl, .nilSl] 2 s004)) <|
  cSeq (cDrw 18 (
   dSeq (dLook 0 [] (oP (vFA 0 g002) s005)) <|
   dSeq (dLook 0 [] (oLoadN 2 g005 s006)) <|
   dSeq (dLook 0 [] (oP (vFA 2 g003) s007)) <|
   dSeq (dLook 0 [] (oLoad g007 s010)) <|
   dSeq (dAct 0 [] (oCallF 186 (fun T => [g006 T, g010 T]) s011)) <|
   dSeq (dLook 0 [] (oP (vFA 0 g003) s012)) <|
   dSeq (dLook 1 [] (oLoadN 2 g012 s013)) <|
   dSeq (dLook 0 [] (oP (vFA 2 g002) s014)) <|
   dSeq (dLook 1 [] (oLoad g014 s015)) <|
   dSeq (dAct 0 [] (oCallF 186 (fun T => [g013 T, g015 T]) s016)) <|
   dSeq (dAct 0 [] (oCallF 150 (fun T => [g011 T, g016 T]) s017)) <|
   dSeq (dLook 0 [] (oP (vFA 2 g002) s020)) <|
   dSeq (dLook 3 [] (oLoad g020 s021)) <|
   dSeq (dLook 0 [] (oP (vFA 2 g003) s022)) <|
   dSeq (dLook 3 [] (oLoad g022 s023)) <|
   dSeq (dAct 0 [] (oCallF 171 (fun T => [g021 T, g023 T]) s024)) <|
   dSeq (dAct 0 [] (oCallF 143 (fun T => [g017 T, g024 T]) s025)) <|
   dSeq (dAct 0 [] (oStoreN 3 g004 g025 noPut)) <|
   dNop)
   (ckSeq (ckOne g013 5 [] (oLoadN 2 g012 s013)) <|
  ckSeq (ckOne g015 5 [] (oLoad g014 s015)) <|
  ckSeq (ckOne g021 5 [] (oLoad g020 s021)) <|
  ckSeq (ckOne g021 4 [] (oLoad g020 s021)) <|
  ckSeq (ckOne g021 3 [] (oLoad g020 s021)) <|
  ckSeq (ckOne g023 5 [] (oLoad g022 s023)) <|
  ckSeq (ckOne g023 4 [] (oLoad g022 s023)) <|
  ckSeq (ckOne g023 3 [] (oLoad g022 s023)) <|
  ckNop) []) <|
  cExit 0⟩
noncomputable def ffn150 : FFn := ⟨2, 44, [(4, (some (some 2)))],
  cSeq (cReg 3 (
   oSeq (oBox 40 g000 0 s002) <|
   oSeq (oBox 40 g001 1 s003) <|
   oAlloc 40 [(.bool false), .nilSl] 2 s004)) <|
  cSeq (cSeq (cReg 5 (
   oSeq (oP (vFA 0 g002) s005) <|
   oSeq (oLoad g005 s006) <|
   oSeq (oP (vFA 0 g003) s007) <|
   oSeq (oLoad g007 s010) <|
   oGen (.bin .eql .bool (.t 6) (.t 8)) 4 s011)) <|
  cCond g011
   (cSeq (cDrw 9 (
    dSeq (dLook 0 [] (oP (vFA 0 g002) s012)) <|
    dSeq (dLook 0 [] (oLoad g012 s013)) <|
    dSeq (dLook 0 [] (oP (vFA 1 g002) s014)) <|
    dSeq (dLook 0 [] (oLoad g014 s015)) <|
    dSeq (dLook 0 [] (oP (vFA 1 g003) s016)) <|
    dSeq (dLook 0 [] (oLoad g016 s017)) <|
    dSeq (dAct 0 [] (oCallF 174 (fun T => [g015 T, g017 T]) s020)) <|
    dSeq (dLook 0 [] (oP (vBuild [(.bool false), .nilSl] [((0, 1), g013), ((1, 1), g020)]) s021)) <|
    dSeq (dAct 0 [] (oStoreN 2 g004 g021 noPut)) <|
    dNop)
    (ckSeq (ckOne g013 1 [] (oLoad g012 s013)) <|
   ckNop) []) <|
   cExit 0)
   (cSkip)) <|
  cSeq (cSeq (cReg 5 (
   oSeq (oP (vFA 1 g002) s022) <|
   oSeq (oLoad g022 s023) <|
   oSeq (oP (vFA 1 g003) s024) <|
   oSeq (oLoad g024 s025) <|
   oCallF 175 (fun T => [g023 T, g025 T]) s026)) <|
  cBlock 1 (cSeq (cReg 2 (
    oSeq (oP (vEql g026 (kc (.int .i64 0))) s030) <|
    oMv g030 s027)) <|
   cCond g027
    (cSeq (cReg 2 (
     oSeq (oP (vBuild [(.bool false), .nilSl] []) s031) <|
     oStoreN 2 g004 g031 noPut)) <|
    cExit 0)
    (cSeq (cReg 2 (
     oSeq (oP (vEql g026 (kc (.int .i64 1))) s033) <|
     oMv g033 s032)) <|
    cCond g032
     (cSeq (cDrw 9 (
      dSeq (dLook 0 [] (oP (vFA 0 g002) s034)) <|
      dSeq (dLook 0 [] (oLoad g034 s035)) <|
      dSeq (dLook 0 [] (oP (vFA 1 g002) s036)) <|
      dSeq (dLook 0 [] (oLoad g036 s037)) <|
      dSeq (dLook 0 [] (oP (vFA 1 g003) s040)) <|
      dSeq (dLook 0 [] (oLoad g040 s041)) <|
      dSeq (dAct 0 [] (oCallF 176 (fun T => [g037 T, g041 T]) s042)) <|
      dSeq (dLook 0 [] (oP (vBuild [(.bool false), .nilSl] [((0, 1), g035), ((1, 1), g042)]) s043)) <|
      dSeq (dAct 0 [] (oStoreN 2 g004 g043 noPut)) <|
      dNop)
      (ckSeq (ckOne g035 1 [] (oLoad g034 s035)) <|
     ckNop) []) <|
     cExit 0)
     (cSkip)))) <|
  cSeq (cDrw 9 (
   dSeq (dLook 0 [] (oP (vFA 0 g003) s044)) <|
   dSeq (dLook 0 [] (oLoad g044 s045)) <|
   dSeq (dLook 0 [] (oP (vFA 1 g003) s046)) <|
   dSeq (dLook 0 [] (oLoad g046 s047)) <|
   dSeq (dLook 0 [] (oP (vFA 1 g002) s050)) <|
   dSeq (dLook 0 [] (oLoad g050 s051)) <|
   dSeq (dAct 0 [] (oCallF 176 (fun T => [g047 T, g051 T]) s052)) <|
   dSeq (dLook 0 [] (oP (vBuild [(.bool false), .nilSl] [((0, 1), g045), ((1, 1), g052)]) s053)) <|
   dSeq (dAct 0 [] (oStoreN 2 g004 g053 noPut)) <|
   dNop)
   (ckSeq (ckOne g045 1 [] (oLoad g044 s045)) <|
  ckNop) []) <|
  cExit 0⟩
noncomputable def ffn142 : FFn := ⟨2, 18, [(4, none)],
  cSeq (cReg 1 (
   oMv (kc (.bool false)) s004)) <|
  cSeq (cSeq (cReg 1 (
   oMv (kc (.int .i64 0)) s005)) <|
  cBlock 1 (cLoop 1000000 (cSeq (cSeq (cReg 4 (
     oSeq (oMv g005 s006) <|
     oSeq (oMv g000 s007) <|
     oSeq (oP (vLen g007) s010) <|
     oP (vLss g006 g010) s011)) <|
    cCond g011
     (cSkip)
     (cExit 1)) <|
    cSeq (cBlock 3 (cSeq (cReg 6 (
      oSeq (oMv g000 s014) <|
      oSeq (oMv g005 s015) <|
      oSeq (oP (vIdx 1 g014 g015) s016) <|
      oSeq (oLoad g016 s017) <|
      oSeq (oMv g001 s020) <|
      oP (vEql g017 g020) s021)) <|
     cCond g021
      (cSeq (cReg 1 (
       oMv (kc (.bool true)) s004)) <|
      cExit 0)
      (cSkip))) <|
    cReg 3 (
     oSeq (oMv g005 s012) <|
     oSeq (oP (vAdd g012 (kc (.int .i64 1))) s013) <|
     oMv g013 s005)))) <|
  cSeq (cReg 1 (
   oMv (kc (.bool false)) s004)) <|
  cExit 0⟩
noncomputable def ffn145 : FFn := ⟨1, 66, [(2, none)],
  cSeq (cReg 1 (
   oMv (kc .nilSl) s002)) <|
  cSeq (cReg 2 (
   oSeq (oBuildSlice 52 1 [(.int .u64 0)] 1 [((0, 1), (kc (.int .u64 1)))] 0 s013) <|
   oMv g013 s003)) <|
  cSeq (cSeq (cReg 1 (
   oMv (kc (.int .i64 0)) s004)) <|
  cBlock 1 (cLoop 1000000 (cSeq (cSeq (cReg 4 (
     oSeq (oMv g004 s014) <|
     oSeq (oMv g000 s015) <|
     oSeq (oP (vLen g015) s016) <|
     oP (vLss g014 g016) s017)) <|
    cCond g017
     (cSkip)
     (cExit 1)) <|
    cSeq (cBlock 3 (cSeq (cDrw 20 (
      dSeq (dLook 0 [] (oMv g003 s023)) <|
      dSeq (dLook 0 [] (oMv g000 s024)) <|
      dSeq (dLook 0 [] (oMv g004 s025)) <|
      dSeq (dLook 0 [] (oP (vIdx 3 g024 g025) s026)) <|
      dSeq (dLook 0 [] (oP (vFA 2 g026) s027)) <|
      dSeq (dLook 0 [] (oLoad g027 s030)) <|
      dSeq (dAct 0 [] (oCallF 171 (fun T => [g023 T, g030 T]) s031)) <|
      dSeq (dLook 0 [] (oMv g003 s032)) <|
      dSeq (dLook 0 [] (oMv g000 s033)) <|
      dSeq (dLook 0 [] (oMv g004 s034)) <|
      dSeq (dLook 0 [] (oP (vIdx 3 g033 g034) s035)) <|
      dSeq (dLook 0 [] (oP (vFA 2 g035) s036)) <|
      dSeq (dLook 1 [] (oLoad g036 s037)) <|
      dSeq (dAct 0 [] (oCallF 168 (fun T => [g032 T, g037 T]) s040)) <|
      dSeq (dAct 0 [] (oCallF 169 (fun T => [g031 T, g040 T]) s041)) <|
      dSeq (dLook 0 [] (oMv g041 s022)) <|
      dSeq (dLook 0 [] (oP (vExt 0 g022) s042)) <|
      dSeq (dLook 0 [] (oP (vExt 1 g022) s043)) <|
      dSeq (dLook 0 [] (oMv g042 s005)) <|
      dSeq (dLook 0 [] (oMv g043 s006)) <|
      dNop)
      (ckSeq (ckOne g037 2 [] (oLoad g036 s037)) <|
     ckNop) []) <|
     cReg 2 (
      oSeq (oMv g005 s044) <|
      oMv g044 s003))) <|
    cReg 3 (
     oSeq (oMv g004 s020) <|
     oSeq (oP (vAdd g020 (kc (.int .i64 1))) s021) <|
     oMv g021 s004)))) <|
  cSeq (cReg 1 (
   oMv (kc .nilSl) s007)) <|
  cSeq (cSeq (cReg 1 (
   oMv (kc (.int .i64 0)) s010)) <|
  cBlock 5 (cLoop 1000000 (cSeq (cSeq (cReg 4 (
     oSeq (oMv g010 s045) <|
     oSeq (oMv g000 s046) <|
     oSeq (oP (vLen g046) s047) <|
     oP (vLss g045 g047) s050)) <|
    cCond g050
     (cSkip)
     (cExit 5)) <|
    cSeq (cBlock 7 (cSeq (cReg 12 (
      oSeq (oMv g003 s054) <|
      oSeq (oMv g000 s055) <|
      oSeq (oMv g010 s056) <|
      oSeq (oP (vIdx 3 g055 g056) s057) <|
      oSeq (oP (vFA 2 g057) s060) <|
      oSeq (oLoad g060 s061) <|
      oSeq (oCallF 169 (fun T => [g054 T, g061 T]) s062) <|
      oSeq (oMv g062 s053) <|
      oSeq (oP (vExt 0 g053) s063) <|
      oSeq (oP (vExt 1 g053) s064) <|
      oSeq (oMv g063 s011) <|
      oMv g064 s012)) <|
     cReg 12 (
      oSeq (oMv g007 s065) <|
      oSeq (oMv g000 s066) <|
      oSeq (oMv g010 s067) <|
      oSeq (oP (vIdx 3 g066 g067) s070) <|
      oSeq (oP (vFA 0 g070) s071) <|
      oSeq (oLoadN 2 g071 s072) <|
      oSeq (oMv g011 s073) <|
      oSeq (oP (vBuild [(.bool false), .nilSl] [((1, 1), g073)]) s074) <|
      oSeq (oCallF 151 (fun T => [g072 T, g074 T]) s075) <|
      oSeq (oBuildSlice 40 2 [(.bool false), .nilSl] 1 [((0, 2), g075)] 9 s076) <|
      oSeq (oGen (.append 2 32 40 [(.bool false), .nilSl] (.t 53) (.t 62)) 10 s077) <|
      oMv g077 s007))) <|
    cReg 3 (
     oSeq (oMv g010 s051) <|
     oSeq (oP (vAdd g051 (kc (.int .i64 1))) s052) <|
     oMv g052 s010)))) <|
  cSeq (cReg 3 (
   oSeq (oMv g007 s100) <|
   oSeq (oCallF 172 (fun T => [g100 T]) s101) <|
   oMv g101 s002)) <|
  cExit 0⟩
noncomputable def ffn172 : FFn := ⟨1, 42, [(2, none)],
  cSeq (cReg 1 (
   oMv (kc .nilSl) s002)) <|
  cSeq (cReg 3 (
   oSeq (oMv g000 s010) <|
   oSeq (oCallF 196 (fun T => [g010 T]) s011) <|
   oMv g011 s003)) <|
  cSeq (cSeq (cReg 3 (
   oSeq (oMv g003 s012) <|
   oSeq (oP (vLen g012) s013) <|
   oP (vEql g013 (kc (.int .i64 0))) s014)) <|
  cCond g014
   (cSeq (cReg 3 (
    oSeq (oMv g000 s015) <|
    oSeq (oCallF 197 (fun T => [g015 T]) s016) <|
    oMv g016 s002)) <|
   cExit 0)
   (cSkip)) <|
  cSeq (cReg 1 (
   oMv (kc .nilSl) s004)) <|
  cSeq (cSeq (cReg 1 (
   oMv (kc (.int .i64 0)) s005)) <|
  cBlock 1 (cLoop 1000000 (cSeq (cSeq (cReg 4 (
     oSeq (oMv g005 s017) <|
     oSeq (oMv g000 s020) <|
     oSeq (oP (vLen g020) s021) <|
     oP (vLss g017 g021) s022)) <|
    cCond g022
     (cSkip)
     (cExit 1)) <|
    cSeq (cBlock 3 (cSeq (cReg 12 (
      oSeq (oMv g000 s026) <|
      oSeq (oMv g005 s027) <|
      oSeq (oP (vIdx 2 g026 g027) s030) <|
      oSeq (oP (vFA 1 g030) s031) <|
      oSeq (oLoad g031 s032) <|
      oSeq (oMv g003 s033) <|
      oSeq (oCallF 169 (fun T => [g032 T, g033 T]) s034) <|
      oSeq (oMv g034 s025) <|
      oSeq (oP (vExt 0 g025) s035) <|
      oSeq (oP (vExt 1 g025) s036) <|
      oSeq (oMv g035 s006) <|
      oMv g036 s007)) <|
     cReg 11 (
      oSeq (oMv g004 s037) <|
      oSeq (oMv g000 s040) <|
      oSeq (oMv g005 s041) <|
      oSeq (oP (vIdx 2 g040 g041) s042) <|
      oSeq (oP (vFA 0 g042) s043) <|
      oSeq (oLoad g043 s044) <|
      oSeq (oMv g006 s045) <|
      oSeq (oP (vBuild [(.bool false), .nilSl] [((0, 1), g044), ((1, 1), g045)]) s046) <|
      oSeq (oBuildSlice 40 2 [(.bool false), .nilSl] 1 [((0, 2), g046)] 8 s047) <|
      oSeq (oGen (.append 2 32 40 [(.bool false), .nilSl] (.t 31) (.t 39)) 9 s050) <|
      oMv g050 s004))) <|
    cReg 3 (
     oSeq (oMv g005 s023) <|
     oSeq (oP (vAdd g023 (kc (.int .i64 1))) s024) <|
     oMv g024 s005)))) <|
  cSeq (cReg 2 (
   oSeq (oMv g004 s051) <|
   oMv g051 s002)) <|
  cExit 0⟩
noncomputable def ffn196 : FFn := ⟨1, 19, [(2, none)],
  cSeq (cReg 1 (
   oMv (kc .nilSl) s002)) <|
  cSeq (cReg 1 (
   oMv (kc .nilSl) s003)) <|
  cSeq (cSeq (cReg 1 (
   oMv (kc (.int .i64 0)) s004)) <|
  cBlock 1 (cLoop 1000000 (cSeq (cSeq (cReg 4 (
     oSeq (oMv g004 s005) <|
     oSeq (oMv g000 s006) <|
     oSeq (oP (vLen g006) s007) <|
     oP (vLss g005 g007) s010)) <|
    cCond g010
     (cSkip)
     (cExit 1)) <|
    cSeq (cBlock 3 (cReg 8 (
      oSeq (oMv g003 s013) <|
      oSeq (oMv g000 s014) <|
      oSeq (oMv g004 s015) <|
      oSeq (oP (vIdx 2 g014 g015) s016) <|
      oSeq (oP (vFA 1 g016) s017) <|
      oSeq (oLoad g017 s020) <|
      oSeq (oCallF 168 (fun T => [g013 T, g020 T]) s021) <|
      oMv g021 s003))) <|
    cReg 3 (
     oSeq (oMv g004 s011) <|
     oSeq (oP (vAdd g011 (kc (.int .i64 1))) s012) <|
     oMv g012 s004)))) <|
  cSeq (cReg 2 (
   oSeq (oMv g003 s022) <|
   oMv g022 s002)) <|
  cExit 0⟩
noncomputable def ffn197 : FFn := ⟨1, 27, [(2, none)],
  cSeq (cReg 1 (
   oMv (kc .nilSl) s002)) <|
  cSeq (cReg 1 (
   oMv (kc .nilSl) s003)) <|
  cSeq (cSeq (cReg 1 (
   oMv (kc (.int .i64 0)) s004)) <|
  cBlock 1 (cLoop 1000000 (cSeq (cSeq (cReg 4 (
     oSeq (oMv g004 s005) <|
     oSeq (oMv g000 s006) <|
     oSeq (oP (vLen g006) s007) <|
     oP (vLss g005 g007) s010)) <|
    cCond g010
     (cSkip)
     (cExit 1)) <|
    cSeq (cBlock 3 (cDrw 16 (
      dSeq (dLook 0 [] (oMv g003 s013)) <|
      dSeq (dLook 0 [] (oMv g000 s014)) <|
      dSeq (dLook 0 [] (oMv g004 s015)) <|
      dSeq (dLook 0 [] (oP (vIdx 2 g014 g015) s016)) <|
      dSeq (dLook 0 [] (oP (vFA 0 g016) s017)) <|
      dSeq (dLook 0 [] (oLoad g017 s020)) <|
      dSeq (dLook 0 [] (oMv g000 s021)) <|
      dSeq (dLook 0 [] (oMv g004 s022)) <|
      dSeq (dLook 0 [] (oP (vIdx 2 g021 g022) s023)) <|
      dSeq (dLook 0 [] (oP (vFA 1 g023) s024)) <|
      dSeq (dLook 0 [] (oLoad g024 s025)) <|
      dSeq (dAct 0 [] (oGen (.append 1 8 52 [(.int .u64 0)] (.c .nilSl) (.t 21)) 11 s026)) <|
      dSeq (dLook 0 [] (oP (vBuild [(.bool false), .nilSl] [((0, 1), g020), ((1, 1), g026)]) s027)) <|
      dSeq (dMake 13 (oBuildSlice 40 2 [(.bool false), .nilSl] 1 [((0, 2), g027)] 13 s030)) <|
      dSeq (dAct 0 [(13, 0)] (oGen (.append 2 32 40 [(.bool false), .nilSl] (.t 11) (.t 24)) 14 s031)) <|
      dSeq (dLook 0 [] (oMv g031 s003)) <|
      dNop)
      (ckSeq (ckOne g020 1 [] (oLoad g017 s020)) <|
     ckNop) [])) <|
    cReg 3 (
     oSeq (oMv g004 s011) <|
     oSeq (oP (vAdd g011 (kc (.int .i64 1))) s012) <|
     oMv g012 s004)))) <|
  cSeq (cReg 2 (
   oSeq (oMv g003 s032) <|
   oMv g032 s002)) <|
  cExit 0⟩
noncomputable def ffn115 : FFn := ⟨1, 27, [(2, none)],
  cSeq (cReg 1 (
   oMv (kc .nilSl) s002)) <|
  cSeq (cReg 7 (
   oSeq (oMv g000 s010) <|
   oSeq (oCallF 141 (fun T => [g010 T]) s011) <|
   oSeq (oMv g011 s007) <|
   oSeq (oP (vExt 0 g007) s012) <|
   oSeq (oP (vExt 1 g007) s013) <|
   oSeq (oMv g012 s003) <|
   oMv g013 s004)) <|
  cSeq (cReg 1 (
   oMv (kc .nilSl) s005)) <|
  cSeq (cSeq (cReg 1 (
   oMv (kc (.int .i64 0)) s006)) <|
  cBlock 1 (cLoop 1000000 (cSeq (cSeq (cReg 4 (
     oSeq (oMv g006 s014) <|
     oSeq (oMv g003 s015) <|
     oSeq (oP (vLen g015) s016) <|
     oP (vLss g014 g016) s017)) <|
    cCond g017
     (cSkip)
     (cExit 1)) <|
    cSeq (cBlock 3 (cReg 9 (
      oSeq (oMv g005 s022) <|
      oSeq (oMv g003 s023) <|
      oSeq (oMv g006 s024) <|
      oSeq (oP (vIdx 1 g023 g024) s025) <|
      oSeq (oLoad g025 s026) <|
      oSeq (oCallF 145 (fun T => [g026 T]) s027) <|
      oSeq (oBuildSlice 36 1 [.nilSl] 1 [((0, 1), g027)] 6 s030) <|
      oSeq (oGen (.append 1 24 36 [.nilSl] (.t 18) (.t 24)) 7 s031) <|
      oMv g031 s005))) <|
    cReg 3 (
     oSeq (oMv g006 s020) <|
     oSeq (oP (vAdd g020 (kc (.int .i64 1))) s021) <|
     oMv g021 s006)))) <|
  cSeq (cReg 2 (
   oSeq (oMv g005 s032) <|
   oMv g032 s002)) <|
  cExit 0⟩
noncomputable def ffn84 : FFn := ⟨4, 96, [(8, none)],
  cSeq (cReg 1 (
   oMv (kc .nilSl) s010)) <|
  cSeq (cReg 10 (
   oSeq (oMv g000 s023) <|
   oSeq (oMv g003 s024) <|
   oSeq (oP (vLen g024) s025) <|
   oSeq (oP (vSub g023 g025) s026) <|
   oSeq (oP (vSub g026 (kc (.int .i64 1))) s027) <|
   oSeq (oMv g001 s030) <|
   oSeq (oCallF 115 (fun T => [g030 T]) s031) <|
   oSeq (oP (vLen g031) s032) <|
   oSeq (oP (vSub g027 g032) s033) <|
   oMv g033 s011)) <|
  cSeq (cSeq (cReg 8 (
   oSeq (oMv g011 s034) <|
   oSeq (oP (vLss g034 (kc (.int .i64 0))) s035) <|
   oSeq (oMv g035 s036) <|
   oSeq (oGuard g036 false s037 (oMv g011 s037)) <|
   oSeq (oGuard g036 false s040 (oMv g002 s040)) <|
   oSeq (oGuard g036 false s041 (oP (vLen g040) s041)) <|
   oSeq (oGuard g036 false s042 (oP (vGtr g037 g041) s042)) <|
   oP (vPick g036 (kc (.bool true)) g042) s043)) <|
  cCond g043
   (cSeq (cReg 1 (
    oMv (kc .nilSl) s010)) <|
   cExit 0)
   (cSkip)) <|
  cSeq (cReg 1 (
   oMv (kc .nilSl) s012)) <|
  cSeq (cSeq (cReg 1 (
   oMv (kc (.int .i64 0)) s013)) <|
  cBlock 1 (cLoop 1000000 (cSeq (cSeq (cReg 3 (
     oSeq (oMv g013 s044) <|
     oSeq (oMv g011 s045) <|
     oP (vLss g044 g045) s046)) <|
    cCond g046
     (cSkip)
     (cExit 1)) <|
    cSeq (cBlock 3 (cReg 5 (
      oSeq (oMv g012 s051) <|
      oSeq (oMv g013 s052) <|
      oSeq (oBuildSlice 3 1 [(.int .i64 0)] 1 [((0, 1), g052)] 2 s053) <|
      oSeq (oGen (.append 1 8 3 [(.int .i64 0)] (.t 41) (.t 43)) 3 s054) <|
      oMv g054 s012))) <|
    cReg 3 (
     oSeq (oMv g013 s047) <|
     oSeq (oP (vAdd g047 (kc (.int .i64 1))) s050) <|
     oMv g050 s013)))) <|
  cSeq (cReg 1 (
   oMv (kc .nilSl) s014)) <|
  cSeq (cSeq (cReg 1 (
   oMv (kc (.bool true)) s015)) <|
  cBlock 5 (cLoop 1000000 (cSeq (cSeq (cReg 1 (
     oMv g015 s055)) <|
    cCond g055
     (cSkip)
     (cExit 5)) <|
    cSeq (cBlock 7 (cSeq (cReg 3 (
      oSeq (oMv g001 s062) <|
      oSeq (oCallF 114 (fun T => [g062 T, .nilSl]) s063) <|
      oMv g063 s016)) <|
     cSeq (cSeq (cReg 1 (
      oMv (kc (.int .i64 0)) s017)) <|
     cBlock 9 (cLoop 1000000 (cSeq (cSeq (cReg 3 (
        oSeq (oMv g017 s064) <|
        oSeq (oMv g011 s065) <|
        oP (vLss g064 g065) s066)) <|
       cCond g066
        (cSkip)
        (cExit 9)) <|
       cSeq (cBlock 11 (cReg 11 (
         oSeq (oMv g016 s071) <|
         oSeq (oMv g002 s072) <|
         oSeq (oMv g012 s073) <|
         oSeq (oMv g017 s074) <|
         oSeq (oP (vIdx 1 g073 g074) s075) <|
         oSeq (oLoad g075 s076) <|
         oSeq (oP (vIdx 1 g072 g076) s077) <|
         oSeq (oLoad g077 s100) <|
         oSeq (oBuildSlice 36 1 [.nilSl] 1 [((0, 1), g100)] 8 s101) <|
         oSeq (oGen (.append 1 24 36 [.nilSl] (.t 57) (.t 65)) 9 s102) <|
         oMv g102 s016))) <|
       cReg 3 (
        oSeq (oMv g017 s067) <|
        oSeq (oP (vAdd g067 (kc (.int .i64 1))) s070) <|
        oMv g070 s017)))) <|
     cSeq (cReg 9 (
      oSeq (oMv g000 s104) <|
      oSeq (oMv g016 s105) <|
      oSeq (oMv g003 s106) <|
      oSeq (oCallF 117 (fun T => [g104 T, g105 T, g106 T]) s107) <|
      oSeq (oMv g107 s103) <|
      oSeq (oP (vExt 0 g103) s110) <|
      oSeq (oP (vExt 1 g103) s111) <|
      oSeq (oMv g110 s020) <|
      oMv g111 s021)) <|
     cSeq (cSeq (cReg 2 (
      oSeq (oMv g021 s112) <|
      oGen (.un .not (.t 74)) 1 s113)) <|
     cCond g113
      (cExit 7)
      (cSkip)) <|
     cSeq (cSeq (cReg 4 (
      oSeq (oMv g020 s114) <|
      oSeq (oMv g001 s115) <|
      oSeq (oMv g002 s116) <|
      oCallF 118 (fun T => [g114 T, g115 T, g116 T]) s117)) <|
     cCond g117
      (cReg 4 (
       oSeq (oMv g014 s120) <|
       oSeq (oMv g020 s121) <|
       oSeq (oCallF 119 (fun T => [g120 T, g121 T]) s122) <|
       oMv g122 s014))
      (cSkip)) <|
     cSeq (cReg 6 (
      oSeq (oCallF 38 (fun _ => [(.int .i64 (-1))]) s123) <|
      oSeq (oMv g020 s124) <|
      oSeq (oP (vBuild [(.bool false), .nilSl] []) s125) <|
      oSeq (oMv g020 s126) <|
      oSeq (oCallF 120 (fun T => [g123 T, g124 T, g125 T, g126 T]) s127) <|
      oMv g127 s022)) <|
     cSeq (cReg 4 (
      oSeq (oMv g022 s130) <|
      oSeq (oMv g001 s131) <|
      oSeq (oMv g002 s132) <|
      oCallF 118 (fun T => [g130 T, g131 T, g132 T]) s133)) <|
     cCond g133
      (cReg 4 (
       oSeq (oMv g014 s134) <|
       oSeq (oMv g022 s135) <|
       oSeq (oCallF 119 (fun T => [g134 T, g135 T]) s136) <|
       oMv g136 s014))
      (cSkip))) <|
    cReg 5 (
     oSeq (oMv g012 s056) <|
     oSeq (oMv g002 s057) <|
     oSeq (oP (vLen g057) s060) <|
     oSeq (oCallF 116 (fun T => [g056 T, g060 T]) s061) <|
     oMv g061 s015)))) <|
  cSeq (cReg 2 (
   oSeq (oMv g014 s137) <|
   oMv g137 s010)) <|
  cExit 0⟩
noncomputable def ffn117 : FFn := ⟨3, 36, [(6, none), (7, none)],
  cSeq (cReg 2 (
   oSeq (oMv (kc .nilSl) s006) <|
   oMv (kc (.bool false)) s007)) <|
  cSeq (cReg 4 (
   oSeq (oMv g000 s013) <|
   oSeq (oMv g001 s014) <|
   oSeq (oCallF 113 (fun T => [g013 T, g014 T]) s015) <|
   oMv g015 s010)) <|
  cSeq (cSeq (cReg 6 (
   oSeq (oMv g010 s016) <|
   oSeq (oP (vLen g016) s017) <|
   oSeq (oMv g002 s020) <|
   oSeq (oP (vLen g020) s021) <|
   oSeq (oP (vAdd g021 (kc (.int .i64 1))) s022) <|
   oP (vNeq g017 g022) s023)) <|
  cCond g023
   (cSeq (cReg 2 (
    oSeq (oMv (kc .nilSl) s006) <|
    oMv (kc (.bool false)) s007)) <|
   cExit 0)
   (cSkip)) <|
  cSeq (cSeq (cReg 1 (
   oMv (kc (.int .i64 0)) s011)) <|
  cBlock 1 (cLoop 1000000 (cSeq (cSeq (cReg 4 (
     oSeq (oMv g011 s024) <|
     oSeq (oMv g010 s025) <|
     oSeq (oP (vLen g025) s026) <|
     oP (vLss g024 g026) s027)) <|
    cCond g027
     (cSkip)
     (cExit 1)) <|
    cSeq (cBlock 3 (cSeq (cReg 7 (
      oSeq (oMv g010 s032) <|
      oSeq (oMv g011 s033) <|
      oSeq (oP (vIdx 1 g032 g033) s034) <|
      oSeq (oLoad g034 s035) <|
      oSeq (oMv g002 s036) <|
      oSeq (oCallF 146 (fun T => [g035 T, g036 T]) s037) <|
      oMv g037 s012)) <|
     cSeq (cReg 3 (
      oSeq (oMv g012 s040) <|
      oSeq (oCallF 147 (fun T => [g040 T]) s041) <|
      oGen (.un .not (.t 33)) 2 s042)) <|
     cCond g042
      (cSeq (cReg 3 (
       oSeq (oMv g012 s043) <|
       oSeq (oMv g043 s006) <|
       oMv (kc (.bool true)) s007)) <|
      cExit 0)
      (cSkip))) <|
    cReg 3 (
     oSeq (oMv g011 s030) <|
     oSeq (oP (vAdd g030 (kc (.int .i64 1))) s031) <|
     oMv g031 s011)))) <|
  cSeq (cReg 2 (
   oSeq (oMv (kc .nilSl) s006) <|
   oMv (kc (.bool false)) s007)) <|
  cExit 0⟩
noncomputable def ffn146 : FFn := ⟨2, 34, [(4, none)],
  cSeq (cReg 1 (
   oMv (kc .nilSl) s004)) <|
  cSeq (cReg 7 (
   oSeq (oMv g001 s012) <|
   oSeq (oCallF 141 (fun T => [g012 T]) s013) <|
   oSeq (oMv g013 s011) <|
   oSeq (oP (vExt 0 g011) s014) <|
   oSeq (oP (vExt 1 g011) s015) <|
   oSeq (oMv g014 s005) <|
   oMv g015 s006)) <|
  cSeq (cReg 3 (
   oSeq (oMv g000 s016) <|
   oSeq (oCallF 163 (fun T => [g016 T]) s017) <|
   oMv g017 s007)) <|
  cSeq (cSeq (cReg 1 (
   oMv (kc (.int .i64 0)) s010)) <|
  cBlock 1 (cLoop 1000000 (cSeq (cSeq (cReg 4 (
     oSeq (oMv g010 s020) <|
     oSeq (oMv g005 s021) <|
     oSeq (oP (vLen g021) s022) <|
     oP (vLss g020 g022) s023)) <|
    cCond g023
     (cSkip)
     (cExit 1)) <|
    cSeq (cBlock 3 (cDrw 11 (
      dSeq (dLook 0 [] (oMv g007 s026)) <|
      dSeq (dLook 0 [] (oMv g005 s027)) <|
      dSeq (dLook 0 [] (oMv g010 s030)) <|
      dSeq (dLook 0 [] (oP (vIdx 1 g027 g030) s031)) <|
      dSeq (dLook 0 [] (oLoad g031 s032)) <|
      dSeq (dLook 0 [] (oMv g006 s033)) <|
      dSeq (dLook 0 [] (oMv g010 s034)) <|
      dSeq (dLook 0 [] (oP (vIdx 1 g033 g034) s035)) <|
      dSeq (dLook 0 [] (oLoad g035 s036)) <|
      dSeq (dAct 0 [] (oCallF 167 (fun T => [g026 T, g032 T, g036 T]) s037)) <|
      dSeq (dLook 0 [] (oMv g037 s007)) <|
      dNop)
      (ckNop) [])) <|
    cReg 3 (
     oSeq (oMv g010 s024) <|
     oSeq (oP (vAdd g024 (kc (.int .i64 1))) s025) <|
     oMv g025 s010)))) <|
  cSeq (cReg 3 (
   oSeq (oMv g007 s040) <|
   oSeq (oCallF 145 (fun T => [g040 T]) s041) <|
   oMv g041 s004)) <|
  cExit 0⟩
noncomputable def ffn147 : FFn := ⟨1, 24, [(2, none)],
  cSeq (cReg 1 (
   oMv (kc (.bool false)) s002)) <|
  cSeq (cSeq (cReg 1 (
   oMv (kc (.int .i64 0)) s003)) <|
  cBlock 1 (cLoop 1000000 (cSeq (cSeq (cReg 4 (
     oSeq (oMv g003 s004) <|
     oSeq (oMv g000 s005) <|
     oSeq (oP (vLen g005) s006) <|
     oP (vLss g004 g006) s007)) <|
    cCond g007
     (cSkip)
     (cExit 1)) <|
    cSeq (cBlock 3 (cSeq (cReg 14 (
      oSeq (oMv g000 s012) <|
      oSeq (oMv g003 s013) <|
      oSeq (oP (vIdx 2 g012 g013) s014) <|
      oSeq (oP (vFA 0 g014) s015) <|
      oSeq (oLoad g015 s016) <|
      oSeq (oMv g016 s017) <|
      oSeq (oGuard g017 false s020 (oMv g000 s020)) <|
      oSeq (oGuard g017 false s021 (oMv g003 s021)) <|
      oSeq (oGuard g017 false s022 (oP (vIdx 2 g020 g021) s022)) <|
      oSeq (oGuard g017 false s023 (oP (vFA 1 g022) s023)) <|
      oSeq (oGuard g017 false s024 (oLoad g023 s024)) <|
      oSeq (oGuard g017 false s025 (oP (vLen g024) s025)) <|
      oSeq (oGuard g017 false s026 (oP (vGtr g025 (kc (.int .i64 0))) s026)) <|
      oP (vPick g017 (kc (.bool true)) g026) s027)) <|
     cCond g027
      (cSeq (cReg 1 (
       oMv (kc (.bool false)) s002)) <|
      cExit 0)
      (cSkip))) <|
    cReg 3 (
     oSeq (oMv g003 s010) <|
     oSeq (oP (vAdd g010 (kc (.int .i64 1))) s011) <|
     oMv g011 s003)))) <|
  cSeq (cReg 1 (
   oMv (kc (.bool true)) s002)) <|
  cExit 0⟩
noncomputable def ffn118 : FFn := ⟨3, 37, [(6, none)],
  cSeq (cReg 1 (
   oMv (kc (.bool false)) s006)) <|
  cSeq (cSeq (cReg 1 (
   oMv (kc (.int .i64 0)) s007)) <|
  cBlock 1 (cLoop 1000000 (cSeq (cSeq (cReg 4 (
     oSeq (oMv g007 s011) <|
     oSeq (oMv g001 s012) <|
     oSeq (oP (vLen g012) s013) <|
     oP (vLss g011 g013) s014)) <|
    cCond g014
     (cSkip)
     (cExit 1)) <|
    cSeq (cBlock 3 (cSeq (cReg 8 (
      oSeq (oMv g000 s017) <|
      oSeq (oMv g001 s020) <|
      oSeq (oMv g007 s021) <|
      oSeq (oP (vIdx 1 g020 g021) s022) <|
      oSeq (oLoad g022 s023) <|
      oSeq (oCallF 148 (fun T => [g017 T, g023 T]) s024) <|
      oSeq (oCallF 59 (fun T => [g024 T]) s025) <|
      oP (vNeq g025 (kc (.int .i64 0))) s026)) <|
     cCond g026
      (cSeq (cReg 1 (
       oMv (kc (.bool false)) s006)) <|
      cExit 0)
      (cSkip))) <|
    cReg 3 (
     oSeq (oMv g007 s015) <|
     oSeq (oP (vAdd g015 (kc (.int .i64 1))) s016) <|
     oMv g016 s007)))) <|
  cSeq (cSeq (cReg 1 (
   oMv (kc (.int .i64 0)) s010)) <|
  cBlock 5 (cLoop 1000000 (cSeq (cSeq (cReg 4 (
     oSeq (oMv g010 s027) <|
     oSeq (oMv g002 s030) <|
     oSeq (oP (vLen g030) s031) <|
     oP (vLss g027 g031) s032)) <|
    cCond g032
     (cSkip)
     (cExit 5)) <|
    cSeq (cBlock 7 (cSeq (cReg 8 (
      oSeq (oMv g000 s035) <|
      oSeq (oMv g002 s036) <|
      oSeq (oMv g010 s037) <|
      oSeq (oP (vIdx 1 g036 g037) s040) <|
      oSeq (oLoad g040 s041) <|
      oSeq (oCallF 148 (fun T => [g035 T, g041 T]) s042) <|
      oSeq (oCallF 59 (fun T => [g042 T]) s043) <|
      oP (vLss g043 (kc (.int .i64 0))) s044)) <|
     cCond g044
      (cSeq (cReg 1 (
       oMv (kc (.bool false)) s006)) <|
      cExit 0)
      (cSkip))) <|
    cReg 3 (
     oSeq (oMv g010 s033) <|
     oSeq (oP (vAdd g033 (kc (.int .i64 1))) s034) <|
     oMv g034 s010)))) <|
  cSeq (cReg 1 (
   oMv (kc (.bool true)) s006)) <|
  cExit 0⟩
noncomputable def ffn148 : FFn := ⟨2, 25, [(4, (some (some 2)))],
  cSeq (cReg 1 (
   oAlloc 40 [(.bool false), .nilSl] 0 s004)) <|
  cSeq (cReg 1 (
   oAlloc 40 [(.bool false), .nilSl] 0 s005)) <|
  cSeq (cSeq (cReg 1 (
   oMv (kc (.int .i64 0)) s006)) <|
  cBlock 1 (cLoop 1000000 (cSeq (cSeq (cReg 4 (
     oSeq (oMv g006 s007) <|
     oSeq (oMv g000 s010) <|
     oSeq (oP (vLen g010) s011) <|
     oP (vLss g007 g011) s012)) <|
    cCond g012
     (cSkip)
     (cExit 1)) <|
    cSeq (cBlock 3 (cDrw 12 (
      dSeq (dLook 0 [] (oLoadN 2 g005 s015)) <|
      dSeq (dLook 0 [] (oMv g000 s016)) <|
      dSeq (dLook 0 [] (oMv g006 s017)) <|
      dSeq (dLook 0 [] (oP (vIdx 2 g016 g017) s020)) <|
      dSeq (dLook 0 [] (oLoadN 2 g020 s021)) <|
      dSeq (dLook 0 [] (oMv g001 s022)) <|
      dSeq (dLook 0 [] (oMv g006 s023)) <|
      dSeq (dLook 0 [] (oP (vIdx 2 g022 g023) s024)) <|
      dSeq (dLook 0 [] (oLoadN 2 g024 s025)) <|
      dSeq (dAct 0 [] (oCallF 151 (fun T => [g021 T, g025 T]) s026)) <|
      dSeq (dAct 0 [] (oCallF 150 (fun T => [g015 T, g026 T]) s027)) <|
      dSeq (dAct 0 [] (oStoreN 2 g005 g027 noPut)) <|
      dNop)
      (ckSeq (ckOne g015 2 [] (oLoadN 2 g005 s015)) <|
     ckNop) [])) <|
    cReg 3 (
     oSeq (oMv g006 s013) <|
     oSeq (oP (vAdd g013 (kc (.int .i64 1))) s014) <|
     oMv g014 s006)))) <|
  cSeq (cReg 2 (
   oSeq (oLoadN 2 g005 s030) <|
   oStoreN 2 g004 g030 noPut)) <|
  cExit 0⟩
noncomputable def ffn59 : FFn := ⟨1, 9, [(2, none)],
  cSeq (cReg 2 (
   oSeq (oBox 40 g000 0 s001) <|
   oMv (kc (.int .i64 0)) s002)) <|
  cSeq (cSeq (cReg 4 (
   oSeq (oP (vFA 1 g001) s003) <|
   oSeq (oLoad g003 s004) <|
   oSeq (oP (vLen g004) s005) <|
   oP (vEql g005 (kc (.int .i64 0))) s006)) <|
  cCond g006
   (cSeq (cReg 1 (
    oMv (kc (.int .i64 0)) s002)) <|
   cExit 0)
   (cSkip)) <|
  cSeq (cSeq (cReg 2 (
   oSeq (oP (vFA 0 g001) s007) <|
   oLoad g007 s010)) <|
  cCond g010
   (cSeq (cReg 1 (
    oMv (kc (.int .i64 (-1))) s002)) <|
   cExit 0)
   (cSkip)) <|
  cSeq (cReg 1 (
   oMv (kc (.int .i64 1)) s002)) <|
  cExit 0⟩
noncomputable def ffn119 : FFn := ⟨2, 48, [(4, none)],
  cSeq (cReg 1 (
   oMv (kc .nilSl) s004)) <|
  cSeq (cReg 1 (
   oMv (kc .nilSl) s005)) <|
  cSeq (cReg 1 (
   oMv (kc (.bool false)) s006)) <|
  cSeq (cSeq (cReg 1 (
   oMv (kc (.int .i64 0)) s007)) <|
  cBlock 1 (cLoop 1000000 (cSeq (cSeq (cReg 4 (
     oSeq (oMv g007 s011) <|
     oSeq (oMv g000 s012) <|
     oSeq (oP (vLen g012) s013) <|
     oP (vLss g011 g013) s014)) <|
    cCond g014
     (cSkip)
     (cExit 1)) <|
    cSeq (cBlock 3 (cSeq (cReg 7 (
      oSeq (oMv g001 s017) <|
      oSeq (oMv g000 s020) <|
      oSeq (oMv g007 s021) <|
      oSeq (oP (vIdx 1 g020 g021) s022) <|
      oSeq (oLoad g022 s023) <|
      oSeq (oCallF 149 (fun T => [g017 T, g023 T]) s024) <|
      oMv g024 s010)) <|
     cSeq (cSeq (cReg 2 (
      oSeq (oMv g010 s025) <|
      oP (vEql g025 (kc (.int .i64 0))) s026)) <|
     cCond g026
      (cSeq (cReg 2 (
       oSeq (oMv g000 s027) <|
       oMv g027 s004)) <|
      cExit 0)
      (cSkip)) <|
     cSeq (cSeq (cReg 6 (
      oSeq (oMv g006 s030) <|
      oSeq (oGen (.un .not (.t 24)) 1 s031) <|
      oSeq (oMv g031 s032) <|
      oSeq (oGuard g032 true s033 (oMv g010 s033)) <|
      oSeq (oGuard g032 true s034 (oP (vLss g033 (kc (.int .i64 0))) s034)) <|
      oP (vPick g032 g034 (kc (.bool false))) s035)) <|
     cCond g035
      (cSeq (cReg 5 (
       oSeq (oMv g005 s036) <|
       oSeq (oMv g001 s037) <|
       oSeq (oBuildSlice 36 1 [.nilSl] 1 [((0, 1), g037)] 2 s040) <|
       oSeq (oGen (.append 1 24 36 [.nilSl] (.t 30) (.t 32)) 3 s041) <|
       oMv g041 s005)) <|
      cReg 1 (
       oMv (kc (.bool true)) s006))
      (cSkip)) <|
     cReg 8 (
      oSeq (oMv g005 s042) <|
      oSeq (oMv g000 s043) <|
      oSeq (oMv g007 s044) <|
      oSeq (oP (vIdx 1 g043 g044) s045) <|
      oSeq (oLoad g045 s046) <|
      oSeq (oBuildSlice 36 1 [.nilSl] 1 [((0, 1), g046)] 5 s047) <|
      oSeq (oGen (.append 1 24 36 [.nilSl] (.t 34) (.t 39)) 6 s050) <|
      oMv g050 s005))) <|
    cReg 3 (
     oSeq (oMv g007 s015) <|
     oSeq (oP (vAdd g015 (kc (.int .i64 1))) s016) <|
     oMv g016 s007)))) <|
  cSeq (cSeq (cReg 2 (
   oSeq (oMv g006 s051) <|
   oGen (.un .not (.t 41)) 1 s052)) <|
  cCond g052
   (cReg 5 (
    oSeq (oMv g005 s053) <|
    oSeq (oMv g001 s054) <|
    oSeq (oBuildSlice 36 1 [.nilSl] 1 [((0, 1), g054)] 2 s055) <|
    oSeq (oGen (.append 1 24 36 [.nilSl] (.t 43) (.t 45)) 3 s056) <|
    oMv g056 s005))
   (cSkip)) <|
  cSeq (cReg 2 (
   oSeq (oMv g005 s057) <|
   oMv g057 s004)) <|
  cExit 0⟩
noncomputable def ffn120 : FFn := ⟨4, 34, [(8, none)],
  cSeq (cReg 3 (
   oSeq (oBox 40 g000 0 s004) <|
   oSeq (oBox 40 g002 1 s006) <|
   oMv (kc .nilSl) s010)) <|
  cSeq (cReg 1 (
   oMv (kc .nilSl) s011)) <|
  cSeq (cSeq (cReg 1 (
   oMv (kc (.int .i64 0)) s012)) <|
  cBlock 1 (cLoop 1000000 (cSeq (cSeq (cReg 4 (
     oSeq (oMv g012 s013) <|
     oSeq (oMv g001 s014) <|
     oSeq (oP (vLen g014) s015) <|
     oP (vLss g013 g015) s016)) <|
    cCond g016
     (cSkip)
     (cExit 1)) <|
    cSeq (cBlock 3 (cDrw 17 (
      dSeq (dLook 0 [] (oMv g011 s021)) <|
      dSeq (dLook 0 [] (oLoadN 2 g004 s022)) <|
      dSeq (dLook 0 [] (oMv g001 s023)) <|
      dSeq (dLook 0 [] (oMv g012 s024)) <|
      dSeq (dLook 0 [] (oP (vIdx 2 g023 g024) s025)) <|
      dSeq (dLook 0 [] (oLoadN 2 g025 s026)) <|
      dSeq (dAct 0 [] (oCallF 151 (fun T => [g022 T, g026 T]) s027)) <|
      dSeq (dLook 1 [] (oLoadN 2 g006 s030)) <|
      dSeq (dLook 0 [] (oMv g003 s031)) <|
      dSeq (dLook 0 [] (oMv g012 s032)) <|
      dSeq (dLook 0 [] (oP (vIdx 2 g031 g032) s033)) <|
      dSeq (dLook 1 [] (oLoadN 2 g033 s034)) <|
      dSeq (dAct 0 [] (oCallF 151 (fun T => [g030 T, g034 T]) s035)) <|
      dSeq (dAct 0 [] (oCallF 150 (fun T => [g027 T, g035 T]) s036)) <|
      dSeq (dMake 14 (oBuildSlice 40 2 [(.bool false), .nilSl] 1 [((0, 2), g036)] 14 s037)) <|
      dSeq (dAct 0 [(14, 0)] (oGen (.append 2 32 40 [(.bool false), .nilSl] (.t 17) (.t 31)) 15 s040)) <|
      dSeq (dLook 0 [] (oMv g040 s011)) <|
      dNop)
      (ckSeq (ckOne g030 3 [] (oLoadN 2 g006 s030)) <|
     ckSeq (ckOne g034 3 [] (oLoadN 2 g033 s034)) <|
     ckNop) [])) <|
    cReg 3 (
     oSeq (oMv g012 s017) <|
     oSeq (oP (vAdd g017 (kc (.int .i64 1))) s020) <|
     oMv g020 s012)))) <|
  cSeq (cReg 2 (
   oSeq (oMv g011 s041) <|
   oMv g041 s010)) <|
  cExit 0⟩
noncomputable def ffn116 : FFn := ⟨2, 52, [(4, none)],
  cSeq (cReg 1 (
   oMv (kc (.bool false)) s004)) <|
  cSeq (cReg 4 (
   oSeq (oMv g000 s007) <|
   oSeq (oP (vLen g007) s010) <|
   oSeq (oP (vSub g010 (kc (.int .i64 1))) s011) <|
   oMv g011 s005)) <|
  cSeq (cBlock 1 (cLoop 1000000 (cSeq (cSeq (cReg 15 (
     oSeq (oMv g005 s012) <|
     oSeq (oP (vGeq g012 (kc (.int .i64 0))) s013) <|
     oSeq (oMv g013 s014) <|
     oSeq (oGuard g014 true s015 (oMv g000 s015)) <|
     oSeq (oGuard g014 true s016 (oMv g005 s016)) <|
     oSeq (oGuard g014 true s017 (oP (vIdx 1 g015 g016) s017)) <|
     oSeq (oGuard g014 true s020 (oLoad g017 s020)) <|
     oSeq (oGuard g014 true s021 (oMv g001 s021)) <|
     oSeq (oGuard g014 true s022 (oMv g000 s022)) <|
     oSeq (oGuard g014 true s023 (oP (vLen g022) s023)) <|
     oSeq (oGuard g014 true s024 (oP (vSub g021 g023) s024)) <|
     oSeq (oGuard g014 true s025 (oMv g005 s025)) <|
     oSeq (oGuard g014 true s026 (oP (vAdd g024 g025) s026)) <|
     oSeq (oGuard g014 true s027 (oP (vEql g020 g026) s027)) <|
     oP (vPick g014 g027 (kc (.bool false))) s030)) <|
    cCond g030
     (cSkip)
     (cExit 1)) <|
    cBlock 3 (cReg 3 (
      oSeq (oMv g005 s031) <|
      oSeq (oP (vSub g031 (kc (.int .i64 1))) s032) <|
      oMv g032 s005))))) <|
  cSeq (cSeq (cReg 2 (
   oSeq (oMv g005 s033) <|
   oP (vLss g033 (kc (.int .i64 0))) s034)) <|
  cCond g034
   (cSeq (cReg 1 (
    oMv (kc (.bool false)) s004)) <|
   cExit 0)
   (cSkip)) <|
  cSeq (cReg 7 (
   oSeq (oMv g000 s035) <|
   oSeq (oMv g005 s036) <|
   oSeq (oP (vIdx 1 g035 g036) s037) <|
   oSeq (oLoad g037 s040) <|
   oSeq (oP (vAdd g040 (kc (.int .i64 1))) s041) <|
   oSeq (oP (vIdx 1 g035 g036) s042) <|
   oStore g042 g041 noPut)) <|
  cSeq (cSeq (cReg 3 (
   oSeq (oMv g005 s043) <|
   oSeq (oP (vAdd g043 (kc (.int .i64 1))) s044) <|
   oMv g044 s006)) <|
  cBlock 5 (cLoop 1000000 (cSeq (cSeq (cReg 4 (
     oSeq (oMv g006 s045) <|
     oSeq (oMv g000 s046) <|
     oSeq (oP (vLen g046) s047) <|
     oP (vLss g045 g047) s050)) <|
    cCond g050
     (cSkip)
     (cExit 5)) <|
    cSeq (cBlock 7 (cReg 10 (
      oSeq (oMv g000 s053) <|
      oSeq (oMv g006 s054) <|
      oSeq (oMv g000 s055) <|
      oSeq (oMv g006 s056) <|
      oSeq (oP (vSub g056 (kc (.int .i64 1))) s057) <|
      oSeq (oP (vIdx 1 g055 g057) s060) <|
      oSeq (oLoad g060 s061) <|
      oSeq (oP (vAdd g061 (kc (.int .i64 1))) s062) <|
      oSeq (oP (vIdx 1 g053 g054) s063) <|
      oStore g063 g062 noPut))) <|
    cReg 3 (
     oSeq (oMv g006 s051) <|
     oSeq (oP (vAdd g051 (kc (.int .i64 1))) s052) <|
     oMv g052 s006)))) <|
  cSeq (cReg 1 (
   oMv (kc (.bool true)) s004)) <|
  cExit 0⟩
noncomputable def ffn36 : FFn := ⟨2, 102, [(4, none)],
  cSeq (cReg 1 (
   oMv (kc .nilSl) s004)) <|
  cSeq (cReg 1 (
   oMv (kc .nilSl) s005)) <|
  cSeq (cReg 1 (
   oMv (kc .nilSl) s006)) <|
  cSeq (cReg 1 (
   oMv (kc (.bool false)) s007)) <|
  cSeq (cSeq (cReg 1 (
   oMv (kc (.int .i64 0)) s010)) <|
  cBlock 1 (cLoop 1000000 (cSeq (cSeq (cReg 4 (
     oSeq (oMv g010 s016) <|
     oSeq (oMv g001 s017) <|
     oSeq (oP (vLen g017) s020) <|
     oP (vLss g016 g020) s021)) <|
    cCond g021
     (cSkip)
     (cExit 1)) <|
    cSeq (cBlock 3 (cSeq (cSeq (cReg 6 (
      oSeq (oMv g001 s024) <|
      oSeq (oMv g010 s025) <|
      oSeq (oP (vIdx 2 g024 g025) s026) <|
      oSeq (oP (vFA 0 g026) s027) <|
      oSeq (oLoad g027 s030) <|
      oP (vEql g030 (kc (.int .u8 1))) s031)) <|
     cCond g031
      (cReg 9 (
       oSeq (oMv g005 s032) <|
       oSeq (oMv g001 s033) <|
       oSeq (oMv g010 s034) <|
       oSeq (oP (vIdx 2 g033 g034) s035) <|
       oSeq (oP (vFA 1 g035) s036) <|
       oSeq (oLoad g036 s037) <|
       oSeq (oBuildSlice 36 1 [.nilSl] 1 [((0, 1), g037)] 6 s040) <|
       oSeq (oGen (.append 1 24 36 [.nilSl] (.t 26) (.t 32)) 7 s041) <|
       oMv g041 s005))
      (cReg 9 (
       oSeq (oMv g006 s042) <|
       oSeq (oMv g001 s043) <|
       oSeq (oMv g010 s044) <|
       oSeq (oP (vIdx 2 g043 g044) s045) <|
       oSeq (oP (vFA 1 g045) s046) <|
       oSeq (oLoad g046 s047) <|
       oSeq (oBuildSlice 36 1 [.nilSl] 1 [((0, 1), g047)] 6 s050) <|
       oSeq (oGen (.append 1 24 36 [.nilSl] (.t 34) (.t 40)) 7 s051) <|
       oMv g051 s006))) <|
     cReg 10 (
      oSeq (oMv g007 s052) <|
      oSeq (oMv g052 s053) <|
      oSeq (oGuard g053 false s054 (oMv g001 s054)) <|
      oSeq (oGuard g053 false s055 (oMv g010 s055)) <|
      oSeq (oGuard g053 false s056 (oP (vIdx 2 g054 g055) s056)) <|
      oSeq (oGuard g053 false s057 (oP (vFA 0 g056) s057)) <|
      oSeq (oGuard g053 false s060 (oLoad g057 s060)) <|
      oSeq (oGuard g053 false s061 (oP (vEql g060 (kc (.int .u8 3))) s061)) <|
      oSeq (oP (vPick g053 (kc (.bool true)) g061) s062) <|
      oMv g062 s007))) <|
    cReg 3 (
     oSeq (oMv g010 s022) <|
     oSeq (oP (vAdd g022 (kc (.int .i64 1))) s023) <|
     oMv g023 s010)))) <|
  cSeq (cSeq (cReg 2 (
   oSeq (oMv g007 s063) <|
   oGen (.un .not (.t 51)) 1 s064)) <|
  cCond g064
   (cSeq (cReg 5 (
    oSeq (oMv g000 s065) <|
    oSeq (oCallF 22 (fun T => [g065 T, (.int .i64 (-1))]) s066) <|
    oSeq (oP (vBuild [.nilSl, (.bool false)] [((0, 1), g066)]) s067) <|
    oSeq (oBuildSlice 43 2 [.nilSl, (.bool false)] 1 [((0, 2), g067)] 3 s070) <|
    oMv g070 s004)) <|
   cExit 0)
   (cSkip)) <|
  cSeq (cReg 10 (
   oSeq (oMv g000 s072) <|
   oSeq (oP (vAdd g072 (kc (.int .i64 1))) s073) <|
   oSeq (oMv g005 s074) <|
   oSeq (oMv g006 s075) <|
   oSeq (oCallF 56 (fun T => [g073 T, g074 T, g075 T]) s076) <|
   oSeq (oMv g076 s071) <|
   oSeq (oP (vExt 0 g071) s077) <|
   oSeq (oP (vExt 1 g071) s100) <|
   oSeq (oMv g077 s011) <|
   oMv g100 s012)) <|
  cSeq (cReg 1 (
   oMv (kc .nilSl) s013)) <|
  cSeq (cSeq (cReg 1 (
   oMv (kc (.int .i64 0)) s014)) <|
  cBlock 5 (cLoop 1000000 (cSeq (cSeq (cReg 4 (
     oSeq (oMv g014 s101) <|
     oSeq (oMv g011 s102) <|
     oSeq (oP (vLen g102) s103) <|
     oP (vLss g101 g103) s104)) <|
    cCond g104
     (cSkip)
     (cExit 5)) <|
    cSeq (cBlock 7 (cReg 9 (
      oSeq (oMv g013 s107) <|
      oSeq (oMv g011 s110) <|
      oSeq (oMv g014 s111) <|
      oSeq (oP (vIdx 1 g110 g111) s112) <|
      oSeq (oLoad g112 s113) <|
      oSeq (oP (vBuild [.nilSl, (.bool false)] [((0, 1), g113), ((1, 1), (kc (.bool true)))]) s114) <|
      oSeq (oBuildSlice 43 2 [.nilSl, (.bool false)] 1 [((0, 2), g114)] 6 s115) <|
      oSeq (oGen (.append 2 32 43 [.nilSl, (.bool false)] (.t 71) (.t 77)) 7 s116) <|
      oMv g116 s013))) <|
    cReg 3 (
     oSeq (oMv g014 s105) <|
     oSeq (oP (vAdd g105 (kc (.int .i64 1))) s106) <|
     oMv g106 s014)))) <|
  cSeq (cSeq (cReg 1 (
   oMv (kc (.int .i64 0)) s015)) <|
  cBlock 9 (cLoop 1000000 (cSeq (cSeq (cReg 4 (
     oSeq (oMv g015 s117) <|
     oSeq (oMv g012 s120) <|
     oSeq (oP (vLen g120) s121) <|
     oP (vLss g117 g121) s122)) <|
    cCond g122
     (cSkip)
     (cExit 9)) <|
    cSeq (cBlock 11 (cSeq (cDrw 8 (
      dSeq (dLook 0 [] (oMv g012 s125)) <|
      dSeq (dLook 0 [] (oMv g015 s126)) <|
      dSeq (dLook 0 [] (oP (vIdx 1 g125 g126) s127)) <|
      dSeq (dLook 0 [] (oLoad g127 s130)) <|
      dSeq (dLook 0 [] (oMv g000 s131)) <|
      dSeq (dAct 0 [] (oCallF 22 (fun T => [g131 T, (.int .i64 1)]) s132)) <|
      dSeq (dAct 0 [] (oCallF 39 (fun T => [g130 T, g132 T]) s133)) <|
      dSeq (dLook 0 [] (oGen (.un .not (.t 91)) 7 s134)) <|
      dNop)
      (ckSeq (ckOne g130 1 [] (oLoad g127 s130)) <|
     ckNop) []) <|
     cCond g134
      (cReg 9 (
       oSeq (oMv g013 s135) <|
       oSeq (oMv g012 s136) <|
       oSeq (oMv g015 s137) <|
       oSeq (oP (vIdx 1 g136 g137) s140) <|
       oSeq (oLoad g140 s141) <|
       oSeq (oP (vBuild [.nilSl, (.bool false)] [((0, 1), g141)]) s142) <|
       oSeq (oBuildSlice 43 2 [.nilSl, (.bool false)] 1 [((0, 2), g142)] 6 s143) <|
       oSeq (oGen (.append 2 32 43 [.nilSl, (.bool false)] (.t 93) (.t 99)) 7 s144) <|
       oMv g144 s013))
      (cSkip))) <|
    cReg 3 (
     oSeq (oMv g015 s123) <|
     oSeq (oP (vAdd g123 (kc (.int .i64 1))) s124) <|
     oMv g124 s015)))) <|
  cSeq (cReg 2 (
   oSeq (oMv g013 s145) <|
   oMv g145 s004)) <|
  cExit 0⟩
noncomputable def ffn39 : FFn := ⟨2, 27, [(4, none)],
  cSeq (cReg 1 (
   oMv (kc (.bool false)) s004)) <|
  cSeq (cSeq (cReg 5 (
   oSeq (oMv g000 s006) <|
   oSeq (oP (vLen g006) s007) <|
   oSeq (oMv g001 s010) <|
   oSeq (oP (vLen g010) s011) <|
   oP (vNeq g007 g011) s012)) <|
  cCond g012
   (cSeq (cReg 1 (
    oMv (kc (.bool false)) s004)) <|
   cExit 0)
   (cSkip)) <|
  cSeq (cSeq (cReg 1 (
   oMv (kc (.int .i64 0)) s005)) <|
  cBlock 1 (cLoop 1000000 (cSeq (cSeq (cReg 4 (
     oSeq (oMv g005 s013) <|
     oSeq (oMv g000 s014) <|
     oSeq (oP (vLen g014) s015) <|
     oP (vLss g013 g015) s016)) <|
    cCond g016
     (cSkip)
     (cExit 1)) <|
    cSeq (cBlock 3 (cSeq (cDrw 10 (
      dSeq (dLook 0 [] (oMv g000 s021)) <|
      dSeq (dLook 0 [] (oMv g005 s022)) <|
      dSeq (dLook 0 [] (oP (vIdx 2 g021 g022) s023)) <|
      dSeq (dLook 0 [] (oLoadN 2 g023 s024)) <|
      dSeq (dLook 0 [] (oMv g001 s025)) <|
      dSeq (dLook 0 [] (oMv g005 s026)) <|
      dSeq (dLook 0 [] (oP (vIdx 2 g025 g026) s027)) <|
      dSeq (dLook 0 [] (oLoadN 2 g027 s030)) <|
      dSeq (dAct 0 [] (oCallF 62 (fun T => [g024 T, g030 T]) s031)) <|
      dSeq (dLook 0 [] (oGen (.un .not (.t 25)) 9 s032)) <|
      dNop)
      (ckNop) []) <|
     cCond g032
      (cSeq (cReg 1 (
       oMv (kc (.bool false)) s004)) <|
      cExit 0)
      (cSkip))) <|
    cReg 3 (
     oSeq (oMv g005 s017) <|
     oSeq (oP (vAdd g017 (kc (.int .i64 1))) s020) <|
     oMv g020 s005)))) <|
  cSeq (cReg 1 (
   oMv (kc (.bool true)) s004)) <|
  cExit 0⟩
noncomputable def ffn62 : FFn := ⟨2, 17, [(4, none)],
  cSeq (cReg 3 (
   oSeq (oBox 40 g000 0 s002) <|
   oSeq (oBox 40 g001 1 s003) <|
   oMv (kc (.bool false)) s004)) <|
  cSeq (cReg 13 (
   oSeq (oP (vFA 0 g002) s005) <|
   oSeq (oLoad g005 s006) <|
   oSeq (oP (vFA 0 g003) s007) <|
   oSeq (oLoad g007 s010) <|
   oSeq (oGen (.bin .eql .bool (.t 6) (.t 8)) 4 s011) <|
   oSeq (oMv g011 s012) <|
   oSeq (oGuard g012 true s013 (oP (vFA 1 g002) s013)) <|
   oSeq (oGuard g012 true s014 (oLoad g013 s014)) <|
   oSeq (oGuard g012 true s015 (oP (vFA 1 g003) s015)) <|
   oSeq (oGuard g012 true s016 (oLoad g015 s016)) <|
   oSeq (oGuard g012 true s017 (oCallF 85 (fun T => [g014 T, g016 T]) s017)) <|
   oSeq (oP (vPick g012 g017 (kc (.bool false))) s020) <|
   oMv g020 s004)) <|
  cExit 0⟩
noncomputable def ffn6 : FFn := ⟨1, 25, [(2, (some (some 3))), (3, none)],
  cSeq (cReg 2 (
   oSeq (oAlloc 25 [(.int .i64 0), .nilSl, .nilSl] 0 s002) <|
   oMv (kc (.int .i64 0)) s003)) <|
  cSeq (cSeq (cReg 6 (
   oSeq (oMv g000 s005) <|
   oSeq (oP (vLss g005 (kc (.int .i64 0))) s006) <|
   oSeq (oMv g006 s007) <|
   oSeq (oGuard g007 false s010 (oMv g000 s010)) <|
   oSeq (oGuard g007 false s011 (oP (vGtr g010 (kc (.int .i64 8))) s011)) <|
   oP (vPick g007 (kc (.bool true)) g011) s012)) <|
  cCond g012
   (cSeq (cReg 3 (
    oSeq (oP (vBuild [(.int .i64 0), .nilSl, .nilSl] []) s013) <|
    oSeq (oStoreN 3 g002 g013 noPut) <|
    oMv (kc (.int .i64 2)) s003)) <|
   cExit 0)
   (cSkip)) <|
  cSeq (cReg 4 (
   oSeq (oMv g000 s014) <|
   oSeq (oP (vAdd g014 (kc (.int .i64 1))) s015) <|
   oSeq (oGen (.mksl 40 2 32 [(.bool false), .nilSl] (.t 13) (.t 13)) 2 s016) <|
   oMv g016 s004)) <|
  cSeq (cReg 4 (
   oSeq (oMv g004 s017) <|
   oSeq (oCallF 11 (fun _ => [(.int .i64 (-1))]) s020) <|
   oSeq (oP (vIdx 2 g017 (kc (.int .i64 0))) s021) <|
   oStoreN 2 g021 g020 noPut)) <|
  cSeq (cReg 9 (
   oSeq (oMv g000 s022) <|
   oSeq (oMv g004 s023) <|
   oSeq (oP (vBuild [.nilSl, (.bool false)] [((0, 1), g023)]) s024) <|
   oSeq (oBuildSlice 43 2 [.nilSl, (.bool false)] 1 [((0, 2), g024)] 3 s025) <|
   oSeq (oCallF 9 (fun T => [g022 T, g025 T]) s026) <|
   oSeq (oP (vExt 0 g026) s027) <|
   oSeq (oP (vExt 1 g026) s030) <|
   oSeq (oStoreN 3 g002 g027 noPut) <|
   oMv g030 s003)) <|
  cExit 0⟩
noncomputable def ffn7 : FFn := ⟨1, 13, [(2, (some (some 3))), (3, none)],
  cSeq (cReg 2 (
   oSeq (oAlloc 25 [(.int .i64 0), .nilSl, .nilSl] 0 s002) <|
   oMv (kc (.int .i64 0)) s003)) <|
  cSeq (cSeq (cReg 6 (
   oSeq (oMv g000 s004) <|
   oSeq (oP (vLss g004 (kc (.int .i64 0))) s005) <|
   oSeq (oMv g005 s006) <|
   oSeq (oGuard g006 false s007 (oMv g000 s007)) <|
   oSeq (oGuard g006 false s010 (oP (vGtr g007 (kc (.int .i64 8))) s010)) <|
   oP (vPick g006 (kc (.bool true)) g010) s011)) <|
  cCond g011
   (cSeq (cReg 3 (
    oSeq (oP (vBuild [(.int .i64 0), .nilSl, .nilSl] []) s012) <|
    oSeq (oStoreN 3 g002 g012 noPut) <|
    oMv (kc (.int .i64 2)) s003)) <|
   cExit 0)
   (cSkip)) <|
  cSeq (cReg 4 (
   oSeq (oMv g000 s013) <|
   oSeq (oCallF 12 (fun T => [g013 T]) s014) <|
   oSeq (oStoreN 3 g002 g014 noPut) <|
   oMv (kc (.int .i64 0)) s003)) <|
  cExit 0⟩
noncomputable def ffn12 : FFn := ⟨1, 9, [(2, (some (some 3)))],
  cSeq (cReg 1 (
   oAlloc 25 [(.int .i64 0), .nilSl, .nilSl] 0 s002)) <|
  cSeq (cReg 7 (
   oSeq (oMv g000 s003) <|
   oSeq (oMv g000 s004) <|
   oSeq (oCallF 22 (fun T => [g004 T, (.int .i64 (-1))]) s005) <|
   oSeq (oP (vBuild [.nilSl, (.bool false)] [((0, 1), g005)]) s006) <|
   oSeq (oBuildSlice 43 2 [.nilSl, (.bool false)] 1 [((0, 2), g006)] 4 s007) <|
   oSeq (oP (vBuild [(.int .i64 0), .nilSl, .nilSl] [((0, 1), g003), ((1, 1), g007)]) s010) <|
   oStoreN 3 g002 g010 noPut)) <|
  cExit 0⟩
noncomputable def ffn8 : FFn := ⟨2, 8, [(4, none)],
  cSeq (cReg 3 (
   oSeq (oBox 25 g000 0 s002) <|
   oSeq (oBox 25 g001 1 s003) <|
   oMv (kc (.bool false)) s004)) <|
  cSeq (cReg 4 (
   oSeq (oLoadN 3 g002 s005) <|
   oSeq (oLoadN 3 g003 s006) <|
   oSeq (oCallF 13 (fun T => [g005 T, g006 T]) s007) <|
   oMv g007 s004)) <|
  cExit 0⟩
noncomputable def ffn13 : FFn := ⟨2, 24, [(4, none)],
  cSeq (cReg 3 (
   oSeq (oBox 25 g000 0 s002) <|
   oSeq (oBox 25 g001 1 s003) <|
   oMv (kc (.bool false)) s004)) <|
  cSeq (cReg 20 (
   oSeq (oP (vFA 0 g002) s005) <|
   oSeq (oLoad g005 s006) <|
   oSeq (oP (vFA 0 g003) s007) <|
   oSeq (oLoad g007 s010) <|
   oSeq (oP (vEql g006 g010) s011) <|
   oSeq (oMv g011 s012) <|
   oSeq (oGuard g012 true s013 (oP (vFA 1 g002) s013)) <|
   oSeq (oGuard g012 true s014 (oLoad g013 s014)) <|
   oSeq (oGuard g012 true s015 (oP (vFA 1 g003) s015)) <|
   oSeq (oGuard g012 true s016 (oLoad g015 s016)) <|
   oSeq (oGuard g012 true s017 (oCallF 23 (fun T => [g014 T, g016 T]) s017)) <|
   oSeq (oP (vPick g012 g017 (kc (.bool false))) s020) <|
   oSeq (oMv g020 s021) <|
   oSeq (oGuard g021 true s022 (oP (vFA 2 g002) s022)) <|
   oSeq (oGuard g021 true s023 (oLoad g022 s023)) <|
   oSeq (oGuard g021 true s024 (oP (vFA 2 g003) s024)) <|
   oSeq (oGuard g021 true s025 (oLoad g024 s025)) <|
   oSeq (oGuard g021 true s026 (oCallF 24 (fun T => [g023 T, g025 T]) s026)) <|
   oSeq (oP (vPick g021 g026 (kc (.bool false))) s027) <|
   oMv g027 s004)) <|
  cExit 0⟩
noncomputable def ffn23 : FFn := ⟨2, 42, [(4, none)],
  cSeq (cReg 1 (
   oMv (kc (.bool false)) s004)) <|
  cSeq (cSeq (cReg 5 (
   oSeq (oMv g000 s006) <|
   oSeq (oP (vLen g006) s007) <|
   oSeq (oMv g001 s010) <|
   oSeq (oP (vLen g010) s011) <|
   oP (vNeq g007 g011) s012)) <|
  cCond g012
   (cSeq (cReg 1 (
    oMv (kc (.bool false)) s004)) <|
   cExit 0)
   (cSkip)) <|
  cSeq (cSeq (cReg 1 (
   oMv (kc (.int .i64 0)) s005)) <|
  cBlock 1 (cLoop 1000000 (cSeq (cSeq (cReg 4 (
     oSeq (oMv g005 s013) <|
     oSeq (oMv g000 s014) <|
     oSeq (oP (vLen g014) s015) <|
     oP (vLss g013 g015) s016)) <|
    cCond g016
     (cSkip)
     (cExit 1)) <|
    cSeq (cBlock 3 (cSeq (cDrw 25 (
      dSeq (dLook 0 [] (oMv g000 s021)) <|
      dSeq (dLook 0 [] (oMv g005 s022)) <|
      dSeq (dLook 0 [] (oP (vIdx 2 g021 g022) s023)) <|
      dSeq (dLook 0 [] (oP (vFA 1 g023) s024)) <|
      dSeq (dLook 0 [] (oLoad g024 s025)) <|
      dSeq (dLook 0 [] (oMv g001 s026)) <|
      dSeq (dLook 0 [] (oMv g005 s027)) <|
      dSeq (dLook 0 [] (oP (vIdx 2 g026 g027) s030)) <|
      dSeq (dLook 0 [] (oP (vFA 1 g030) s031)) <|
      dSeq (dLook 0 [] (oLoad g031 s032)) <|
      dSeq (dLook 0 [] (oGen (.bin .neq .bool (.t 21) (.t 26)) 10 s033)) <|
      dSeq (dLook 0 [] (oMv g033 s034)) <|
      dSeq (dLook 0 [] (oGuard g034 false s035 (oMv g000 s035))) <|
      dSeq (dLook 0 [] (oGuard g034 false s036 (oMv g005 s036))) <|
      dSeq (dLook 0 [] (oGuard g034 false s037 (oP (vIdx 2 g035 g036) s037))) <|
      dSeq (dLook 0 [] (oGuard g034 false s040 (oP (vFA 0 g037) s040))) <|
      dSeq (dLook 0 [] (oGuard g034 false s041 (oLoad g040 s041))) <|
      dSeq (dLook 0 [] (oGuard g034 false s042 (oMv g001 s042))) <|
      dSeq (dLook 0 [] (oGuard g034 false s043 (oMv g005 s043))) <|
      dSeq (dLook 0 [] (oGuard g034 false s044 (oP (vIdx 2 g042 g043) s044))) <|
      dSeq (dLook 0 [] (oGuard g034 false s045 (oP (vFA 0 g044) s045))) <|
      dSeq (dLook 0 [] (oGuard g034 false s046 (oLoad g045 s046))) <|
      dSeq (dAct 0 [] (oGuard g034 false s047 (oCallF 39 (fun T => [g041 T, g046 T]) s047))) <|
      dSeq (dLook 0 [] (oGuard g034 false s050 (oGen (.un .not (.t 39)) 23 s050))) <|
      dSeq (dLook 0 [] (oP (vPick g034 (kc (.bool true)) g050) s051)) <|
      dNop)
      (ckNop) []) <|
     cCond g051
      (cSeq (cReg 1 (
       oMv (kc (.bool false)) s004)) <|
      cExit 0)
      (cSkip))) <|
    cReg 3 (
     oSeq (oMv g005 s017) <|
     oSeq (oP (vAdd g017 (kc (.int .i64 1))) s020) <|
     oMv g020 s005)))) <|
  cSeq (cReg 1 (
   oMv (kc (.bool true)) s004)) <|
  cExit 0⟩
noncomputable def ffn24 : FFn := ⟨2, 42, [(4, none)],
  cSeq (cReg 1 (
   oMv (kc (.bool false)) s004)) <|
  cSeq (cSeq (cReg 5 (
   oSeq (oMv g000 s006) <|
   oSeq (oP (vLen g006) s007) <|
   oSeq (oMv g001 s010) <|
   oSeq (oP (vLen g010) s011) <|
   oP (vNeq g007 g011) s012)) <|
  cCond g012
   (cSeq (cReg 1 (
    oMv (kc (.bool false)) s004)) <|
   cExit 0)
   (cSkip)) <|
  cSeq (cSeq (cReg 1 (
   oMv (kc (.int .i64 0)) s005)) <|
  cBlock 1 (cLoop 1000000 (cSeq (cSeq (cReg 4 (
     oSeq (oMv g005 s013) <|
     oSeq (oMv g000 s014) <|
     oSeq (oP (vLen g014) s015) <|
     oP (vLss g013 g015) s016)) <|
    cCond g016
     (cSkip)
     (cExit 1)) <|
    cSeq (cBlock 3 (cSeq (cDrw 25 (
      dSeq (dLook 0 [] (oMv g000 s021)) <|
      dSeq (dLook 0 [] (oMv g005 s022)) <|
      dSeq (dLook 0 [] (oP (vIdx 2 g021 g022) s023)) <|
      dSeq (dLook 0 [] (oP (vFA 0 g023) s024)) <|
      dSeq (dLook 0 [] (oLoad g024 s025)) <|
      dSeq (dLook 0 [] (oMv g001 s026)) <|
      dSeq (dLook 0 [] (oMv g005 s027)) <|
      dSeq (dLook 0 [] (oP (vIdx 2 g026 g027) s030)) <|
      dSeq (dLook 0 [] (oP (vFA 0 g030) s031)) <|
      dSeq (dLook 0 [] (oLoad g031 s032)) <|
      dSeq (dLook 0 [] (oP (vNeq g025 g032) s033)) <|
      dSeq (dLook 0 [] (oMv g033 s034)) <|
      dSeq (dLook 0 [] (oGuard g034 false s035 (oMv g000 s035))) <|
      dSeq (dLook 0 [] (oGuard g034 false s036 (oMv g005 s036))) <|
      dSeq (dLook 0 [] (oGuard g034 false s037 (oP (vIdx 2 g035 g036) s037))) <|
      dSeq (dLook 0 [] (oGuard g034 false s040 (oP (vFA 1 g037) s040))) <|
      dSeq (dLook 0 [] (oGuard g034 false s041 (oLoad g040 s041))) <|
      dSeq (dLook 0 [] (oGuard g034 false s042 (oMv g001 s042))) <|
      dSeq (dLook 0 [] (oGuard g034 false s043 (oMv g005 s043))) <|
      dSeq (dLook 0 [] (oGuard g034 false s044 (oP (vIdx 2 g042 g043) s044))) <|
      dSeq (dLook 0 [] (oGuard g034 false s045 (oP (vFA 1 g044) s045))) <|
      dSeq (dLook 0 [] (oGuard g034 false s046 (oLoad g045 s046))) <|
      dSeq (dAct 0 [] (oGuard g034 false s047 (oCallF 39 (fun T => [g041 T, g046 T]) s047))) <|
      dSeq (dLook 0 [] (oGuard g034 false s050 (oGen (.un .not (.t 39)) 23 s050))) <|
      dSeq (dLook 0 [] (oP (vPick g034 (kc (.bool true)) g050) s051)) <|
      dNop)
      (ckNop) []) <|
     cCond g051
      (cSeq (cReg 1 (
       oMv (kc (.bool false)) s004)) <|
      cExit 0)
      (cSkip))) <|
    cReg 3 (
     oSeq (oMv g005 s017) <|
     oSeq (oP (vAdd g017 (kc (.int .i64 1))) s020) <|
     oMv g020 s005)))) <|
  cSeq (cReg 1 (
   oMv (kc (.bool true)) s004)) <|
  cExit 0⟩
end Go.Proofs.YtmchbjommpmlkaaGreat.Ev
