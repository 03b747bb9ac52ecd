/-
  The code of the law's functions, printed by program off the translation.
-/
import Derived.Test.YtihcmbhankddkacGreatEvSlots
namespace Go.Proofs.YtihcmbhankddkacGreat.Ev
open Go
set_option maxRecDepth 1000000
set_option linter.all false
noncomputable def ffn98 : FFn := ⟨2, 14, [],
  cSeq (cReg 3 (
   oSeq (oMv g000 s005) <|
   oSeq (oP (vLen g005) s006) <|
   oMv g006 s004)) <|
  cReg 7 (
   oSeq (oMv g000 s007) <|
   oSeq (oMv g004 s010) <|
   oSeq (oMv g004 s011) <|
   oSeq (oGen (.conv .u64 (.t 9)) 3 s012) <|
   oSeq (oCallF 122 (fun T => [g012 T]) s013) <|
   oSeq (oMv g001 s014) <|
   oCallF 121 (fun T => [g007 T, (.int .i64 0), g010 T, g013 T, g014 T]) s015)⟩
noncomputable def ffn122 : FFn := ⟨1, 8, [(2, none)],
  cSeq (cReg 1 (
   oMv (kc (.int .i64 0)) s002)) <|
  cSeq (cCond (kc (.bool false))
   (cSeq (cReg 4 (
    oSeq (oMv g000 s003) <|
    oSeq (oGen (.conv .u32 (.t 3)) 1 s004) <|
    oSeq (oCallF 151 (fun T => [g004 T]) s005) <|
    oMv g005 s002)) <|
   cExit 0)
   (cSkip)) <|
  cSeq (cReg 3 (
   oSeq (oMv g000 s006) <|
   oSeq (oCallF 152 (fun T => [g006 T]) s007) <|
   oMv g007 s002)) <|
  cExit 0⟩
noncomputable def ffn121 : FFn := ⟨5, 148, [],
  cSeq (cReg 1 (
   oMv (kc (.bool true)) s012)) <|
  cSeq (cReg 1 (
   oMv (kc (.bool true)) s013)) <|
  cBlock 1 (cLoop 1000000 (cBlock 3 (cSeq (cReg 4 (
      oSeq (oMv g002 s025) <|
      oSeq (oMv g001 s026) <|
      oSeq (oP (vSub g025 g026) s027) <|
      oMv g027 s014)) <|
     cSeq (cSeq (cReg 2 (
      oSeq (oMv g014 s030) <|
      oP (vLeq g030 (kc (.int .i64 12))) s031)) <|
     cCond g031
      (cSeq (cReg 5 (
       oSeq (oMv g000 s032) <|
       oSeq (oMv g001 s033) <|
       oSeq (oMv g002 s034) <|
       oSeq (oMv g004 s035) <|
       oCallF 143 (fun T => [g032 T, g033 T, g034 T, g035 T]) s036)) <|
      cExit 0)
      (cSkip)) <|
     cSeq (cSeq (cReg 2 (
      oSeq (oMv g003 s037) <|
      oP (vEql g037 (kc (.int .i64 0))) s040)) <|
     cCond g040
      (cSeq (cReg 5 (
       oSeq (oMv g000 s041) <|
       oSeq (oMv g001 s042) <|
       oSeq (oMv g002 s043) <|
       oSeq (oMv g004 s044) <|
       oCallF 144 (fun T => [g041 T, g042 T, g043 T, g044 T]) s045)) <|
      cExit 0)
      (cSkip)) <|
     cSeq (cSeq (cReg 2 (
      oSeq (oMv g012 s046) <|
      oGen (.un .not (.t 38)) 1 s047)) <|
     cCond g047
      (cSeq (cReg 5 (
       oSeq (oMv g000 s050) <|
       oSeq (oMv g001 s051) <|
       oSeq (oMv g002 s052) <|
       oSeq (oMv g004 s053) <|
       oCallF 145 (fun T => [g050 T, g051 T, g052 T, g053 T]) s054)) <|
      cReg 3 (
       oSeq (oMv g003 s055) <|
       oSeq (oP (vSub g055 (kc (.int .i64 1))) s056) <|
       oMv g056 s003))
      (cSkip)) <|
     cSeq (cReg 10 (
      oSeq (oMv g000 s060) <|
      oSeq (oMv g001 s061) <|
      oSeq (oMv g002 s062) <|
      oSeq (oMv g004 s063) <|
      oSeq (oCallF 146 (fun T => [g060 T, g061 T, g062 T, g063 T]) s064) <|
      oSeq (oMv g064 s057) <|
      oSeq (oP (vExt 0 g057) s065) <|
      oSeq (oP (vExt 1 g057) s066) <|
      oSeq (oMv g065 s015) <|
      oMv g066 s016)) <|
     cSeq (cSeq (cReg 2 (
      oSeq (oMv g016 s067) <|
      oP (vEql g067 (kc (.int .i64 2))) s070)) <|
     cCond g070
      (cSeq (cReg 5 (
       oSeq (oMv g000 s071) <|
       oSeq (oMv g001 s072) <|
       oSeq (oMv g002 s073) <|
       oSeq (oMv g004 s074) <|
       oCallF 147 (fun T => [g071 T, g072 T, g073 T, g074 T]) s075)) <|
      cSeq (cReg 7 (
       oSeq (oMv g002 s076) <|
       oSeq (oP (vSub g076 (kc (.int .i64 1))) s077) <|
       oSeq (oMv g015 s100) <|
       oSeq (oMv g001 s101) <|
       oSeq (oP (vSub g100 g101) s102) <|
       oSeq (oP (vSub g077 g102) s103) <|
       oMv g103 s015)) <|
      cReg 1 (
       oMv (kc (.int .i64 1)) s016))
      (cSkip)) <|
     cSeq (cSeq (cReg 8 (
      oSeq (oMv g012 s104) <|
      oSeq (oMv g104 s105) <|
      oSeq (oGuard g105 true s106 (oMv g013 s106)) <|
      oSeq (oP (vPick g105 g106 (kc (.bool false))) s107) <|
      oSeq (oMv g107 s110) <|
      oSeq (oGuard g110 true s111 (oMv g016 s111)) <|
      oSeq (oGuard g110 true s112 (oP (vEql g111 (kc (.int .i64 1))) s112)) <|
      oP (vPick g110 g112 (kc (.bool false))) s113)) <|
     cCond g113
      (cSeq (cReg 5 (
       oSeq (oMv g000 s114) <|
       oSeq (oMv g001 s115) <|
       oSeq (oMv g002 s116) <|
       oSeq (oMv g004 s117) <|
       oCallF 148 (fun T => [g114 T, g115 T, g116 T, g117 T]) s120)) <|
      cCond g120
       (cExit 0)
       (cSkip))
      (cSkip)) <|
     cSeq (cSeq (cDrw 17 (
      dSeq (dLook 0 [] (oMv g001 s121)) <|
      dSeq (dLook 0 [] (oP (vGtr g121 (kc (.int .i64 0))) s122)) <|
      dSeq (dLook 0 [] (oMv g122 s123)) <|
      dSeq (dLook 0 [] (oGuard g123 true s124 (oMv g004 s124))) <|
      dSeq (dLook 0 [] (oGuard g123 true s125 (oMv g000 s125))) <|
      dSeq (dLook 0 [] (oGuard g123 true s126 (oMv g001 s126))) <|
      dSeq (dLook 0 [] (oGuard g123 true s127 (oP (vSub g126 (kc (.int .i64 1))) s127))) <|
      dSeq (dLook 0 [] (oGuard g123 true s130 (oP (vIdx 1 g125 g127) s130))) <|
      dSeq (dLook 0 [] (oGuard g123 true s131 (oLoad g130 s131))) <|
      dSeq (dLook 0 [] (oGuard g123 true s132 (oMv g000 s132))) <|
      dSeq (dLook 0 [] (oGuard g123 true s133 (oMv g015 s133))) <|
      dSeq (dLook 0 [] (oGuard g123 true s134 (oP (vIdx 1 g132 g133) s134))) <|
      dSeq (dLook 0 [] (oGuard g123 true s135 (oLoad g134 s135))) <|
      dSeq (dAct 0 [] (oGuard g123 true s136 (oCall g124 (fun T => [g131 T, g135 T]) s136))) <|
      dSeq (dLook 0 [] (oGuard g123 true s137 (oP (vLss g136 (kc (.int .i64 0))) s137))) <|
      dSeq (dLook 0 [] (oGuard g123 true s140 (oGen (.un .not (.t 95)) 15 s140))) <|
      dSeq (dLook 0 [] (oP (vPick g123 g140 (kc (.bool false))) s141)) <|
      dNop)
      (ckNop) []) <|
     cCond g141
      (cSeq (cReg 7 (
       oSeq (oMv g000 s142) <|
       oSeq (oMv g001 s143) <|
       oSeq (oMv g002 s144) <|
       oSeq (oMv g015 s145) <|
       oSeq (oMv g004 s146) <|
       oSeq (oCallF 149 (fun T => [g142 T, g143 T, g144 T, g145 T, g146 T]) s147) <|
       oMv g147 s017)) <|
      cSeq (cReg 2 (
       oSeq (oMv g017 s150) <|
       oMv g150 s001)) <|
      cExit 3)
      (cSkip)) <|
     cSeq (cReg 11 (
      oSeq (oMv g000 s152) <|
      oSeq (oMv g001 s153) <|
      oSeq (oMv g002 s154) <|
      oSeq (oMv g015 s155) <|
      oSeq (oMv g004 s156) <|
      oSeq (oCallF 150 (fun T => [g152 T, g153 T, g154 T, g155 T, g156 T]) s157) <|
      oSeq (oMv g157 s151) <|
      oSeq (oP (vExt 0 g151) s160) <|
      oSeq (oP (vExt 1 g151) s161) <|
      oSeq (oMv g160 s020) <|
      oMv g161 s021)) <|
     cSeq (cReg 2 (
      oSeq (oMv g021 s162) <|
      oMv g162 s013)) <|
     cSeq (cReg 8 (
      oSeq (oMv g020 s163) <|
      oSeq (oMv g001 s164) <|
      oSeq (oP (vSub g163 g164) s165) <|
      oSeq (oMv g002 s166) <|
      oSeq (oMv g020 s167) <|
      oSeq (oP (vSub g166 g167) s170) <|
      oSeq (oMv g165 s022) <|
      oMv g170 s023)) <|
     cSeq (cReg 3 (
      oSeq (oMv g014 s171) <|
      oSeq (oGen (.bin .quo .int (.t 121) (.c (.int .i64 8))) 1 s172) <|
      oMv g172 s024)) <|
     cSeq (cReg 3 (
      oSeq (oMv g022 s173) <|
      oSeq (oMv g023 s174) <|
      oP (vLss g173 g174) s175)) <|
     cCond g175
      (cSeq (cReg 4 (
       oSeq (oMv g022 s176) <|
       oSeq (oMv g024 s177) <|
       oSeq (oP (vGeq g176 g177) s200) <|
       oMv g200 s012)) <|
      cSeq (cReg 6 (
       oSeq (oMv g000 s201) <|
       oSeq (oMv g001 s202) <|
       oSeq (oMv g020 s203) <|
       oSeq (oMv g003 s204) <|
       oSeq (oMv g004 s205) <|
       oCallF 121 (fun T => [g201 T, g202 T, g203 T, g204 T, g205 T]) s206)) <|
      cReg 3 (
       oSeq (oMv g020 s207) <|
       oSeq (oP (vAdd g207 (kc (.int .i64 1))) s210) <|
       oMv g210 s001))
      (cSeq (cReg 4 (
       oSeq (oMv g023 s211) <|
       oSeq (oMv g024 s212) <|
       oSeq (oP (vGeq g211 g212) s213) <|
       oMv g213 s012)) <|
      cSeq (cReg 7 (
       oSeq (oMv g000 s214) <|
       oSeq (oMv g020 s215) <|
       oSeq (oP (vAdd g215 (kc (.int .i64 1))) s216) <|
       oSeq (oMv g002 s217) <|
       oSeq (oMv g003 s220) <|
       oSeq (oMv g004 s221) <|
       oCallF 121 (fun T => [g214 T, g216 T, g217 T, g220 T, g221 T]) s222)) <|
      cReg 2 (
       oSeq (oMv g020 s223) <|
       oMv g223 s002)))))⟩
noncomputable def ffn143 : FFn := ⟨4, 53, [],
  cSeq (cReg 3 (
   oSeq (oMv g001 s012) <|
   oSeq (oP (vAdd g012 (kc (.int .i64 1))) s013) <|
   oMv g013 s010)) <|
  cBlock 1 (cLoop 1000000 (cSeq (cSeq (cReg 3 (
     oSeq (oMv g010 s014) <|
     oSeq (oMv g002 s015) <|
     oP (vLss g014 g015) s016)) <|
    cCond g016
     (cSkip)
     (cExit 1)) <|
    cSeq (cBlock 3 (cSeq (cReg 2 (
      oSeq (oMv g010 s021) <|
      oMv g021 s011)) <|
     cBlock 5 (cLoop 1000000 (cSeq (cSeq (cDrw 17 (
        dSeq (dLook 0 [] (oMv g011 s022)) <|
        dSeq (dLook 0 [] (oMv g001 s023)) <|
        dSeq (dLook 0 [] (oP (vGtr g022 g023) s024)) <|
        dSeq (dLook 0 [] (oMv g024 s025)) <|
        dSeq (dLook 0 [] (oGuard g025 true s026 (oMv g003 s026))) <|
        dSeq (dLook 0 [] (oGuard g025 true s027 (oMv g000 s027))) <|
        dSeq (dLook 0 [] (oGuard g025 true s030 (oMv g011 s030))) <|
        dSeq (dLook 0 [] (oGuard g025 true s031 (oP (vIdx 1 g027 g030) s031))) <|
        dSeq (dLook 0 [] (oGuard g025 true s032 (oLoad g031 s032))) <|
        dSeq (dLook 0 [] (oGuard g025 true s033 (oMv g000 s033))) <|
        dSeq (dLook 0 [] (oGuard g025 true s034 (oMv g011 s034))) <|
        dSeq (dLook 0 [] (oGuard g025 true s035 (oP (vSub g034 (kc (.int .i64 1))) s035))) <|
        dSeq (dLook 0 [] (oGuard g025 true s036 (oP (vIdx 1 g033 g035) s036))) <|
        dSeq (dLook 0 [] (oGuard g025 true s037 (oLoad g036 s037))) <|
        dSeq (dAct 0 [] (oGuard g025 true s040 (oCall g026 (fun T => [g032 T, g037 T]) s040))) <|
        dSeq (dLook 0 [] (oGuard g025 true s041 (oP (vLss g040 (kc (.int .i64 0))) s041))) <|
        dSeq (dLook 0 [] (oP (vPick g025 g041 (kc (.bool false))) s042)) <|
        dNop)
        (ckNop) []) <|
       cCond g042
        (cSkip)
        (cExit 5)) <|
       cSeq (cBlock 7 (cDrw 18 (
         dSeq (dLook 0 [] (oMv g000 s045)) <|
         dSeq (dLook 0 [] (oMv g011 s046)) <|
         dSeq (dLook 0 [] (oMv g000 s047)) <|
         dSeq (dLook 0 [] (oMv g011 s050)) <|
         dSeq (dLook 0 [] (oP (vSub g050 (kc (.int .i64 1))) s051)) <|
         dSeq (dLook 0 [] (oMv g000 s052)) <|
         dSeq (dLook 0 [] (oMv g011 s053)) <|
         dSeq (dLook 0 [] (oP (vSub g053 (kc (.int .i64 1))) s054)) <|
         dSeq (dLook 0 [] (oP (vIdx 1 g052 g054) s055)) <|
         dSeq (dLook 0 [] (oLoad g055 s056)) <|
         dSeq (dLook 0 [] (oMv g000 s057)) <|
         dSeq (dLook 0 [] (oMv g011 s060)) <|
         dSeq (dLook 0 [] (oP (vIdx 1 g057 g060) s061)) <|
         dSeq (dLook 0 [] (oLoad g061 s062)) <|
         dSeq (dLook 0 [] (oP (vIdx 1 g045 g046) s063)) <|
         dSeq (dAct 0 [] (oStore g063 g056 noPut)) <|
         dSeq (dLook 0 [] (oP (vIdx 1 g047 g051) s064)) <|
         dSeq (dAct 0 [] (oStore g064 g062 noPut)) <|
         dNop)
         (ckNop) [])) <|
       cReg 3 (
        oSeq (oMv g011 s043) <|
        oSeq (oP (vSub g043 (kc (.int .i64 1))) s044) <|
        oMv g044 s011))))) <|
    cReg 3 (
     oSeq (oMv g010 s017) <|
     oSeq (oP (vAdd g017 (kc (.int .i64 1))) s020) <|
     oMv g020 s010)))⟩
noncomputable def ffn99 : FFn := ⟨2, 14, [(4, none)],
  cSeq (cReg 1 (
   oMv (kc (.int .i64 0)) s004)) <|
  cSeq (cReg 8 (
   oSeq (oMv g000 s010) <|
   oSeq (oMv g001 s011) <|
   oSeq (oCallF 100 (fun T => [g010 T, g011 T]) s012) <|
   oSeq (oMv g012 s007) <|
   oSeq (oP (vExt 0 g007) s013) <|
   oSeq (oP (vExt 1 g007) s014) <|
   oSeq (oMv g013 s005) <|
   oMv g014 s006)) <|
  cSeq (cReg 2 (
   oSeq (oMv g005 s015) <|
   oMv g015 s004)) <|
  cExit 0⟩
noncomputable def ffn100 : FFn := ⟨2, 17, [(4, none), (5, none)],
  cSeq (cReg 2 (
   oSeq (oMv (kc (.int .i64 0)) s004) <|
   oMv (kc (.int .i64 0)) s005)) <|
  cSeq (cSeq (cReg 5 (
   oSeq (oMv g000 s007) <|
   oSeq (oMv g001 s010) <|
   oSeq (oBuildSlice 41 1 [.nilSl, .nilSl] 2 [((0, 1), g007), ((1, 1), g010)] 2 s011) <|
   oSeq (oCallF 77 (fun T => [g011 T]) s012) <|
   oMv g012 s006)) <|
  cSeq (cReg 2 (
   oSeq (oMv g006 s013) <|
   oP (vNeq g013 (kc (.int .i64 0))) s014)) <|
  cCond g014
   (cSeq (cReg 3 (
    oSeq (oMv g006 s015) <|
    oSeq (oMv (kc (.int .i64 0)) s004) <|
    oMv g015 s005)) <|
   cExit 0)
   (cSkip)) <|
  cSeq (cReg 5 (
   oSeq (oMv g000 s016) <|
   oSeq (oMv g001 s017) <|
   oSeq (oCallF 123 (fun T => [g016 T, g017 T, (.fn (.func 124) [] [])]) s020) <|
   oSeq (oMv g020 s004) <|
   oMv (kc (.int .i64 0)) s005)) <|
  cExit 0⟩
noncomputable def ffn123 : FFn := ⟨3, 39, [(6, none)],
  cSeq (cReg 1 (
   oMv (kc (.int .i64 0)) s006)) <|
  cSeq (cSeq (cReg 3 (
   oSeq (oMv g000 s013) <|
   oSeq (oP (vLen g013) s014) <|
   oMv (kc (.int .i64 0)) s015)) <|
  cBlock 1 (cLoop 1000000 (cSeq (cReg 1 (
     oP (vLss g015 g014) s016)) <|
    cSeq (cCond g016
     (cSkip)
     (cExit 1)) <|
    cSeq (cBlock 3 (cSeq (cReg 6 (
      oSeq (oMv g015 s017) <|
      oSeq (oP (vIdx 2 g013 g015) s020) <|
      oSeq (oLoadN 2 g020 s021) <|
      oSeq (oAlloc 33 [(.bool false), .nilSl] 3 s010) <|
      oSeq (oMv g017 s007) <|
      oStoreN 2 g010 g021 noPut)) <|
     cSeq (cSeq (cReg 4 (
      oSeq (oMv g007 s022) <|
      oSeq (oMv g001 s023) <|
      oSeq (oP (vLen g023) s024) <|
      oP (vGeq g022 g024) s025)) <|
     cCond g025
      (cSeq (cReg 1 (
       oMv (kc (.int .i64 1)) s006)) <|
      cExit 0)
      (cSkip)) <|
     cSeq (cReg 6 (
      oSeq (oMv g001 s026) <|
      oSeq (oMv g007 s027) <|
      oSeq (oP (vIdx 2 g026 g027) s030) <|
      oSeq (oLoadN 2 g030 s031) <|
      oSeq (oAlloc 33 [(.bool false), .nilSl] 4 s011) <|
      oStoreN 2 g011 g031 noPut)) <|
     cSeq (cReg 5 (
      oSeq (oMv g002 s032) <|
      oSeq (oLoadN 2 g010 s033) <|
      oSeq (oLoadN 2 g011 s034) <|
      oSeq (oCall g032 (fun T => [g033 T, g034 T]) s035) <|
      oMv g035 s012)) <|
     cSeq (cReg 2 (
      oSeq (oMv g012 s036) <|
      oP (vNeq g036 (kc (.int .i64 0))) s037)) <|
     cCond g037
      (cSeq (cReg 2 (
       oSeq (oMv g012 s040) <|
       oMv g040 s006)) <|
      cExit 0)
      (cSkip))) <|
    cReg 2 (
     oSeq (oP (vAdd g015 (kc (.int .i64 1))) s041) <|
     oMv g041 s015)))) <|
  cSeq (cSeq (cReg 5 (
   oSeq (oMv g000 s042) <|
   oSeq (oP (vLen g042) s043) <|
   oSeq (oMv g001 s044) <|
   oSeq (oP (vLen g044) s045) <|
   oP (vLss g043 g045) s046)) <|
  cCond g046
   (cSeq (cReg 1 (
    oMv (kc (.int .i64 (-1))) s006)) <|
   cExit 0)
   (cSkip)) <|
  cSeq (cReg 1 (
   oMv (kc (.int .i64 0)) s006)) <|
  cExit 0⟩
noncomputable def ffn124 : FFn := ⟨2, 14, [(4, none)],
  cSeq (cReg 3 (
   oSeq (oBox 33 g000 0 s002) <|
   oSeq (oBox 33 g001 1 s003) <|
   oMv (kc (.int .i64 0)) s004)) <|
  cSeq (cReg 8 (
   oSeq (oLoadN 2 g002 s010) <|
   oSeq (oLoadN 2 g003 s011) <|
   oSeq (oCallF 49 (fun T => [g010 T, g011 T]) s012) <|
   oSeq (oMv g012 s007) <|
   oSeq (oP (vExt 0 g007) s013) <|
   oSeq (oP (vExt 1 g007) s014) <|
   oSeq (oMv g013 s005) <|
   oMv g014 s006)) <|
  cSeq (cReg 2 (
   oSeq (oMv g005 s015) <|
   oMv g015 s004)) <|
  cExit 0⟩
noncomputable def ffn49 : FFn := ⟨2, 19, [(4, none), (5, none)],
  cSeq (cReg 4 (
   oSeq (oBox 33 g000 0 s002) <|
   oSeq (oBox 33 g001 1 s003) <|
   oSeq (oMv (kc (.int .i64 0)) s004) <|
   oMv (kc (.int .i64 0)) s005)) <|
  cSeq (cReg 9 (
   oSeq (oLoadN 2 g002 s011) <|
   oSeq (oLoadN 2 g003 s012) <|
   oSeq (oCallF 82 (fun T => [g011 T, g012 T]) s013) <|
   oSeq (oMv g013 s010) <|
   oSeq (oP (vExt 0 g010) s014) <|
   oSeq (oP (vExt 1 g010) s015) <|
   oSeq (oAlloc 33 [(.bool false), .nilSl] 6 s006) <|
   oSeq (oStoreN 2 g006 g014 noPut) <|
   oMv g015 s007)) <|
  cSeq (cSeq (cReg 2 (
   oSeq (oMv g007 s016) <|
   oP (vNeq g016 (kc (.int .i64 0))) s017)) <|
  cCond g017
   (cSeq (cReg 3 (
    oSeq (oMv g007 s020) <|
    oSeq (oMv (kc (.int .i64 0)) s004) <|
    oMv g020 s005)) <|
   cExit 0)
   (cSkip)) <|
  cSeq (cReg 4 (
   oSeq (oLoadN 2 g006 s021) <|
   oSeq (oCallF 80 (fun T => [g021 T]) s022) <|
   oSeq (oMv g022 s004) <|
   oMv (kc (.int .i64 0)) s005)) <|
  cExit 0⟩
noncomputable def ffn82 : FFn := ⟨2, 23, [(4, (some (some 2))), (5, none)],
  cSeq (cReg 4 (
   oSeq (oBox 33 g000 0 s002) <|
   oSeq (oBox 33 g001 1 s003) <|
   oSeq (oAlloc 33 [(.bool false), .nilSl] 2 s004) <|
   oMv (kc (.int .i64 0)) s005)) <|
  cSeq (cSeq (cReg 5 (
   oSeq (oLoadN 2 g002 s007) <|
   oSeq (oLoadN 2 g003 s010) <|
   oSeq (oBuildSlice 33 2 [(.bool false), .nilSl, (.bool false), .nilSl] 2 [((0, 2), g007), ((2, 2), g010)] 2 s011) <|
   oSeq (oCallF 107 (fun T => [g011 T]) s012) <|
   oMv g012 s006)) <|
  cSeq (cReg 2 (
   oSeq (oMv g006 s013) <|
   oP (vNeq g013 (kc (.int .i64 0))) s014)) <|
  cCond g014
   (cSeq (cReg 4 (
    oSeq (oP (vBuild [(.bool false), .nilSl] []) s015) <|
    oSeq (oMv g006 s016) <|
    oSeq (oStoreN 2 g004 g015 noPut) <|
    oMv g016 s005)) <|
   cExit 0)
   (cSkip)) <|
  cSeq (cDrw 10 (
   dSeq (dLook 0 [] (oLoadN 2 g002 s017)) <|
   dSeq (dLook 0 [] (oP (vFA 0 g003) s020)) <|
   dSeq (dLook 0 [] (oLoad g020 s021)) <|
   dSeq (dLook 0 [] (oGen (.un .not (.t 17)) 3 s022)) <|
   dSeq (dLook 0 [] (oP (vFA 1 g003) s023)) <|
   dSeq (dLook 0 [] (oLoad g023 s024)) <|
   dSeq (dAct 0 [] (oCallF 40 (fun T => [g022 T, g024 T]) s025)) <|
   dSeq (dAct 0 [] (oCallF 106 (fun T => [g017 T, g025 T]) s026)) <|
   dSeq (dAct 0 [] (oStoreN 2 g004 g026 noPut)) <|
   dSeq (dLook 0 [] (oMv (kc (.int .i64 0)) s005)) <|
   dNop)
   (ckSeq (ckOne g017 2 [] (oLoadN 2 g002 s017)) <|
  ckNop) []) <|
  cExit 0⟩
noncomputable def ffn71 : FFn := ⟨2, 9, [(4, none)],
  cSeq (cReg 1 (
   oMv (kc (.bool false)) s004)) <|
  cSeq (cReg 5 (
   oSeq (oMv g000 s005) <|
   oSeq (oMv g001 s006) <|
   oSeq (oCallF 101 (fun T => [g005 T, g006 T]) s007) <|
   oSeq (oP (vGeq g007 (kc (.int .i64 0))) s010) <|
   oMv g010 s004)) <|
  cExit 0⟩
noncomputable def ffn72 : FFn := ⟨1, 6, [(2, none)],
  cSeq (cReg 1 (
   oMv (kc (.bool false)) s002)) <|
  cSeq (cReg 4 (
   oSeq (oMv g000 s003) <|
   oSeq (oCallF 73 (fun T => [g003 T]) s004) <|
   oSeq (oP (vGtr g004 (kc (.int .i64 0))) s005) <|
   oMv g005 s002)) <|
  cExit 0⟩
noncomputable def ffn73 : FFn := ⟨1, 16, [(2, none)],
  cSeq (cReg 1 (
   oMv (kc (.int .i64 0)) s002)) <|
  cSeq (cSeq (cReg 3 (
   oSeq (oMv g000 s005) <|
   oSeq (oP (vLen g005) s006) <|
   oP (vEql g006 (kc (.int .i64 0))) s007)) <|
  cCond g007
   (cSeq (cReg 1 (
    oMv (kc (.int .i64 0)) s002)) <|
   cExit 0)
   (cSkip)) <|
  cSeq (cReg 9 (
   oSeq (oMv g000 s011) <|
   oSeq (oP (vIdx 2 g011 (kc (.int .i64 0))) s012) <|
   oSeq (oLoadN 2 g012 s013) <|
   oSeq (oCallF 46 (fun T => [g013 T]) s014) <|
   oSeq (oMv g014 s010) <|
   oSeq (oP (vExt 0 g010) s015) <|
   oSeq (oP (vExt 1 g010) s016) <|
   oSeq (oMv g015 s003) <|
   oMv g016 s004)) <|
  cSeq (cReg 2 (
   oSeq (oMv g003 s017) <|
   oMv g017 s002)) <|
  cExit 0⟩
noncomputable def ffn38 : FFn := ⟨2, 22, [(4, (some (some 3))), (5, none)],
  cSeq (cReg 2 (
   oSeq (oAlloc 25 [(.int .i64 0), .nilSl, .nilSl] 0 s004) <|
   oMv (kc (.int .i64 0)) s005)) <|
  cSeq (cSeq (cReg 3 (
   oSeq (oMv g001 s007) <|
   oSeq (oP (vLen g007) s010) <|
   oP (vGeq g010 (kc (.int .i64 1024))) s011)) <|
  cCond g011
   (cSeq (cReg 3 (
    oSeq (oP (vBuild [(.int .i64 0), .nilSl, .nilSl] []) s012) <|
    oSeq (oStoreN 3 g004 g012 noPut) <|
    oMv (kc (.int .i64 4)) s005)) <|
   cExit 0)
   (cSkip)) <|
  cSeq (cReg 4 (
   oSeq (oMv g000 s013) <|
   oSeq (oMv g001 s014) <|
   oSeq (oCallF 55 (fun T => [g013 T, g014 T]) s015) <|
   oMv g015 s006)) <|
  cSeq (cSeq (cReg 3 (
   oSeq (oMv g006 s016) <|
   oSeq (oP (vLen g016) s017) <|
   oP (vGeq g017 (kc (.int .i64 1024))) s020)) <|
  cCond g020
   (cSeq (cReg 3 (
    oSeq (oP (vBuild [(.int .i64 0), .nilSl, .nilSl] []) s021) <|
    oSeq (oStoreN 3 g004 g021 noPut) <|
    oMv (kc (.int .i64 4)) s005)) <|
   cExit 0)
   (cSkip)) <|
  cSeq (cReg 6 (
   oSeq (oMv g000 s022) <|
   oSeq (oMv g006 s023) <|
   oSeq (oMv g001 s024) <|
   oSeq (oP (vBuild [(.int .i64 0), .nilSl, .nilSl] [((0, 1), g022), ((1, 1), g023), ((2, 1), g024)]) s025) <|
   oSeq (oStoreN 3 g004 g025 noPut) <|
   oMv (kc (.int .i64 0)) s005)) <|
  cExit 0⟩
noncomputable def ffn55 : FFn := ⟨2, 84, [(4, none)],
  cSeq (cReg 1 (
   oMv (kc .nilSl) s004)) <|
  cSeq (cReg 2 (
   oSeq (oMv (kc .nilSl) s005) <|
   oMv (kc .nilSl) s006)) <|
  cSeq (cReg 1 (
   oMv (kc (.bool false)) s007)) <|
  cSeq (cSeq (cReg 3 (
   oSeq (oMv g001 s021) <|
   oSeq (oP (vLen g021) s022) <|
   oMv (kc (.int .i64 0)) s023)) <|
  cBlock 1 (cLoop 1000000 (cSeq (cReg 1 (
     oP (vLss g023 g022) s024)) <|
    cSeq (cCond g024
     (cSkip)
     (cExit 1)) <|
    cSeq (cBlock 3 (cSeq (cReg 4 (
      oSeq (oP (vIdx 2 g021 g023) s025) <|
      oSeq (oLoadN 2 g025 s026) <|
      oSeq (oAlloc 48 [(.int .u8 0), .nilSl] 2 s011) <|
      oStoreN 2 g011 g026 noPut)) <|
     cSeq (cReg 2 (
      oSeq (oP (vFA 0 g011) s027) <|
      oLoad g027 s030)) <|
     cBlock 5 (cSeq (cBlock 11 (cSeq (cBlock 9 (cSeq (cBlock 7 (cSeq (cSeq (cSeq (cReg 2 (
          oSeq (oP (vEql g030 (kc (.int .u8 1))) s032) <|
          oMv g032 s031)) <|
         cCond g031
          (cExit 7)
          (cSkip)) <|
         cSeq (cReg 2 (
          oSeq (oP (vEql g030 (kc (.int .u8 3))) s034) <|
          oMv g034 s033)) <|
         cCond g033
          (cExit 9)
          (cSkip)) <|
         cExit 11)) <|
        cSeq (cSeq (cReg 6 (
         oSeq (oMv g005 s035) <|
         oSeq (oP (vFA 1 g011) s036) <|
         oSeq (oLoad g036 s037) <|
         oSeq (oBuildSlice 41 1 [.nilSl] 1 [((0, 1), g037)] 3 s040) <|
         oSeq (oGen (.append 1 24 41 [.nilSl] (.t 29) (.t 32)) 4 s041) <|
         oMv g041 s005)) <|
        cExit 3) <|
        cExit 5)) <|
       cReg 1 (
        oMv (kc (.bool true)) s007))) <|
      cSeq (cReg 6 (
       oSeq (oMv g006 s042) <|
       oSeq (oP (vFA 1 g011) s043) <|
       oSeq (oLoad g043 s044) <|
       oSeq (oBuildSlice 41 1 [.nilSl] 1 [((0, 1), g044)] 3 s045) <|
       oSeq (oGen (.append 1 24 41 [.nilSl] (.t 34) (.t 37)) 4 s046) <|
       oMv g046 s006)) <|
      cExit 5))) <|
    cReg 2 (
     oSeq (oP (vAdd g023 (kc (.int .i64 1))) s047) <|
     oMv g047 s023)))) <|
  cSeq (cSeq (cReg 2 (
   oSeq (oMv g007 s050) <|
   oGen (.un .not (.t 40)) 1 s051)) <|
  cCond g051
   (cSeq (cReg 5 (
    oSeq (oMv g000 s052) <|
    oSeq (oCallF 69 (fun T => [g052 T, (.int .i64 (-1))]) s053) <|
    oSeq (oP (vBuild [.nilSl, (.bool false)] [((0, 1), g053)]) s054) <|
    oSeq (oBuildSlice 56 2 [.nilSl, (.bool false)] 1 [((0, 2), g054)] 3 s055) <|
    oMv g055 s004)) <|
   cExit 0)
   (cSkip)) <|
  cSeq (cReg 12 (
   oSeq (oMv g000 s057) <|
   oSeq (oP (vAdd g057 (kc (.int .i64 1))) s060) <|
   oSeq (oMv g005 s061) <|
   oSeq (oMv g006 s062) <|
   oSeq (oCallF 70 (fun T => [g060 T, g061 T, g062 T]) s063) <|
   oSeq (oMv g063 s056) <|
   oSeq (oP (vExt 0 g056) s064) <|
   oSeq (oP (vExt 1 g056) s065) <|
   oSeq (oP (vExt 2 g056) s066) <|
   oSeq (oMv g064 s012) <|
   oSeq (oMv g065 s013) <|
   oMv g066 s014)) <|
  cSeq (cSeq (cReg 3 (
   oSeq (oMv g012 s067) <|
   oSeq (oP (vLen g067) s070) <|
   oMv (kc (.int .i64 0)) s071)) <|
  cBlock 13 (cLoop 1000000 (cSeq (cReg 1 (
     oP (vLss g071 g070) s072)) <|
    cSeq (cCond g072
     (cSkip)
     (cExit 13)) <|
    cSeq (cBlock 15 (cSeq (cReg 3 (
      oSeq (oP (vIdx 1 g067 g071) s073) <|
      oSeq (oLoad g073 s074) <|
      oMv g074 s016)) <|
     cReg 6 (
      oSeq (oMv g004 s075) <|
      oSeq (oMv g016 s076) <|
      oSeq (oP (vBuild [.nilSl, (.bool false)] [((0, 1), g076), ((1, 1), (kc (.bool true)))]) s077) <|
      oSeq (oBuildSlice 56 2 [.nilSl, (.bool false)] 1 [((0, 2), g077)] 3 s100) <|
      oSeq (oGen (.append 2 32 56 [.nilSl, (.bool false)] (.t 61) (.t 64)) 4 s101) <|
      oMv g101 s004))) <|
    cReg 2 (
     oSeq (oP (vAdd g071 (kc (.int .i64 1))) s102) <|
     oMv g102 s071)))) <|
  cSeq (cSeq (cReg 3 (
   oSeq (oMv g013 s103) <|
   oSeq (oP (vLen g103) s104) <|
   oMv (kc (.int .i64 0)) s105)) <|
  cBlock 17 (cLoop 1000000 (cSeq (cReg 1 (
     oP (vLss g105 g104) s106)) <|
    cSeq (cCond g106
     (cSkip)
     (cExit 17)) <|
    cSeq (cBlock 19 (cSeq (cReg 3 (
      oSeq (oP (vIdx 1 g103 g105) s107) <|
      oSeq (oLoad g107 s110) <|
      oMv g110 s020)) <|
     cSeq (cReg 5 (
      oSeq (oMv g020 s111) <|
      oSeq (oMv g000 s112) <|
      oSeq (oCallF 69 (fun T => [g112 T, (.int .i64 1)]) s113) <|
      oSeq (oCallF 62 (fun T => [g111 T, g113 T]) s114) <|
      oGen (.un .not (.t 76)) 4 s115)) <|
     cCond g115
      (cReg 6 (
       oSeq (oMv g004 s116) <|
       oSeq (oMv g020 s117) <|
       oSeq (oP (vBuild [.nilSl, (.bool false)] [((0, 1), g117)]) s120) <|
       oSeq (oBuildSlice 56 2 [.nilSl, (.bool false)] 1 [((0, 2), g120)] 3 s121) <|
       oSeq (oGen (.append 2 32 56 [.nilSl, (.bool false)] (.t 78) (.t 81)) 4 s122) <|
       oMv g122 s004))
      (cSkip))) <|
    cReg 2 (
     oSeq (oP (vAdd g105 (kc (.int .i64 1))) s123) <|
     oMv g123 s105)))) <|
  cExit 0⟩
noncomputable def ffn62 : FFn := ⟨2, 8, [(4, none)],
  cSeq (cReg 1 (
   oMv (kc (.bool false)) s004)) <|
  cSeq (cReg 4 (
   oSeq (oMv g000 s005) <|
   oSeq (oMv g001 s006) <|
   oSeq (oCallF 89 (fun T => [g005 T, g006 T, (.fn (.func 90) [] [])]) s007) <|
   oMv g007 s004)) <|
  cExit 0⟩
noncomputable def ffn89 : FFn := ⟨3, 32, [(6, none)],
  cSeq (cReg 1 (
   oMv (kc (.bool false)) s006)) <|
  cSeq (cSeq (cReg 5 (
   oSeq (oMv g000 s012) <|
   oSeq (oP (vLen g012) s013) <|
   oSeq (oMv g001 s014) <|
   oSeq (oP (vLen g014) s015) <|
   oP (vNeq g013 g015) s016)) <|
  cCond g016
   (cSeq (cReg 1 (
    oMv (kc (.bool false)) s006)) <|
   cExit 0)
   (cSkip)) <|
  cSeq (cSeq (cReg 3 (
   oSeq (oMv g000 s017) <|
   oSeq (oP (vLen g017) s020) <|
   oMv (kc (.int .i64 0)) s021)) <|
  cBlock 1 (cLoop 1000000 (cSeq (cReg 1 (
     oP (vLss g021 g020) s022)) <|
    cSeq (cCond g022
     (cSkip)
     (cExit 1)) <|
    cSeq (cBlock 3 (cSeq (cReg 6 (
      oSeq (oMv g021 s023) <|
      oSeq (oP (vIdx 2 g017 g021) s024) <|
      oSeq (oLoadN 2 g024 s025) <|
      oSeq (oAlloc 33 [(.bool false), .nilSl] 3 s010) <|
      oSeq (oMv g023 s007) <|
      oStoreN 2 g010 g025 noPut)) <|
     cSeq (cReg 6 (
      oSeq (oMv g001 s026) <|
      oSeq (oMv g007 s027) <|
      oSeq (oP (vIdx 2 g026 g027) s030) <|
      oSeq (oLoadN 2 g030 s031) <|
      oSeq (oAlloc 33 [(.bool false), .nilSl] 4 s011) <|
      oStoreN 2 g011 g031 noPut)) <|
     cSeq (cReg 5 (
      oSeq (oMv g002 s032) <|
      oSeq (oLoadN 2 g010 s033) <|
      oSeq (oLoadN 2 g011 s034) <|
      oSeq (oCall g032 (fun T => [g033 T, g034 T]) s035) <|
      oGen (.un .not (.t 29)) 4 s036)) <|
     cCond g036
      (cSeq (cReg 1 (
       oMv (kc (.bool false)) s006)) <|
      cExit 0)
      (cSkip))) <|
    cReg 2 (
     oSeq (oP (vAdd g021 (kc (.int .i64 1))) s037) <|
     oMv g037 s021)))) <|
  cSeq (cReg 1 (
   oMv (kc (.bool true)) s006)) <|
  cExit 0⟩
noncomputable def ffn90 : FFn := ⟨2, 17, [(4, none)],
  cSeq (cReg 3 (
   oSeq (oBox 33 g000 0 s002) <|
   oSeq (oBox 33 g001 1 s003) <|
   oMv (kc (.bool false)) s004)) <|
  cSeq (cReg 13 (
   oSeq (oP (vFA 0 g002) s005) <|
   oSeq (oLoad g005 s006) <|
   oSeq (oP (vFA 0 g003) s007) <|
   oSeq (oLoad g007 s010) <|
   oSeq (oGen (.bin .eql .bool (.t 6) (.t 8)) 4 s011) <|
   oSeq (oMv g011 s012) <|
   oSeq (oGuard g012 true s013 (oP (vFA 1 g002) s013)) <|
   oSeq (oGuard g012 true s014 (oLoad g013 s014)) <|
   oSeq (oGuard g012 true s015 (oP (vFA 1 g003) s015)) <|
   oSeq (oGuard g012 true s016 (oLoad g015 s016)) <|
   oSeq (oGuard g012 true s017 (oCallF 111 (fun T => [g014 T, g016 T]) s017)) <|
   oSeq (oP (vPick g012 g017 (kc (.bool false))) s020) <|
   oMv g020 s004)) <|
  cExit 0⟩
noncomputable def ffn111 : FFn := ⟨2, 26, [(4, none)],
  cSeq (cReg 1 (
   oMv (kc (.bool false)) s004)) <|
  cSeq (cSeq (cReg 5 (
   oSeq (oMv g000 s006) <|
   oSeq (oP (vLen g006) s007) <|
   oSeq (oMv g001 s010) <|
   oSeq (oP (vLen g010) s011) <|
   oP (vNeq g007 g011) s012)) <|
  cCond g012
   (cSeq (cReg 1 (
    oMv (kc (.bool false)) s004)) <|
   cExit 0)
   (cSkip)) <|
  cSeq (cSeq (cReg 3 (
   oSeq (oMv g000 s013) <|
   oSeq (oP (vLen g013) s014) <|
   oMv (kc (.int .i64 0)) s015)) <|
  cBlock 1 (cLoop 1000000 (cSeq (cReg 1 (
     oP (vLss g015 g014) s016)) <|
    cSeq (cCond g016
     (cSkip)
     (cExit 1)) <|
    cSeq (cBlock 3 (cSeq (cReg 2 (
      oSeq (oMv g015 s017) <|
      oMv g017 s005)) <|
     cSeq (cDrw 9 (
      dSeq (dLook 0 [] (oMv g000 s020)) <|
      dSeq (dLook 0 [] (oMv g005 s021)) <|
      dSeq (dLook 0 [] (oP (vIdx 1 g020 g021) s022)) <|
      dSeq (dLook 0 [] (oLoad g022 s023)) <|
      dSeq (dLook 0 [] (oMv g001 s024)) <|
      dSeq (dLook 0 [] (oMv g005 s025)) <|
      dSeq (dLook 0 [] (oP (vIdx 1 g024 g025) s026)) <|
      dSeq (dLook 0 [] (oLoad g026 s027)) <|
      dSeq (dLook 0 [] (oP (vNeq g023 g027) s030)) <|
      dNop)
      (ckNop) []) <|
     cCond g030
      (cSeq (cReg 1 (
       oMv (kc (.bool false)) s004)) <|
      cExit 0)
      (cSkip))) <|
    cReg 2 (
     oSeq (oP (vAdd g015 (kc (.int .i64 1))) s031) <|
     oMv g031 s015)))) <|
  cSeq (cReg 1 (
   oMv (kc (.bool true)) s004)) <|
  cExit 0⟩
noncomputable def ffn5 : FFn := ⟨1, 8, [(2, (some (some 3))), (3, none)],
  cSeq (cReg 2 (
   oSeq (oAlloc 25 [(.int .i64 0), .nilSl, .nilSl] 0 s002) <|
   oMv (kc (.int .i64 0)) s003)) <|
  cSeq (cReg 6 (
   oSeq (oMv g000 s004) <|
   oSeq (oCallF 17 (fun T => [g004 T, .nilSl]) s005) <|
   oSeq (oP (vExt 0 g005) s006) <|
   oSeq (oP (vExt 1 g005) s007) <|
   oSeq (oStoreN 3 g002 g006 noPut) <|
   oMv g007 s003)) <|
  cExit 0⟩
noncomputable def ffn6 : FFn := ⟨1, 25, [(2, (some (some 3))), (3, none)],
  cSeq (cReg 2 (
   oSeq (oAlloc 25 [(.int .i64 0), .nilSl, .nilSl] 0 s002) <|
   oMv (kc (.int .i64 0)) s003)) <|
  cSeq (cSeq (cReg 6 (
   oSeq (oMv g000 s005) <|
   oSeq (oP (vLss g005 (kc (.int .i64 0))) s006) <|
   oSeq (oMv g006 s007) <|
   oSeq (oGuard g007 false s010 (oMv g000 s010)) <|
   oSeq (oGuard g007 false s011 (oP (vGtr g010 (kc (.int .i64 8))) s011)) <|
   oP (vPick g007 (kc (.bool true)) g011) s012)) <|
  cCond g012
   (cSeq (cReg 3 (
    oSeq (oP (vBuild [(.int .i64 0), .nilSl, .nilSl] []) s013) <|
    oSeq (oStoreN 3 g002 g013 noPut) <|
    oMv (kc (.int .i64 2)) s003)) <|
   cExit 0)
   (cSkip)) <|
  cSeq (cReg 4 (
   oSeq (oMv g000 s014) <|
   oSeq (oP (vAdd g014 (kc (.int .i64 1))) s015) <|
   oSeq (oGen (.mksl 33 2 32 [(.bool false), .nilSl] (.t 13) (.t 13)) 2 s016) <|
   oMv g016 s004)) <|
  cSeq (cReg 4 (
   oSeq (oMv g004 s017) <|
   oSeq (oCallF 19 (fun _ => [(.int .i64 (-1))]) s020) <|
   oSeq (oP (vIdx 2 g017 (kc (.int .i64 0))) s021) <|
   oStoreN 2 g021 g020 noPut)) <|
  cSeq (cReg 9 (
   oSeq (oMv g000 s022) <|
   oSeq (oMv g004 s023) <|
   oSeq (oP (vBuild [.nilSl, (.bool false)] [((0, 1), g023)]) s024) <|
   oSeq (oBuildSlice 56 2 [.nilSl, (.bool false)] 1 [((0, 2), g024)] 3 s025) <|
   oSeq (oCallF 17 (fun T => [g022 T, g025 T]) s026) <|
   oSeq (oP (vExt 0 g026) s027) <|
   oSeq (oP (vExt 1 g026) s030) <|
   oSeq (oStoreN 3 g002 g027 noPut) <|
   oMv g030 s003)) <|
  cExit 0⟩
noncomputable def ffn7 : FFn := ⟨2, 84, [(4, (some (some 6))), (5, none)],
  cSeq (cReg 3 (
   oSeq (oBox 25 g000 0 s002) <|
   oSeq (oAlloc 37 [(.bool false), (.bool false), .nilSl, (.bool false), (.bool false), .nilSl] 1 s004) <|
   oMv (kc (.int .i64 0)) s005)) <|
  cSeq (cSeq (cReg 3 (
   oSeq (oLoadN 3 g002 s015) <|
   oSeq (oCallF 16 (fun T => [g015 T]) s016) <|
   oMv g016 s006)) <|
  cSeq (cReg 2 (
   oSeq (oMv g006 s017) <|
   oP (vNeq g017 (kc (.int .i64 0))) s020)) <|
  cCond g020
   (cSeq (cReg 4 (
    oSeq (oP (vBuild [(.bool false), (.bool false), .nilSl, (.bool false), (.bool false), .nilSl] []) s021) <|
    oSeq (oMv g006 s022) <|
    oSeq (oStoreN 6 g004 g021 noPut) <|
    oMv g022 s005)) <|
   cExit 0)
   (cSkip)) <|
  cSeq (cBlock 1 (cSeq (cReg 4 (
    oSeq (oMv g001 s024) <|
    oSeq (oCallF 20 (fun T => [g024 T]) s025) <|
    oSeq (oP (vNeq g025 (kc (.int .i64 0))) s026) <|
    oMv g026 s023)) <|
   cCond g023
    (cSeq (cReg 3 (
     oSeq (oP (vBuild [(.bool false), (.bool false), .nilSl, (.bool false), (.bool false), .nilSl] []) s027) <|
     oSeq (oStoreN 6 g004 g027 noPut) <|
     oMv (kc (.int .i64 8)) s005)) <|
    cExit 0)
    (cSeq (cReg 7 (
     oSeq (oMv g001 s031) <|
     oSeq (oP (vLen g031) s032) <|
     oSeq (oP (vFA 0 g002) s033) <|
     oSeq (oLoad g033 s034) <|
     oSeq (oP (vAdd g034 (kc (.int .i64 1))) s035) <|
     oSeq (oP (vNeq g032 g035) s036) <|
     oMv g036 s030)) <|
    cCond g030
     (cSeq (cReg 3 (
      oSeq (oP (vBuild [(.bool false), (.bool false), .nilSl, (.bool false), (.bool false), .nilSl] []) s037) <|
      oSeq (oStoreN 6 g004 g037 noPut) <|
      oMv (kc (.int .i64 70)) s005)) <|
     cExit 0)
     (cSeq (cReg 5 (
      oSeq (oP (vFA 2 g002) s041) <|
      oSeq (oLoad g041 s042) <|
      oSeq (oP (vLen g042) s043) <|
      oSeq (oP (vEql g043 (kc (.int .i64 0))) s044) <|
      oMv g044 s040)) <|
     cCond g040
      (cSeq (cReg 3 (
       oSeq (oP (vBuild [(.bool false), (.bool false), .nilSl, (.bool false), (.bool false), .nilSl] []) s045) <|
       oSeq (oStoreN 6 g004 g045 noPut) <|
       oMv (kc (.int .i64 6)) s005)) <|
      cExit 0)
      (cSkip))))) <|
  cSeq (cReg 4 (
   oSeq (oMv g001 s046) <|
   oSeq (oP (vBuild [.nilSl, (.bool false), (.bool false), .nilSl, (.bool false), (.bool false), .nilSl, (.bool false)] [((0, 1), g046)]) s047) <|
   oSeq (oBox 62 g047 2 s050) <|
   oMv g050 s007)) <|
  cSeq (cReg 3 (
   oSeq (oMv g007 s051) <|
   oSeq (oGen (.mkfn (.func 21) [(.t 41)] []) 1 s052) <|
   oMv g052 s010)) <|
  cSeq (cSeq (cReg 4 (
   oSeq (oP (vFA 2 g002) s053) <|
   oSeq (oLoad g053 s054) <|
   oSeq (oP (vLen g054) s055) <|
   oMv (kc (.int .i64 0)) s056)) <|
  cBlock 3 (cLoop 1000000 (cSeq (cReg 1 (
     oP (vLss g056 g055) s057)) <|
    cSeq (cCond g057
     (cSkip)
     (cExit 3)) <|
    cSeq (cBlock 5 (cSeq (cReg 4 (
      oSeq (oP (vIdx 2 g054 g056) s060) <|
      oSeq (oLoadN 2 g060 s061) <|
      oSeq (oAlloc 48 [(.int .u8 0), .nilSl] 2 s012) <|
      oStoreN 2 g012 g061 noPut)) <|
     cReg 3 (
      oSeq (oMv g010 s062) <|
      oSeq (oLoadN 2 g012 s063) <|
      oCall g062 (fun T => [g063 T]) s064))) <|
    cReg 2 (
     oSeq (oP (vAdd g056 (kc (.int .i64 1))) s065) <|
     oMv g065 s056)))) <|
  cSeq (cSeq (cDrw 9 (
   dSeq (dLook 0 [] (oMv g007 s066)) <|
   dSeq (dLook 0 [] (oGen (.nilCheck (.t 54)) 1 s067)) <|
   dSeq (dLook 0 [] (oP (vFA 1 g067) s070)) <|
   dSeq (dLook 0 [] (oMv g007 s071)) <|
   dSeq (dLook 0 [] (oGen (.nilCheck (.t 57)) 4 s072)) <|
   dSeq (dLook 0 [] (oP (vFA 4 g072) s073)) <|
   dSeq (dMake 6 (oBuildSlice 64 1 [.nilPtr, .nilPtr] 2 [((0, 1), g070), ((1, 1), g073)] 6 s074)) <|
   dSeq (dLook 0 [] (oP (vLen g074) s075)) <|
   dSeq (dLook 0 [] (oMv (kc (.int .i64 0)) s076)) <|
   dNop)
   (ckNop) [(6, 2)]) <|
  cBlock 7 (cLoop 1000000 (cSeq (cReg 1 (
     oP (vLss g076 g075) s077)) <|
    cSeq (cCond g077
     (cSkip)
     (cExit 7)) <|
    cSeq (cBlock 9 (cSeq (cReg 3 (
      oSeq (oP (vIdx 1 g074 g076) s100) <|
      oSeq (oLoad g100 s101) <|
      oMv g101 s014)) <|
     cSeq (cReg 4 (
      oSeq (oMv g014 s102) <|
      oSeq (oGen (.nilCheck (.t 66)) 1 s103) <|
      oSeq (oP (vFA 0 g103) s104) <|
      oLoad g104 s105)) <|
     cCond g105
      (cReg 5 (
       oSeq (oMv g014 s106) <|
       oSeq (oP (vBuild [(.bool false), .nilSl] []) s107) <|
       oSeq (oGen (.nilCheck (.t 70)) 2 s110) <|
       oSeq (oP (vFA 1 g110) s111) <|
       oStoreN 2 g111 g107 noPut))
      (cSkip))) <|
    cReg 2 (
     oSeq (oP (vAdd g076 (kc (.int .i64 1))) s112) <|
     oMv g112 s076)))) <|
  cSeq (cDrw 11 (
   dSeq (dLook 0 [] (oMv g007 s113)) <|
   dSeq (dLook 0 [] (oGen (.nilCheck (.t 75)) 1 s114)) <|
   dSeq (dLook 0 [] (oP (vFA 1 g114) s115)) <|
   dSeq (dLook 0 [] (oLoadN 3 g115 s116)) <|
   dSeq (dLook 0 [] (oMv g007 s117)) <|
   dSeq (dLook 0 [] (oGen (.nilCheck (.t 79)) 5 s120)) <|
   dSeq (dLook 0 [] (oP (vFA 4 g120) s121)) <|
   dSeq (dLook 0 [] (oLoadN 3 g121 s122)) <|
   dSeq (dLook 0 [] (oP (vBuild [(.bool false), (.bool false), .nilSl, (.bool false), (.bool false), .nilSl] [((0, 3), g116), ((3, 3), g122)]) s123)) <|
   dSeq (dAct 0 [] (oStoreN 6 g004 g123 noPut)) <|
   dSeq (dLook 0 [] (oMv (kc (.int .i64 0)) s005)) <|
   dNop)
   (ckNop) []) <|
  cExit 0⟩
noncomputable def ffn16 : FFn := ⟨1, 45, [(2, none)],
  cSeq (cReg 2 (
   oSeq (oBox 25 g000 0 s001) <|
   oMv (kc (.int .i64 0)) s002)) <|
  cSeq (cSeq (cReg 4 (
   oSeq (oP (vFA 1 g001) s007) <|
   oSeq (oLoad g007 s010) <|
   oSeq (oP (vLen g010) s011) <|
   oP (vLeq g011 (kc (.int .i64 60))) s012)) <|
  cCond g012
   (cSeq (cReg 11 (
    oSeq (oP (vFA 0 g001) s014) <|
    oSeq (oLoad g014 s015) <|
    oSeq (oP (vFA 1 g001) s016) <|
    oSeq (oLoad g016 s017) <|
    oSeq (oCallF 17 (fun T => [g015 T, g017 T]) s020) <|
    oSeq (oMv g020 s013) <|
    oSeq (oP (vExt 0 g013) s021) <|
    oSeq (oP (vExt 1 g013) s022) <|
    oSeq (oAlloc 25 [(.int .i64 0), .nilSl, .nilSl] 8 s003) <|
    oSeq (oStoreN 3 g003 g021 noPut) <|
    oMv g022 s004)) <|
   cSeq (cReg 7 (
    oSeq (oMv g004 s023) <|
    oSeq (oP (vEql g023 (kc (.int .i64 0))) s024) <|
    oSeq (oMv g024 s025) <|
    oSeq (oGuard g025 true s026 (oLoadN 3 g001 s026)) <|
    oSeq (oGuard g025 true s027 (oLoadN 3 g003 s027)) <|
    oSeq (oGuard g025 true s030 (oCallF 33 (fun T => [g026 T, g027 T]) s030)) <|
    oP (vPick g025 g030 (kc (.bool false))) s031)) <|
   cCond g031
    (cSeq (cReg 1 (
     oMv (kc (.int .i64 0)) s002)) <|
    cExit 0)
    (cSkip))
   (cSkip)) <|
  cSeq (cSeq (cReg 4 (
   oSeq (oP (vFA 2 g001) s032) <|
   oSeq (oLoad g032 s033) <|
   oSeq (oP (vLen g033) s034) <|
   oP (vLeq g034 (kc (.int .i64 60))) s035)) <|
  cCond g035
   (cSeq (cReg 11 (
    oSeq (oP (vFA 0 g001) s037) <|
    oSeq (oLoad g037 s040) <|
    oSeq (oP (vFA 2 g001) s041) <|
    oSeq (oLoad g041 s042) <|
    oSeq (oCallF 34 (fun T => [g040 T, g042 T]) s043) <|
    oSeq (oMv g043 s036) <|
    oSeq (oP (vExt 0 g036) s044) <|
    oSeq (oP (vExt 1 g036) s045) <|
    oSeq (oAlloc 25 [(.int .i64 0), .nilSl, .nilSl] 8 s005) <|
    oSeq (oStoreN 3 g005 g044 noPut) <|
    oMv g045 s006)) <|
   cSeq (cReg 7 (
    oSeq (oMv g006 s046) <|
    oSeq (oP (vEql g046 (kc (.int .i64 0))) s047) <|
    oSeq (oMv g047 s050) <|
    oSeq (oGuard g050 true s051 (oLoadN 3 g001 s051)) <|
    oSeq (oGuard g050 true s052 (oLoadN 3 g005 s052)) <|
    oSeq (oGuard g050 true s053 (oCallF 33 (fun T => [g051 T, g052 T]) s053)) <|
    oP (vPick g050 g053 (kc (.bool false))) s054)) <|
   cCond g054
    (cSeq (cReg 1 (
     oMv (kc (.int .i64 0)) s002)) <|
    cExit 0)
    (cSkip))
   (cSkip)) <|
  cSeq (cReg 1 (
   oMv (kc (.int .i64 8)) s002)) <|
  cExit 0⟩
noncomputable def ffn33 : FFn := ⟨2, 28, [(4, none)],
  cSeq (cReg 3 (
   oSeq (oBox 25 g000 0 s002) <|
   oSeq (oBox 25 g001 1 s003) <|
   oMv (kc (.bool false)) s004)) <|
  cSeq (cReg 1 (
   oMv (kc (.fn (.func 61) [] [])) s005)) <|
  cSeq (cReg 1 (
   oMv (kc (.fn (.func 63) [] [])) s006)) <|
  cSeq (cReg 22 (
   oSeq (oP (vFA 0 g002) s007) <|
   oSeq (oLoad g007 s010) <|
   oSeq (oP (vFA 0 g003) s011) <|
   oSeq (oLoad g011 s012) <|
   oSeq (oP (vEql g010 g012) s013) <|
   oSeq (oMv g013 s014) <|
   oSeq (oGuard g014 true s015 (oP (vFA 1 g002) s015)) <|
   oSeq (oGuard g014 true s016 (oLoad g015 s016)) <|
   oSeq (oGuard g014 true s017 (oP (vFA 1 g003) s017)) <|
   oSeq (oGuard g014 true s020 (oLoad g017 s020)) <|
   oSeq (oGuard g014 true s021 (oMv g005 s021)) <|
   oSeq (oGuard g014 true s022 (oCallF 64 (fun T => [g016 T, g020 T, g021 T]) s022)) <|
   oSeq (oP (vPick g014 g022 (kc (.bool false))) s023) <|
   oSeq (oMv g023 s024) <|
   oSeq (oGuard g024 true s025 (oP (vFA 2 g002) s025)) <|
   oSeq (oGuard g024 true s026 (oLoad g025 s026)) <|
   oSeq (oGuard g024 true s027 (oP (vFA 2 g003) s027)) <|
   oSeq (oGuard g024 true s030 (oLoad g027 s030)) <|
   oSeq (oGuard g024 true s031 (oMv g006 s031)) <|
   oSeq (oGuard g024 true s032 (oCallF 65 (fun T => [g026 T, g030 T, g031 T]) s032)) <|
   oSeq (oP (vPick g024 g032 (kc (.bool false))) s033) <|
   oMv g033 s004)) <|
  cExit 0⟩
noncomputable def ffn61 : FFn := ⟨2, 17, [(4, none)],
  cSeq (cReg 3 (
   oSeq (oBox 56 g000 0 s002) <|
   oSeq (oBox 56 g001 1 s003) <|
   oMv (kc (.bool false)) s004)) <|
  cSeq (cReg 13 (
   oSeq (oP (vFA 1 g002) s005) <|
   oSeq (oLoad g005 s006) <|
   oSeq (oP (vFA 1 g003) s007) <|
   oSeq (oLoad g007 s010) <|
   oSeq (oGen (.bin .eql .bool (.t 6) (.t 8)) 4 s011) <|
   oSeq (oMv g011 s012) <|
   oSeq (oGuard g012 true s013 (oP (vFA 0 g002) s013)) <|
   oSeq (oGuard g012 true s014 (oLoad g013 s014)) <|
   oSeq (oGuard g012 true s015 (oP (vFA 0 g003) s015)) <|
   oSeq (oGuard g012 true s016 (oLoad g015 s016)) <|
   oSeq (oGuard g012 true s017 (oCallF 62 (fun T => [g014 T, g016 T]) s017)) <|
   oSeq (oP (vPick g012 g017 (kc (.bool false))) s020) <|
   oMv g020 s004)) <|
  cExit 0⟩
noncomputable def ffn63 : FFn := ⟨2, 17, [(4, none)],
  cSeq (cReg 3 (
   oSeq (oBox 48 g000 0 s002) <|
   oSeq (oBox 48 g001 1 s003) <|
   oMv (kc (.bool false)) s004)) <|
  cSeq (cReg 13 (
   oSeq (oP (vFA 0 g002) s005) <|
   oSeq (oLoad g005 s006) <|
   oSeq (oP (vFA 0 g003) s007) <|
   oSeq (oLoad g007 s010) <|
   oSeq (oP (vEql g006 g010) s011) <|
   oSeq (oMv g011 s012) <|
   oSeq (oGuard g012 true s013 (oP (vFA 1 g002) s013)) <|
   oSeq (oGuard g012 true s014 (oLoad g013 s014)) <|
   oSeq (oGuard g012 true s015 (oP (vFA 1 g003) s015)) <|
   oSeq (oGuard g012 true s016 (oLoad g015 s016)) <|
   oSeq (oGuard g012 true s017 (oCallF 62 (fun T => [g014 T, g016 T]) s017)) <|
   oSeq (oP (vPick g012 g017 (kc (.bool false))) s020) <|
   oMv g020 s004)) <|
  cExit 0⟩
noncomputable def ffn64 : FFn := ⟨3, 32, [(6, none)],
  cSeq (cReg 1 (
   oMv (kc (.bool false)) s006)) <|
  cSeq (cSeq (cReg 5 (
   oSeq (oMv g000 s012) <|
   oSeq (oP (vLen g012) s013) <|
   oSeq (oMv g001 s014) <|
   oSeq (oP (vLen g014) s015) <|
   oP (vNeq g013 g015) s016)) <|
  cCond g016
   (cSeq (cReg 1 (
    oMv (kc (.bool false)) s006)) <|
   cExit 0)
   (cSkip)) <|
  cSeq (cSeq (cReg 3 (
   oSeq (oMv g000 s017) <|
   oSeq (oP (vLen g017) s020) <|
   oMv (kc (.int .i64 0)) s021)) <|
  cBlock 1 (cLoop 1000000 (cSeq (cReg 1 (
     oP (vLss g021 g020) s022)) <|
    cSeq (cCond g022
     (cSkip)
     (cExit 1)) <|
    cSeq (cBlock 3 (cSeq (cReg 6 (
      oSeq (oMv g021 s023) <|
      oSeq (oP (vIdx 2 g017 g021) s024) <|
      oSeq (oLoadN 2 g024 s025) <|
      oSeq (oAlloc 56 [.nilSl, (.bool false)] 3 s010) <|
      oSeq (oMv g023 s007) <|
      oStoreN 2 g010 g025 noPut)) <|
     cSeq (cReg 6 (
      oSeq (oMv g001 s026) <|
      oSeq (oMv g007 s027) <|
      oSeq (oP (vIdx 2 g026 g027) s030) <|
      oSeq (oLoadN 2 g030 s031) <|
      oSeq (oAlloc 56 [.nilSl, (.bool false)] 4 s011) <|
      oStoreN 2 g011 g031 noPut)) <|
     cSeq (cReg 5 (
      oSeq (oMv g002 s032) <|
      oSeq (oLoadN 2 g010 s033) <|
      oSeq (oLoadN 2 g011 s034) <|
      oSeq (oCall g032 (fun T => [g033 T, g034 T]) s035) <|
      oGen (.un .not (.t 29)) 4 s036)) <|
     cCond g036
      (cSeq (cReg 1 (
       oMv (kc (.bool false)) s006)) <|
      cExit 0)
      (cSkip))) <|
    cReg 2 (
     oSeq (oP (vAdd g021 (kc (.int .i64 1))) s037) <|
     oMv g037 s021)))) <|
  cSeq (cReg 1 (
   oMv (kc (.bool true)) s006)) <|
  cExit 0⟩
noncomputable def ffn65 : FFn := ⟨3, 32, [(6, none)],
  cSeq (cReg 1 (
   oMv (kc (.bool false)) s006)) <|
  cSeq (cSeq (cReg 5 (
   oSeq (oMv g000 s012) <|
   oSeq (oP (vLen g012) s013) <|
   oSeq (oMv g001 s014) <|
   oSeq (oP (vLen g014) s015) <|
   oP (vNeq g013 g015) s016)) <|
  cCond g016
   (cSeq (cReg 1 (
    oMv (kc (.bool false)) s006)) <|
   cExit 0)
   (cSkip)) <|
  cSeq (cSeq (cReg 3 (
   oSeq (oMv g000 s017) <|
   oSeq (oP (vLen g017) s020) <|
   oMv (kc (.int .i64 0)) s021)) <|
  cBlock 1 (cLoop 1000000 (cSeq (cReg 1 (
     oP (vLss g021 g020) s022)) <|
    cSeq (cCond g022
     (cSkip)
     (cExit 1)) <|
    cSeq (cBlock 3 (cSeq (cReg 6 (
      oSeq (oMv g021 s023) <|
      oSeq (oP (vIdx 2 g017 g021) s024) <|
      oSeq (oLoadN 2 g024 s025) <|
      oSeq (oAlloc 48 [(.int .u8 0), .nilSl] 3 s010) <|
      oSeq (oMv g023 s007) <|
      oStoreN 2 g010 g025 noPut)) <|
     cSeq (cReg 6 (
      oSeq (oMv g001 s026) <|
      oSeq (oMv g007 s027) <|
      oSeq (oP (vIdx 2 g026 g027) s030) <|
      oSeq (oLoadN 2 g030 s031) <|
      oSeq (oAlloc 48 [(.int .u8 0), .nilSl] 4 s011) <|
      oStoreN 2 g011 g031 noPut)) <|
     cSeq (cReg 5 (
      oSeq (oMv g002 s032) <|
      oSeq (oLoadN 2 g010 s033) <|
      oSeq (oLoadN 2 g011 s034) <|
      oSeq (oCall g032 (fun T => [g033 T, g034 T]) s035) <|
      oGen (.un .not (.t 29)) 4 s036)) <|
     cCond g036
      (cSeq (cReg 1 (
       oMv (kc (.bool false)) s006)) <|
      cExit 0)
      (cSkip))) <|
    cReg 2 (
     oSeq (oP (vAdd g021 (kc (.int .i64 1))) s037) <|
     oMv g037 s021)))) <|
  cSeq (cReg 1 (
   oMv (kc (.bool true)) s006)) <|
  cExit 0⟩
noncomputable def ffn34 : FFn := ⟨2, 29, [(4, (some (some 3))), (5, none)],
  cSeq (cReg 2 (
   oSeq (oAlloc 25 [(.int .i64 0), .nilSl, .nilSl] 0 s004) <|
   oMv (kc (.int .i64 0)) s005)) <|
  cSeq (cSeq (cReg 4 (
   oSeq (oMv g000 s010) <|
   oSeq (oMv g001 s011) <|
   oSeq (oCallF 52 (fun T => [g010 T, g011 T, (.fn (.func 53) [] []), (.fn (.func 54) [] [])]) s012) <|
   oMv g012 s006)) <|
  cSeq (cReg 2 (
   oSeq (oMv g006 s013) <|
   oP (vNeq g013 (kc (.int .i64 0))) s014)) <|
  cCond g014
   (cSeq (cReg 4 (
    oSeq (oP (vBuild [(.int .i64 0), .nilSl, .nilSl] []) s015) <|
    oSeq (oMv g006 s016) <|
    oSeq (oStoreN 3 g004 g015 noPut) <|
    oMv g016 s005)) <|
   cExit 0)
   (cSkip)) <|
  cSeq (cReg 4 (
   oSeq (oMv g000 s017) <|
   oSeq (oMv g001 s020) <|
   oSeq (oCallF 55 (fun T => [g017 T, g020 T]) s021) <|
   oMv g021 s007)) <|
  cSeq (cSeq (cReg 3 (
   oSeq (oMv g007 s022) <|
   oSeq (oP (vLen g022) s023) <|
   oP (vGeq g023 (kc (.int .i64 1024))) s024)) <|
  cCond g024
   (cSeq (cReg 3 (
    oSeq (oP (vBuild [(.int .i64 0), .nilSl, .nilSl] []) s025) <|
    oSeq (oStoreN 3 g004 g025 noPut) <|
    oMv (kc (.int .i64 4)) s005)) <|
   cExit 0)
   (cSkip)) <|
  cSeq (cReg 9 (
   oSeq (oMv g000 s026) <|
   oSeq (oMv g000 s027) <|
   oSeq (oMv g007 s030) <|
   oSeq (oCallF 39 (fun T => [g027 T, g030 T]) s031) <|
   oSeq (oCallF 38 (fun T => [g026 T, g031 T]) s032) <|
   oSeq (oP (vExt 0 g032) s033) <|
   oSeq (oP (vExt 1 g032) s034) <|
   oSeq (oStoreN 3 g004 g033 noPut) <|
   oMv g034 s005)) <|
  cExit 0⟩
noncomputable def ffn52 : FFn := ⟨4, 28, [(8, none)],
  cSeq (cReg 4 (
   oSeq (oBox 3 g000 0 s004) <|
   oSeq (oBox 100 g002 1 s006) <|
   oSeq (oBox 101 g003 2 s007) <|
   oMv (kc (.int .i64 0)) s010)) <|
  cSeq (cBlock 1 (cSeq (cReg 7 (
    oSeq (oLoad g004 s012) <|
    oSeq (oP (vLss g012 (kc (.int .i64 0))) s013) <|
    oSeq (oMv g013 s014) <|
    oSeq (oGuard g014 false s015 (oLoad g004 s015)) <|
    oSeq (oGuard g014 false s016 (oP (vGtr g015 (kc (.int .i64 8))) s016)) <|
    oSeq (oP (vPick g014 (kc (.bool true)) g016) s017) <|
    oMv g017 s011)) <|
   cCond g011
    (cSeq (cReg 1 (
     oMv (kc (.int .i64 2)) s010)) <|
    cExit 0)
    (cSeq (cReg 4 (
     oSeq (oMv g001 s021) <|
     oSeq (oP (vLen g021) s022) <|
     oSeq (oP (vGtr g022 (kc (.int .i64 60))) s023) <|
     oMv g023 s020)) <|
    cCond g020
     (cSeq (cReg 1 (
      oMv (kc (.int .i64 4)) s010)) <|
     cExit 0)
     (cSeq (cReg 4 (
      oSeq (oMv g001 s025) <|
      oSeq (oGen (.mkfn (.func 84) [] [(.t 6), (.t 7)]) 1 s026) <|
      oSeq (oCallF 83 (fun T => [g025 T, g026 T]) s027) <|
      oMv g027 s024)) <|
     cCond g024
      (cSeq (cReg 1 (
       oMv (kc (.int .i64 8)) s010)) <|
      cExit 0)
      (cSeq (cReg 4 (
       oSeq (oMv g001 s031) <|
       oSeq (oGen (.mkfn (.func 85) [] [(.t 6), (.t 4)]) 1 s032) <|
       oSeq (oCallF 83 (fun T => [g031 T, g032 T]) s033) <|
       oMv g033 s030)) <|
      cCond g030
       (cSeq (cReg 1 (
        oMv (kc (.int .i64 70)) s010)) <|
       cExit 0)
       (cSkip)))))) <|
  cSeq (cReg 1 (
   oMv (kc (.int .i64 0)) s010)) <|
  cExit 0⟩
noncomputable def ffn84 : FFn := ⟨3, 15, [(4, none)],
  cSeq (cReg 2 (
   oSeq (oBox 48 g000 0 s003) <|
   oMv (kc (.bool false)) s004)) <|
  cSeq (cReg 11 (
   oSeq (oLoad g001 s005) <|
   oSeq (oLoadN 2 g003 s006) <|
   oSeq (oCall g005 (fun T => [g006 T]) s007) <|
   oSeq (oCallF 20 (fun T => [g007 T]) s010) <|
   oSeq (oP (vNeq g010 (kc (.int .i64 0))) s011) <|
   oSeq (oMv g011 s012) <|
   oSeq (oGuard g012 false s013 (oLoad g002 s013)) <|
   oSeq (oGuard g012 false s014 (oLoadN 2 g003 s014)) <|
   oSeq (oGuard g012 false s015 (oCall g013 (fun T => [g014 T]) s015)) <|
   oSeq (oP (vPick g012 (kc (.bool true)) g015) s016) <|
   oMv g016 s004)) <|
  cExit 0⟩
noncomputable def ffn83 : FFn := ⟨2, 9, [(4, none)],
  cSeq (cReg 1 (
   oMv (kc (.bool false)) s004)) <|
  cSeq (cReg 5 (
   oSeq (oMv g000 s005) <|
   oSeq (oMv g001 s006) <|
   oSeq (oCallF 108 (fun T => [g005 T, g006 T]) s007) <|
   oSeq (oP (vGeq g007 (kc (.int .i64 0))) s010) <|
   oMv g010 s004)) <|
  cExit 0⟩
noncomputable def ffn108 : FFn := ⟨2, 19, [(4, none)],
  cSeq (cReg 1 (
   oMv (kc (.int .i64 0)) s004)) <|
  cSeq (cSeq (cReg 3 (
   oSeq (oMv g000 s006) <|
   oSeq (oP (vLen g006) s007) <|
   oMv (kc (.int .i64 0)) s010)) <|
  cBlock 1 (cLoop 1000000 (cSeq (cReg 1 (
     oP (vLss g010 g007) s011)) <|
    cSeq (cCond g011
     (cSkip)
     (cExit 1)) <|
    cSeq (cBlock 3 (cSeq (cReg 2 (
      oSeq (oMv g010 s012) <|
      oMv g012 s005)) <|
     cSeq (cReg 6 (
      oSeq (oMv g001 s013) <|
      oSeq (oMv g000 s014) <|
      oSeq (oMv g005 s015) <|
      oSeq (oP (vIdx 2 g014 g015) s016) <|
      oSeq (oLoadN 2 g016 s017) <|
      oCall g013 (fun T => [g017 T]) s020)) <|
     cCond g020
      (cSeq (cReg 2 (
       oSeq (oMv g005 s021) <|
       oMv g021 s004)) <|
      cExit 0)
      (cSkip))) <|
    cReg 2 (
     oSeq (oP (vAdd g010 (kc (.int .i64 1))) s022) <|
     oMv g022 s010)))) <|
  cSeq (cReg 1 (
   oMv (kc (.int .i64 (-1))) s004)) <|
  cExit 0⟩
noncomputable def ffn85 : FFn := ⟨3, 12, [(4, none)],
  cSeq (cReg 2 (
   oSeq (oBox 48 g000 0 s003) <|
   oMv (kc (.bool false)) s004)) <|
  cSeq (cDrw 8 (
   dSeq (dLook 0 [] (oLoad g001 s005)) <|
   dSeq (dLook 0 [] (oLoadN 2 g003 s006)) <|
   dSeq (dAct 0 [] (oCall g005 (fun T => [g006 T]) s007)) <|
   dSeq (dLook 0 [] (oP (vLen g007) s010)) <|
   dSeq (dLook 1 [] (oLoad g002 s011)) <|
   dSeq (dLook 0 [] (oP (vAdd g011 (kc (.int .i64 1))) s012)) <|
   dSeq (dLook 0 [] (oP (vNeq g010 g012) s013)) <|
   dSeq (dLook 0 [] (oMv g013 s004)) <|
   dNop)
   (ckSeq (ckOne g011 0 [] (oLoad g002 s011)) <|
  ckNop) []) <|
  cExit 0⟩
noncomputable def ffn53 : FFn := ⟨1, 5, [(2, none)],
  cSeq (cReg 2 (
   oSeq (oBox 48 g000 0 s001) <|
   oMv (kc .nilSl) s002)) <|
  cSeq (cReg 3 (
   oSeq (oP (vFA 1 g001) s003) <|
   oSeq (oLoad g003 s004) <|
   oMv g004 s002)) <|
  cExit 0⟩
noncomputable def ffn54 : FFn := ⟨1, 18, [(2, none)],
  cSeq (cReg 2 (
   oSeq (oBox 48 g000 0 s001) <|
   oMv (kc (.bool false)) s002)) <|
  cSeq (cSeq (cReg 2 (
   oSeq (oP (vFA 0 g001) s003) <|
   oLoad g003 s004)) <|
  cBlock 1 (cSeq (cSeq (cReg 2 (
    oSeq (oP (vEql g004 (kc (.int .u8 1))) s006) <|
    oMv g006 s005)) <|
   cCond g005
    (cSkip)
    (cReg 2 (
     oSeq (oP (vEql g004 (kc (.int .u8 2))) s007) <|
     oMv g007 s005))) <|
   cCond g005
    (cSeq (cReg 5 (
     oSeq (oP (vFA 1 g001) s010) <|
     oSeq (oLoad g010 s011) <|
     oSeq (oCallF 73 (fun T => [g011 T]) s012) <|
     oSeq (oP (vNeq g012 (kc (.int .i64 0))) s013) <|
     oMv g013 s002)) <|
    cExit 0)
    (cSeq (cReg 2 (
     oSeq (oP (vEql g004 (kc (.int .u8 3))) s015) <|
     oMv g015 s014)) <|
    cCond g014
     (cSeq (cReg 5 (
      oSeq (oP (vFA 1 g001) s016) <|
      oSeq (oLoad g016 s017) <|
      oSeq (oCallF 73 (fun T => [g017 T]) s020) <|
      oSeq (oP (vLeq g020 (kc (.int .i64 0))) s021) <|
      oMv g021 s002)) <|
     cExit 0)
     (cSkip)))) <|
  cSeq (cReg 1 (
   oMv (kc (.bool true)) s002)) <|
  cExit 0⟩
noncomputable def ffn21 : FFn := ⟨2, 147, [],
  cSeq (cReg 1 (
   oBox 48 g001 0 s003)) <|
  cSeq (cDrw 13 (
   dSeq (dLook 0 [] (oMv g000 s021)) <|
   dSeq (dLook 0 [] (oGen (.nilCheck (.t 17)) 1 s022)) <|
   dSeq (dLook 0 [] (oP (vFA 0 g022) s023)) <|
   dSeq (dLook 0 [] (oLoad g023 s024)) <|
   dSeq (dLook 0 [] (oP (vFA 1 g003) s025)) <|
   dSeq (dLook 0 [] (oLoad g025 s026)) <|
   dSeq (dAct 0 [] (oCallF 45 (fun T => [g024 T, g026 T]) s027)) <|
   dSeq (dLook 0 [] (oMv g027 s020)) <|
   dSeq (dLook 0 [] (oP (vExt 0 g020) s030)) <|
   dSeq (dLook 0 [] (oP (vExt 1 g020) s031)) <|
   dSeq (dMake 10 (oAlloc 33 [(.bool false), .nilSl] 10 s004)) <|
   dSeq (dAct 0 [(10, 0)] (oStoreN 2 g004 g030 noPut)) <|
   dSeq (dLook 0 [] (oMv g031 s005)) <|
   dNop)
   (ckNop) []) <|
  cSeq (cReg 7 (
   oSeq (oLoadN 2 g004 s033) <|
   oSeq (oCallF 46 (fun T => [g033 T]) s034) <|
   oSeq (oMv g034 s032) <|
   oSeq (oP (vExt 0 g032) s035) <|
   oSeq (oP (vExt 1 g032) s036) <|
   oSeq (oMv g035 s006) <|
   oMv g036 s007)) <|
  cSeq (cSeq (cReg 3 (
   oSeq (oP (vFA 0 g003) s037) <|
   oSeq (oLoad g037 s040) <|
   oP (vNeq g040 (kc (.int .u8 3))) s041)) <|
  cCond g041
   (cSeq (cReg 23 (
    oSeq (oMv g000 s042) <|
    oSeq (oMv g000 s043) <|
    oSeq (oGen (.nilCheck (.t 35)) 2 s044) <|
    oSeq (oP (vFA 1 g044) s045) <|
    oSeq (oP (vFA 0 g045) s046) <|
    oSeq (oLoad g046 s047) <|
    oSeq (oMv g047 s050) <|
    oSeq (oGuard g050 false s051 (oMv g006 s051)) <|
    oSeq (oGuard g050 false s052 (oP (vLss g051 (kc (.int .i64 0))) s052)) <|
    oSeq (oP (vPick g050 (kc (.bool true)) g052) s053) <|
    oSeq (oMv g053 s054) <|
    oSeq (oGuard g054 false s055 (oMv g006 s055)) <|
    oSeq (oGuard g054 false s056 (oP (vNeq g055 (kc (.int .i64 0))) s056)) <|
    oSeq (oGuard g054 false s057 (oMv g056 s057)) <|
    oSeq (oGuard g057 true s060 (oP (vFA 0 g003) s060)) <|
    oSeq (oGuard g057 true s061 (oLoad g060 s061)) <|
    oSeq (oGuard g057 true s062 (oP (vEql g061 (kc (.int .u8 1))) s062)) <|
    oSeq (oGuard g054 false s063 (oP (vPick g057 g062 (kc (.bool false))) s063)) <|
    oSeq (oP (vPick g054 (kc (.bool true)) g063) s064) <|
    oSeq (oGen (.nilCheck (.t 34)) 19 s065) <|
    oSeq (oP (vFA 1 g065) s066) <|
    oSeq (oP (vFA 0 g066) s067) <|
    oStore g067 g064 noPut)) <|
   cSeq (cReg 23 (
    oSeq (oMv g000 s070) <|
    oSeq (oMv g000 s071) <|
    oSeq (oGen (.nilCheck (.t 57)) 2 s072) <|
    oSeq (oP (vFA 4 g072) s073) <|
    oSeq (oP (vFA 0 g073) s074) <|
    oSeq (oLoad g074 s075) <|
    oSeq (oMv g075 s076) <|
    oSeq (oGuard g076 false s077 (oMv g006 s077)) <|
    oSeq (oGuard g076 false s100 (oP (vGtr g077 (kc (.int .i64 0))) s100)) <|
    oSeq (oP (vPick g076 (kc (.bool true)) g100) s101) <|
    oSeq (oMv g101 s102) <|
    oSeq (oGuard g102 false s103 (oMv g006 s103)) <|
    oSeq (oGuard g102 false s104 (oP (vNeq g103 (kc (.int .i64 0))) s104)) <|
    oSeq (oGuard g102 false s105 (oMv g104 s105)) <|
    oSeq (oGuard g105 true s106 (oP (vFA 0 g003) s106)) <|
    oSeq (oGuard g105 true s107 (oLoad g106 s107)) <|
    oSeq (oGuard g105 true s110 (oP (vEql g107 (kc (.int .u8 1))) s110)) <|
    oSeq (oGuard g102 false s111 (oP (vPick g105 g110 (kc (.bool false))) s111)) <|
    oSeq (oP (vPick g102 (kc (.bool true)) g111) s112) <|
    oSeq (oGen (.nilCheck (.t 56)) 19 s113) <|
    oSeq (oP (vFA 4 g113) s114) <|
    oSeq (oP (vFA 0 g114) s115) <|
    oStore g115 g112 noPut)) <|
   cExit 0)
   (cSkip)) <|
  cSeq (cDrw 12 (
   dSeq (dLook 0 [] (oLoadN 2 g004 s117)) <|
   dSeq (dLook 0 [] (oP (vFA 1 g003) s120)) <|
   dSeq (dLook 0 [] (oLoad g120 s121)) <|
   dSeq (dLook 0 [] (oP (vIdx 2 g121 (kc (.int .i64 0))) s122)) <|
   dSeq (dLook 0 [] (oLoadN 2 g122 s123)) <|
   dSeq (dAct 0 [] (oCallF 47 (fun T => [g117 T, g123 T]) s124)) <|
   dSeq (dLook 0 [] (oMv g124 s116)) <|
   dSeq (dLook 0 [] (oP (vExt 0 g116) s125)) <|
   dSeq (dLook 0 [] (oP (vExt 1 g116) s126)) <|
   dSeq (dMake 9 (oAlloc 33 [(.bool false), .nilSl] 9 s010)) <|
   dSeq (dAct 0 [(9, 0)] (oStoreN 2 g010 g125 noPut)) <|
   dSeq (dLook 0 [] (oMv g126 s011)) <|
   dNop)
   (ckNop) []) <|
  cSeq (cDrw 12 (
   dSeq (dLook 0 [] (oLoadN 2 g004 s130)) <|
   dSeq (dLook 0 [] (oP (vFA 1 g003) s131)) <|
   dSeq (dLook 0 [] (oLoad g131 s132)) <|
   dSeq (dLook 0 [] (oP (vIdx 2 g132 (kc (.int .i64 0))) s133)) <|
   dSeq (dLook 0 [] (oLoadN 2 g133 s134)) <|
   dSeq (dAct 0 [] (oCallF 48 (fun T => [g130 T, g134 T]) s135)) <|
   dSeq (dLook 0 [] (oMv g135 s127)) <|
   dSeq (dLook 0 [] (oP (vExt 0 g127) s136)) <|
   dSeq (dLook 0 [] (oP (vExt 1 g127) s137)) <|
   dSeq (dMake 9 (oAlloc 33 [(.bool false), .nilSl] 9 s012)) <|
   dSeq (dAct 0 [(9, 0)] (oStoreN 2 g012 g136 noPut)) <|
   dSeq (dLook 0 [] (oMv g137 s013)) <|
   dNop)
   (ckNop) []) <|
  cSeq (cSeq (cDrw 12 (
   dSeq (dLook 0 [] (oLoadN 2 g010 s141)) <|
   dSeq (dLook 0 [] (oMv g000 s142)) <|
   dSeq (dLook 0 [] (oGen (.nilCheck (.t 98)) 2 s143)) <|
   dSeq (dLook 0 [] (oP (vFA 1 g143) s144)) <|
   dSeq (dLook 0 [] (oP (vFA 1 g144) s145)) <|
   dSeq (dLook 0 [] (oLoadN 2 g145 s146)) <|
   dSeq (dAct 0 [] (oCallF 49 (fun T => [g141 T, g146 T]) s147)) <|
   dSeq (dLook 0 [] (oMv g147 s140)) <|
   dSeq (dLook 0 [] (oP (vExt 0 g140) s150)) <|
   dSeq (dLook 0 [] (oP (vExt 1 g140) s151)) <|
   dSeq (dLook 0 [] (oMv g150 s014)) <|
   dSeq (dLook 0 [] (oMv g151 s015)) <|
   dNop)
   (ckNop) []) <|
  cSeq (cReg 9 (
   oSeq (oMv g000 s152) <|
   oSeq (oGen (.nilCheck (.t 106)) 1 s153) <|
   oSeq (oP (vFA 7 g153) s154) <|
   oSeq (oLoad g154 s155) <|
   oSeq (oGen (.un .not (.t 109)) 4 s156) <|
   oSeq (oMv g156 s157) <|
   oSeq (oGuard g157 false s160 (oMv g014 s160)) <|
   oSeq (oGuard g157 false s161 (oP (vLss g160 (kc (.int .i64 0))) s161)) <|
   oP (vPick g157 (kc (.bool true)) g161) s162)) <|
  cCond g162
   (cReg 6 (
    oSeq (oMv g000 s163) <|
    oSeq (oLoadN 2 g010 s164) <|
    oSeq (oGen (.nilCheck (.t 115)) 2 s165) <|
    oSeq (oP (vFA 1 g165) s166) <|
    oSeq (oP (vFA 1 g166) s167) <|
    oStoreN 2 g167 g164 noPut))
   (cSkip)) <|
  cSeq (cSeq (cDrw 12 (
   dSeq (dLook 0 [] (oLoadN 2 g012 s171)) <|
   dSeq (dLook 0 [] (oMv g000 s172)) <|
   dSeq (dLook 0 [] (oGen (.nilCheck (.t 122)) 2 s173)) <|
   dSeq (dLook 0 [] (oP (vFA 4 g173) s174)) <|
   dSeq (dLook 0 [] (oP (vFA 1 g174) s175)) <|
   dSeq (dLook 0 [] (oLoadN 2 g175 s176)) <|
   dSeq (dAct 0 [] (oCallF 49 (fun T => [g171 T, g176 T]) s177)) <|
   dSeq (dLook 0 [] (oMv g177 s170)) <|
   dSeq (dLook 0 [] (oP (vExt 0 g170) s200)) <|
   dSeq (dLook 0 [] (oP (vExt 1 g170) s201)) <|
   dSeq (dLook 0 [] (oMv g200 s016)) <|
   dSeq (dLook 0 [] (oMv g201 s017)) <|
   dNop)
   (ckNop) []) <|
  cSeq (cReg 9 (
   oSeq (oMv g000 s202) <|
   oSeq (oGen (.nilCheck (.t 130)) 1 s203) <|
   oSeq (oP (vFA 7 g203) s204) <|
   oSeq (oLoad g204 s205) <|
   oSeq (oGen (.un .not (.t 133)) 4 s206) <|
   oSeq (oMv g206 s207) <|
   oSeq (oGuard g207 false s210 (oMv g016 s210)) <|
   oSeq (oGuard g207 false s211 (oP (vGtr g210 (kc (.int .i64 0))) s211)) <|
   oP (vPick g207 (kc (.bool true)) g211) s212)) <|
  cCond g212
   (cReg 6 (
    oSeq (oMv g000 s213) <|
    oSeq (oLoadN 2 g012 s214) <|
    oSeq (oGen (.nilCheck (.t 139)) 2 s215) <|
    oSeq (oP (vFA 4 g215) s216) <|
    oSeq (oP (vFA 1 g216) s217) <|
    oStoreN 2 g217 g214 noPut))
   (cSkip)) <|
  cReg 4 (
   oSeq (oMv g000 s220) <|
   oSeq (oGen (.nilCheck (.t 144)) 1 s221) <|
   oSeq (oP (vFA 7 g221) s222) <|
   oStore g222 (kc (.bool true)) noPut)⟩
noncomputable def ffn47 : FFn := ⟨2, 11, [(4, (some (some 2))), (5, none)],
  cSeq (cReg 4 (
   oSeq (oBox 33 g000 0 s002) <|
   oSeq (oBox 33 g001 1 s003) <|
   oSeq (oAlloc 33 [(.bool false), .nilSl] 2 s004) <|
   oMv (kc (.int .i64 0)) s005)) <|
  cSeq (cReg 7 (
   oSeq (oLoadN 2 g002 s006) <|
   oSeq (oLoadN 2 g003 s007) <|
   oSeq (oCallF 81 (fun T => [g006 T, g007 T, (.bool true)]) s010) <|
   oSeq (oP (vExt 0 g010) s011) <|
   oSeq (oP (vExt 1 g010) s012) <|
   oSeq (oStoreN 2 g004 g011 noPut) <|
   oMv g012 s005)) <|
  cExit 0⟩
noncomputable def ffn81 : FFn := ⟨3, 40, [(6, (some (some 2))), (7, none)],
  cSeq (cReg 4 (
   oSeq (oBox 33 g000 0 s003) <|
   oSeq (oBox 33 g001 1 s004) <|
   oSeq (oAlloc 33 [(.bool false), .nilSl] 2 s006) <|
   oMv (kc (.int .i64 0)) s007)) <|
  cSeq (cReg 13 (
   oSeq (oLoadN 2 g003 s015) <|
   oSeq (oLoadN 2 g004 s016) <|
   oSeq (oCallF 105 (fun T => [g015 T, g016 T]) s017) <|
   oSeq (oMv g017 s014) <|
   oSeq (oP (vExt 0 g014) s020) <|
   oSeq (oP (vExt 1 g014) s021) <|
   oSeq (oP (vExt 2 g014) s022) <|
   oSeq (oP (vExt 3 g014) s023) <|
   oSeq (oAlloc 33 [(.bool false), .nilSl] 8 s010) <|
   oSeq (oStoreN 2 g010 g020 noPut) <|
   oSeq (oMv g021 s011) <|
   oSeq (oMv g022 s012) <|
   oMv g023 s013)) <|
  cSeq (cSeq (cReg 10 (
   oSeq (oMv g013 s024) <|
   oSeq (oP (vEql g024 (kc (.int .i64 0))) s025) <|
   oSeq (oMv g025 s026) <|
   oSeq (oGuard g026 true s027 (oMv g011 s027)) <|
   oSeq (oP (vPick g026 g027 (kc (.bool false))) s030) <|
   oSeq (oMv g030 s031) <|
   oSeq (oGuard g031 true s032 (oMv g012 s032)) <|
   oSeq (oGuard g031 true s033 (oMv g002 s033)) <|
   oSeq (oGuard g031 true s034 (oGen (.bin .eql .bool (.t 26) (.t 27)) 8 s034)) <|
   oP (vPick g031 g034 (kc (.bool false))) s035)) <|
  cCond g035
   (cDrw 6 (
    dSeq (dLook 0 [] (oLoadN 2 g010 s036)) <|
    dSeq (dLook 0 [] (oMv g002 s037)) <|
    dSeq (dMake 2 (oBuildSlice 86 1 [(.int .u64 0)] 1 [((0, 1), (kc (.int .u64 1)))] 2 s040)) <|
    dSeq (dAct 0 [(2, 0)] (oCallF 40 (fun T => [g037 T, g040 T]) s041)) <|
    dSeq (dAct 0 [] (oCallF 106 (fun T => [g036 T, g041 T]) s042)) <|
    dSeq (dAct 0 [] (oStoreN 2 g010 g042 noPut)) <|
    dNop)
    (ckSeq (ckOne g036 2 [] (oLoadN 2 g010 s036)) <|
   ckNop) [])
   (cSkip)) <|
  cSeq (cSeq (cReg 2 (
   oSeq (oMv g013 s043) <|
   oP (vNeq g043 (kc (.int .i64 0))) s044)) <|
  cCond g044
   (cSeq (cReg 4 (
    oSeq (oP (vBuild [(.bool false), .nilSl] []) s045) <|
    oSeq (oMv g013 s046) <|
    oSeq (oStoreN 2 g006 g045 noPut) <|
    oMv g046 s007)) <|
   cExit 0)
   (cSkip)) <|
  cSeq (cReg 3 (
   oSeq (oLoadN 2 g010 s047) <|
   oSeq (oStoreN 2 g006 g047 noPut) <|
   oMv (kc (.int .i64 0)) s007)) <|
  cExit 0⟩
noncomputable def ffn48 : FFn := ⟨2, 11, [(4, (some (some 2))), (5, none)],
  cSeq (cReg 4 (
   oSeq (oBox 33 g000 0 s002) <|
   oSeq (oBox 33 g001 1 s003) <|
   oSeq (oAlloc 33 [(.bool false), .nilSl] 2 s004) <|
   oMv (kc (.int .i64 0)) s005)) <|
  cSeq (cReg 7 (
   oSeq (oLoadN 2 g002 s006) <|
   oSeq (oLoadN 2 g003 s007) <|
   oSeq (oCallF 81 (fun T => [g006 T, g007 T, (.bool false)]) s010) <|
   oSeq (oP (vExt 0 g010) s011) <|
   oSeq (oP (vExt 1 g010) s012) <|
   oSeq (oStoreN 2 g004 g011 noPut) <|
   oMv g012 s005)) <|
  cExit 0⟩
noncomputable def ffn9 : FFn := ⟨2, 17, [(4, (some (some 6))), (5, none)],
  cSeq (cReg 2 (
   oSeq (oAlloc 37 [(.bool false), (.bool false), .nilSl, (.bool false), (.bool false), .nilSl] 0 s004) <|
   oMv (kc (.int .i64 0)) s005)) <|
  cSeq (cSeq (cReg 3 (
   oSeq (oMv g000 s006) <|
   oSeq (oMv g001 s007) <|
   oP (vGtr g006 g007) s010)) <|
  cCond g010
   (cSeq (cReg 3 (
    oSeq (oP (vBuild [(.bool false), (.bool false), .nilSl, (.bool false), (.bool false), .nilSl] []) s011) <|
    oSeq (oStoreN 6 g004 g011 noPut) <|
    oMv (kc (.int .i64 2)) s005)) <|
   cExit 0)
   (cSkip)) <|
  cSeq (cReg 9 (
   oSeq (oMv g000 s012) <|
   oSeq (oCallF 19 (fun T => [g012 T]) s013) <|
   oSeq (oCallF 22 (fun T => [g013 T]) s014) <|
   oSeq (oMv g001 s015) <|
   oSeq (oCallF 19 (fun T => [g015 T]) s016) <|
   oSeq (oCallF 22 (fun T => [g016 T]) s017) <|
   oSeq (oP (vBuild [(.bool false), (.bool false), .nilSl, (.bool false), (.bool false), .nilSl] [((0, 3), g014), ((3, 3), g017)]) s020) <|
   oSeq (oStoreN 6 g004 g020 noPut) <|
   oMv (kc (.int .i64 0)) s005)) <|
  cExit 0⟩
noncomputable def ffn22 : FFn := ⟨1, 10, [(2, (some (some 3)))],
  cSeq (cReg 2 (
   oSeq (oBox 33 g000 0 s001) <|
   oAlloc 35 [(.bool false), (.bool false), .nilSl] 1 s002)) <|
  cSeq (cDrw 8 (
   dSeq (dLook 0 [] (oP (vFA 0 g001) s003)) <|
   dSeq (dLook 0 [] (oLoad g003 s004)) <|
   dSeq (dLook 0 [] (oP (vFA 1 g001) s005)) <|
   dSeq (dLook 0 [] (oLoad g005 s006)) <|
   dSeq (dAct 0 [] (oCallF 50 (fun T => [g006 T]) s007)) <|
   dSeq (dLook 0 [] (oP (vBuild [(.bool false), .nilSl] [((0, 1), g004), ((1, 1), g007)]) s010)) <|
   dSeq (dLook 0 [] (oP (vBuild [(.bool false), (.bool false), .nilSl] [((1, 2), g010)]) s011)) <|
   dSeq (dAct 0 [] (oStoreN 3 g002 g011 noPut)) <|
   dNop)
   (ckSeq (ckOne g004 1 [] (oLoad g003 s004)) <|
  ckNop) []) <|
  cExit 0⟩
noncomputable def ffn10 : FFn := ⟨2, 19, [(4, none), (5, none)],
  cSeq (cReg 4 (
   oSeq (oBox 25 g000 0 s002) <|
   oSeq (oBox 25 g001 1 s003) <|
   oSeq (oMv (kc (.bool false)) s004) <|
   oMv (kc (.int .i64 0)) s005)) <|
  cSeq (cSeq (cReg 5 (
   oSeq (oLoadN 3 g002 s007) <|
   oSeq (oLoadN 3 g003 s010) <|
   oSeq (oBuildSlice 25 3 [(.int .i64 0), .nilSl, .nilSl, (.int .i64 0), .nilSl, .nilSl] 2 [((0, 3), g007), ((3, 3), g010)] 2 s011) <|
   oSeq (oCallF 23 (fun T => [g011 T]) s012) <|
   oMv g012 s006)) <|
  cSeq (cReg 2 (
   oSeq (oMv g006 s013) <|
   oP (vNeq g013 (kc (.int .i64 0))) s014)) <|
  cCond g014
   (cSeq (cReg 3 (
    oSeq (oMv g006 s015) <|
    oSeq (oMv (kc (.bool false)) s004) <|
    oMv g015 s005)) <|
   cExit 0)
   (cSkip)) <|
  cSeq (cReg 7 (
   oSeq (oP (vFA 2 g002) s016) <|
   oSeq (oLoad g016 s017) <|
   oSeq (oP (vFA 1 g003) s020) <|
   oSeq (oLoad g020 s021) <|
   oSeq (oCallF 24 (fun T => [g017 T, g021 T, (.fn (.func 25) [] [])]) s022) <|
   oSeq (oMv g022 s004) <|
   oMv (kc (.int .i64 0)) s005)) <|
  cExit 0⟩
noncomputable def ffn23 : FFn := ⟨1, 34, [(2, none)],
  cSeq (cReg 1 (
   oMv (kc (.int .i64 0)) s002)) <|
  cSeq (cSeq (cReg 3 (
   oSeq (oMv g000 s010) <|
   oSeq (oP (vLen g010) s011) <|
   oMv (kc (.int .i64 0)) s012)) <|
  cBlock 1 (cLoop 1000000 (cSeq (cReg 1 (
     oP (vLss g012 g011) s013)) <|
    cSeq (cCond g013
     (cSkip)
     (cExit 1)) <|
    cSeq (cBlock 3 (cSeq (cReg 4 (
      oSeq (oP (vIdx 3 g010 g012) s014) <|
      oSeq (oLoadN 3 g014 s015) <|
      oSeq (oAlloc 25 [(.int .i64 0), .nilSl, .nilSl] 2 s004) <|
      oStoreN 3 g004 g015 noPut)) <|
     cSeq (cReg 3 (
      oSeq (oLoadN 3 g004 s016) <|
      oSeq (oCallF 16 (fun T => [g016 T]) s017) <|
      oMv g017 s005)) <|
     cSeq (cReg 2 (
      oSeq (oMv g005 s020) <|
      oP (vNeq g020 (kc (.int .i64 0))) s021)) <|
     cCond g021
      (cSeq (cReg 2 (
       oSeq (oMv g005 s022) <|
       oMv g022 s002)) <|
      cExit 0)
      (cSkip))) <|
    cReg 2 (
     oSeq (oP (vAdd g012 (kc (.int .i64 1))) s023) <|
     oMv g023 s012)))) <|
  cSeq (cSeq (cReg 3 (
   oSeq (oMv g000 s024) <|
   oSeq (oP (vLen g024) s025) <|
   oMv (kc (.int .i64 0)) s026)) <|
  cBlock 5 (cLoop 1000000 (cSeq (cReg 1 (
     oP (vLss g026 g025) s027)) <|
    cSeq (cCond g027
     (cSkip)
     (cExit 5)) <|
    cSeq (cBlock 7 (cSeq (cReg 4 (
      oSeq (oP (vIdx 3 g024 g026) s030) <|
      oSeq (oLoadN 3 g030 s031) <|
      oSeq (oAlloc 25 [(.int .i64 0), .nilSl, .nilSl] 2 s007) <|
      oStoreN 3 g007 g031 noPut)) <|
     cSeq (cDrw 7 (
      dSeq (dLook 0 [] (oP (vFA 0 g007) s032)) <|
      dSeq (dLook 0 [] (oLoad g032 s033)) <|
      dSeq (dLook 0 [] (oMv g000 s034)) <|
      dSeq (dLook 0 [] (oP (vIdx 3 g034 (kc (.int .i64 0))) s035)) <|
      dSeq (dLook 0 [] (oP (vFA 0 g035) s036)) <|
      dSeq (dLook 0 [] (oLoad g036 s037)) <|
      dSeq (dLook 0 [] (oP (vNeq g033 g037) s040)) <|
      dNop)
      (ckNop) []) <|
     cCond g040
      (cSeq (cReg 1 (
       oMv (kc (.int .i64 70)) s002)) <|
      cExit 0)
      (cSkip))) <|
    cReg 2 (
     oSeq (oP (vAdd g026 (kc (.int .i64 1))) s041) <|
     oMv g041 s026)))) <|
  cSeq (cReg 1 (
   oMv (kc (.int .i64 0)) s002)) <|
  cExit 0⟩
noncomputable def ffn24 : FFn := ⟨3, 30, [(6, none)],
  cSeq (cReg 1 (
   oMv (kc (.bool false)) s006)) <|
  cSeq (cSeq (cReg 3 (
   oSeq (oMv g000 s013) <|
   oSeq (oP (vLen g013) s014) <|
   oMv (kc (.int .i64 0)) s015)) <|
  cBlock 1 (cLoop 1000000 (cSeq (cReg 1 (
     oP (vLss g015 g014) s016)) <|
    cSeq (cCond g016
     (cSkip)
     (cExit 1)) <|
    cSeq (cBlock 3 (cSeq (cReg 4 (
      oSeq (oP (vIdx 2 g013 g015) s017) <|
      oSeq (oLoadN 2 g017 s020) <|
      oSeq (oAlloc 48 [(.int .u8 0), .nilSl] 2 s010) <|
      oStoreN 2 g010 g020 noPut)) <|
     cSeq (cReg 3 (
      oSeq (oMv g001 s021) <|
      oSeq (oP (vLen g021) s022) <|
      oMv (kc (.int .i64 0)) s023)) <|
     cBlock 5 (cLoop 1000000 (cSeq (cReg 1 (
        oP (vLss g023 g022) s024)) <|
       cSeq (cCond g024
        (cSkip)
        (cExit 5)) <|
       cSeq (cBlock 7 (cSeq (cReg 4 (
         oSeq (oP (vIdx 2 g021 g023) s025) <|
         oSeq (oLoadN 2 g025 s026) <|
         oSeq (oAlloc 56 [.nilSl, (.bool false)] 2 s012) <|
         oStoreN 2 g012 g026 noPut)) <|
        cSeq (cReg 5 (
         oSeq (oMv g002 s027) <|
         oSeq (oLoadN 2 g010 s030) <|
         oSeq (oLoadN 2 g012 s031) <|
         oSeq (oCall g027 (fun T => [g030 T, g031 T]) s032) <|
         oGen (.un .not (.t 26)) 4 s033)) <|
        cCond g033
         (cSeq (cReg 1 (
          oMv (kc (.bool false)) s006)) <|
         cExit 0)
         (cSkip))) <|
       cReg 2 (
        oSeq (oP (vAdd g023 (kc (.int .i64 1))) s034) <|
        oMv g034 s023))))) <|
    cReg 2 (
     oSeq (oP (vAdd g015 (kc (.int .i64 1))) s035) <|
     oMv g035 s015)))) <|
  cSeq (cReg 1 (
   oMv (kc (.bool true)) s006)) <|
  cExit 0⟩
noncomputable def ffn25 : FFn := ⟨2, 22, [(4, none)],
  cSeq (cReg 3 (
   oSeq (oBox 48 g000 0 s002) <|
   oSeq (oBox 56 g001 1 s003) <|
   oMv (kc (.bool false)) s004)) <|
  cSeq (cReg 6 (
   oSeq (oP (vFA 1 g002) s006) <|
   oSeq (oLoad g006 s007) <|
   oSeq (oP (vFA 0 g003) s010) <|
   oSeq (oLoad g010 s011) <|
   oSeq (oCallF 51 (fun T => [g007 T, g011 T]) s012) <|
   oMv g012 s005)) <|
  cSeq (cSeq (cReg 7 (
   oSeq (oP (vFA 1 g003) s013) <|
   oSeq (oLoad g013 s014) <|
   oSeq (oMv g014 s015) <|
   oSeq (oGuard g015 false s016 (oP (vFA 0 g002) s016)) <|
   oSeq (oGuard g015 false s017 (oLoad g016 s017)) <|
   oSeq (oGuard g015 false s020 (oP (vEql g017 (kc (.int .u8 1))) s020)) <|
   oP (vPick g015 (kc (.bool true)) g020) s021)) <|
  cCond g021
   (cSeq (cReg 3 (
    oSeq (oMv g005 s022) <|
    oSeq (oP (vEql g022 (kc (.int .i64 0))) s023) <|
    oMv g023 s004)) <|
   cExit 0)
   (cSkip)) <|
  cSeq (cReg 3 (
   oSeq (oMv g005 s024) <|
   oSeq (oP (vGeq g024 (kc (.int .i64 0))) s025) <|
   oMv g025 s004)) <|
  cExit 0⟩
noncomputable def ffn51 : FFn := ⟨2, 21, [(4, none)],
  cSeq (cReg 1 (
   oMv (kc (.int .i64 0)) s004)) <|
  cSeq (cReg 9 (
   oSeq (oMv g000 s012) <|
   oSeq (oMv g001 s013) <|
   oSeq (oCallF 45 (fun T => [g012 T, g013 T]) s014) <|
   oSeq (oMv g014 s011) <|
   oSeq (oP (vExt 0 g011) s015) <|
   oSeq (oP (vExt 1 g011) s016) <|
   oSeq (oAlloc 33 [(.bool false), .nilSl] 6 s005) <|
   oSeq (oStoreN 2 g005 g015 noPut) <|
   oMv g016 s006)) <|
  cSeq (cReg 7 (
   oSeq (oLoadN 2 g005 s020) <|
   oSeq (oCallF 46 (fun T => [g020 T]) s021) <|
   oSeq (oMv g021 s017) <|
   oSeq (oP (vExt 0 g017) s022) <|
   oSeq (oP (vExt 1 g017) s023) <|
   oSeq (oMv g022 s007) <|
   oMv g023 s010)) <|
  cSeq (cReg 2 (
   oSeq (oMv g007 s024) <|
   oMv g024 s004)) <|
  cExit 0⟩
noncomputable def ffn12 : FFn := ⟨1, 6, [(2, (some (some 2)))],
  cSeq (cReg 1 (
   oAlloc 48 [(.int .u8 0), .nilSl] 0 s002)) <|
  cSeq (cReg 4 (
   oSeq (oMv g000 s003) <|
   oSeq (oCallF 8 (fun T => [g003 T]) s004) <|
   oSeq (oP (vBuild [(.int .u8 0), .nilSl] [((0, 1), (kc (.int .u8 3))), ((1, 1), g004)]) s005) <|
   oStoreN 2 g002 g005 noPut)) <|
  cExit 0⟩
noncomputable def ffn11 : FFn := ⟨2, 30, [(4, none), (5, none)],
  cSeq (cReg 4 (
   oSeq (oBox 25 g000 0 s002) <|
   oSeq (oBox 48 g001 1 s003) <|
   oSeq (oMv (kc (.bool false)) s004) <|
   oMv (kc (.int .i64 0)) s005)) <|
  cSeq (cSeq (cReg 3 (
   oSeq (oLoadN 3 g002 s011) <|
   oSeq (oCallF 16 (fun T => [g011 T]) s012) <|
   oMv g012 s006)) <|
  cSeq (cReg 2 (
   oSeq (oMv g006 s013) <|
   oP (vNeq g013 (kc (.int .i64 0))) s014)) <|
  cCond g014
   (cSeq (cReg 3 (
    oSeq (oMv g006 s015) <|
    oSeq (oMv (kc (.bool false)) s004) <|
    oMv g015 s005)) <|
   cExit 0)
   (cSkip)) <|
  cSeq (cSeq (cReg 10 (
   oSeq (oP (vFA 0 g002) s017) <|
   oSeq (oLoad g017 s020) <|
   oSeq (oLoadN 2 g003 s021) <|
   oSeq (oBuildSlice 48 2 [(.int .u8 0), .nilSl] 1 [((0, 2), g021)] 3 s022) <|
   oSeq (oCallF 26 (fun T => [g020 T, g022 T]) s023) <|
   oSeq (oMv g023 s016) <|
   oSeq (oP (vExt 0 g016) s024) <|
   oSeq (oP (vExt 1 g016) s025) <|
   oSeq (oMv g024 s007) <|
   oMv g025 s010)) <|
  cSeq (cReg 2 (
   oSeq (oMv g010 s026) <|
   oP (vNeq g026 (kc (.int .i64 0))) s027)) <|
  cCond g027
   (cSeq (cReg 3 (
    oSeq (oMv g010 s030) <|
    oSeq (oMv (kc (.bool false)) s004) <|
    oMv g030 s005)) <|
   cExit 0)
   (cSkip)) <|
  cSeq (cReg 7 (
   oSeq (oLoadN 2 g003 s031) <|
   oSeq (oBuildSlice 48 2 [(.int .u8 0), .nilSl] 1 [((0, 2), g031)] 1 s032) <|
   oSeq (oP (vFA 1 g002) s033) <|
   oSeq (oLoad g033 s034) <|
   oSeq (oCallF 24 (fun T => [g032 T, g034 T, (.fn (.func 25) [] [])]) s035) <|
   oSeq (oMv g035 s004) <|
   oMv (kc (.int .i64 0)) s005)) <|
  cExit 0⟩
noncomputable def ffn26 : FFn := ⟨2, 16, [(4, none), (5, none)],
  cSeq (cReg 2 (
   oSeq (oMv (kc .nilSl) s004) <|
   oMv (kc (.int .i64 0)) s005)) <|
  cSeq (cSeq (cReg 4 (
   oSeq (oMv g000 s007) <|
   oSeq (oMv g001 s010) <|
   oSeq (oCallF 52 (fun T => [g007 T, g010 T, (.fn (.func 53) [] []), (.fn (.func 54) [] [])]) s011) <|
   oMv g011 s006)) <|
  cSeq (cReg 2 (
   oSeq (oMv g006 s012) <|
   oP (vNeq g012 (kc (.int .i64 0))) s013)) <|
  cCond g013
   (cSeq (cReg 3 (
    oSeq (oMv g006 s014) <|
    oSeq (oMv (kc .nilSl) s004) <|
    oMv g014 s005)) <|
   cExit 0)
   (cSkip)) <|
  cSeq (cReg 5 (
   oSeq (oMv g000 s015) <|
   oSeq (oMv g001 s016) <|
   oSeq (oCallF 55 (fun T => [g015 T, g016 T]) s017) <|
   oSeq (oMv g017 s004) <|
   oMv (kc (.int .i64 0)) s005)) <|
  cExit 0⟩
noncomputable def ffn13 : FFn := ⟨2, 41, [(4, none)],
  cSeq (cReg 3 (
   oSeq (oBox 37 g000 0 s002) <|
   oSeq (oBox 37 g001 1 s003) <|
   oMv (kc (.bool false)) s004)) <|
  cSeq (cReg 17 (
   oSeq (oP (vFA 0 g002) s006) <|
   oSeq (oP (vFA 0 g006) s007) <|
   oSeq (oLoad g007 s010) <|
   oSeq (oP (vFA 0 g003) s011) <|
   oSeq (oP (vFA 0 g011) s012) <|
   oSeq (oLoad g012 s013) <|
   oSeq (oGen (.bin .eql .bool (.t 8) (.t 11)) 6 s014) <|
   oSeq (oMv g014 s015) <|
   oSeq (oGuard g015 true s016 (oP (vFA 0 g002) s016)) <|
   oSeq (oGuard g015 true s017 (oP (vFA 1 g016) s017)) <|
   oSeq (oGuard g015 true s020 (oLoadN 2 g017 s020)) <|
   oSeq (oGuard g015 true s021 (oP (vFA 0 g003) s021)) <|
   oSeq (oGuard g015 true s022 (oP (vFA 1 g021) s022)) <|
   oSeq (oGuard g015 true s023 (oLoadN 2 g022 s023)) <|
   oSeq (oGuard g015 true s024 (oCallF 27 (fun T => [g020 T, g023 T]) s024)) <|
   oSeq (oP (vPick g015 g024 (kc (.bool false))) s025) <|
   oMv g025 s005)) <|
  cSeq (cReg 20 (
   oSeq (oMv g005 s026) <|
   oSeq (oMv g026 s027) <|
   oSeq (oGuard g027 true s030 (oP (vFA 3 g002) s030)) <|
   oSeq (oGuard g027 true s031 (oP (vFA 0 g030) s031)) <|
   oSeq (oGuard g027 true s032 (oLoad g031 s032)) <|
   oSeq (oGuard g027 true s033 (oP (vFA 3 g003) s033)) <|
   oSeq (oGuard g027 true s034 (oP (vFA 0 g033) s034)) <|
   oSeq (oGuard g027 true s035 (oLoad g034 s035)) <|
   oSeq (oGuard g027 true s036 (oGen (.bin .eql .bool (.t 26) (.t 29)) 8 s036)) <|
   oSeq (oP (vPick g027 g036 (kc (.bool false))) s037) <|
   oSeq (oMv g037 s040) <|
   oSeq (oGuard g040 true s041 (oP (vFA 3 g002) s041)) <|
   oSeq (oGuard g040 true s042 (oP (vFA 1 g041) s042)) <|
   oSeq (oGuard g040 true s043 (oLoadN 2 g042 s043)) <|
   oSeq (oGuard g040 true s044 (oP (vFA 3 g003) s044)) <|
   oSeq (oGuard g040 true s045 (oP (vFA 1 g044) s045)) <|
   oSeq (oGuard g040 true s046 (oLoadN 2 g045 s046)) <|
   oSeq (oGuard g040 true s047 (oCallF 27 (fun T => [g043 T, g046 T]) s047)) <|
   oSeq (oP (vPick g040 g047 (kc (.bool false))) s050) <|
   oMv g050 s004)) <|
  cExit 0⟩
noncomputable def ffn27 : FFn := ⟨2, 17, [(4, none)],
  cSeq (cReg 3 (
   oSeq (oBox 33 g000 0 s002) <|
   oSeq (oBox 33 g001 1 s003) <|
   oMv (kc (.bool false)) s004)) <|
  cSeq (cReg 13 (
   oSeq (oP (vFA 0 g002) s005) <|
   oSeq (oLoad g005 s006) <|
   oSeq (oP (vFA 0 g003) s007) <|
   oSeq (oLoad g007 s010) <|
   oSeq (oGen (.bin .eql .bool (.t 6) (.t 8)) 4 s011) <|
   oSeq (oMv g011 s012) <|
   oSeq (oGuard g012 true s013 (oP (vFA 1 g002) s013)) <|
   oSeq (oGuard g012 true s014 (oLoad g013 s014)) <|
   oSeq (oGuard g012 true s015 (oP (vFA 1 g003) s015)) <|
   oSeq (oGuard g012 true s016 (oLoad g015 s016)) <|
   oSeq (oGuard g012 true s017 (oCallF 56 (fun T => [g014 T, g016 T]) s017)) <|
   oSeq (oP (vPick g012 g017 (kc (.bool false))) s020) <|
   oMv g020 s004)) <|
  cExit 0⟩
noncomputable def ffn56 : FFn := ⟨2, 26, [(4, none)],
  cSeq (cReg 1 (
   oMv (kc (.bool false)) s004)) <|
  cSeq (cSeq (cReg 5 (
   oSeq (oMv g000 s006) <|
   oSeq (oP (vLen g006) s007) <|
   oSeq (oMv g001 s010) <|
   oSeq (oP (vLen g010) s011) <|
   oP (vNeq g007 g011) s012)) <|
  cCond g012
   (cSeq (cReg 1 (
    oMv (kc (.bool false)) s004)) <|
   cExit 0)
   (cSkip)) <|
  cSeq (cSeq (cReg 1 (
   oMv (kc (.int .i64 0)) s005)) <|
  cBlock 1 (cLoop 1000000 (cSeq (cSeq (cReg 4 (
     oSeq (oMv g005 s013) <|
     oSeq (oMv g000 s014) <|
     oSeq (oP (vLen g014) s015) <|
     oP (vLss g013 g015) s016)) <|
    cCond g016
     (cSkip)
     (cExit 1)) <|
    cSeq (cBlock 3 (cSeq (cDrw 9 (
      dSeq (dLook 0 [] (oMv g000 s021)) <|
      dSeq (dLook 0 [] (oMv g005 s022)) <|
      dSeq (dLook 0 [] (oP (vIdx 1 g021 g022) s023)) <|
      dSeq (dLook 0 [] (oLoad g023 s024)) <|
      dSeq (dLook 0 [] (oMv g001 s025)) <|
      dSeq (dLook 0 [] (oMv g005 s026)) <|
      dSeq (dLook 0 [] (oP (vIdx 1 g025 g026) s027)) <|
      dSeq (dLook 0 [] (oLoad g027 s030)) <|
      dSeq (dLook 0 [] (oP (vNeq g024 g030) s031)) <|
      dNop)
      (ckNop) []) <|
     cCond g031
      (cSeq (cReg 1 (
       oMv (kc (.bool false)) s004)) <|
      cExit 0)
      (cSkip))) <|
    cReg 3 (
     oSeq (oMv g005 s017) <|
     oSeq (oP (vAdd g017 (kc (.int .i64 1))) s020) <|
     oMv g020 s005)))) <|
  cSeq (cReg 1 (
   oMv (kc (.bool true)) s004)) <|
  cExit 0⟩
noncomputable def ffn14 : FFn := ⟨0, 4, [(0, (some (some 6)))],
  cSeq (cReg 1 (
   oAlloc 37 [(.bool false), (.bool false), .nilSl, (.bool false), (.bool false), .nilSl] 0 s000)) <|
  cSeq (cReg 4 (
   oSeq (oCallF 28 (fun _ => []) s001) <|
   oSeq (oCallF 28 (fun _ => []) s002) <|
   oSeq (oP (vBuild [(.bool false), (.bool false), .nilSl, (.bool false), (.bool false), .nilSl] [((0, 3), g001), ((3, 3), g002)]) s003) <|
   oStoreN 6 g000 g003 noPut)) <|
  cExit 0⟩
noncomputable def ffn28 : FFn := ⟨0, 2, [(0, (some (some 3)))],
  cSeq (cReg 1 (
   oAlloc 35 [(.bool false), (.bool false), .nilSl] 0 s000)) <|
  cSeq (cReg 2 (
   oSeq (oP (vBuild [(.bool false), (.bool false), .nilSl] [((0, 1), (kc (.bool true)))]) s001) <|
   oStoreN 3 g000 g001 noPut)) <|
  cExit 0⟩
noncomputable def ffn15 : FFn := ⟨0, 66, [(0, none)],
  cSeq (cReg 1 (
   oMv (kc (.bool false)) s000)) <|
  cSeq (cReg 3 (
   oSeq (oCallF 4 (fun _ => [(.int .i64 1), (.int .i64 3)]) s012) <|
   oSeq (oAlloc 25 [(.int .i64 0), .nilSl, .nilSl] 1 s001) <|
   oStoreN 3 g001 g012 noPut)) <|
  cSeq (cDrw 10 (
   dSeq (dLook 0 [] (oLoadN 3 g001 s014)) <|
   dSeq (dMake 1 (oBuildSlice 3 1 [(.int .i64 0), (.int .i64 0)] 2 [((0, 1), (kc (.int .i64 (-2)))), ((1, 1), (kc (.int .i64 1)))] 1 s015)) <|
   dSeq (dAct 0 [(1, 0)] (oCallF 18 (fun T => [g015 T]) s016)) <|
   dSeq (dAct 0 [] (oCallF 29 (fun T => [g014 T, g016 T]) s017)) <|
   dSeq (dLook 0 [] (oMv g017 s013)) <|
   dSeq (dLook 0 [] (oP (vExt 0 g013) s020)) <|
   dSeq (dLook 0 [] (oP (vExt 1 g013) s021)) <|
   dSeq (dMake 7 (oAlloc 25 [(.int .i64 0), .nilSl, .nilSl] 7 s002)) <|
   dSeq (dAct 0 [(7, 0)] (oStoreN 3 g002 g020 noPut)) <|
   dSeq (dLook 0 [] (oMv g021 s003)) <|
   dNop)
   (ckSeq (ckOne g014 2 [] (oLoadN 3 g001 s014)) <|
  ckNop) []) <|
  cSeq (cDrw 9 (
   dSeq (dLook 0 [] (oLoadN 3 g001 s023)) <|
   dSeq (dAct 0 [] (oCallF 4 (fun _ => [(.int .i64 5), (.int .i64 5)]) s024)) <|
   dSeq (dAct 0 [] (oCallF 30 (fun T => [g023 T, g024 T]) s025)) <|
   dSeq (dLook 0 [] (oMv g025 s022)) <|
   dSeq (dLook 0 [] (oP (vExt 0 g022) s026)) <|
   dSeq (dLook 0 [] (oP (vExt 1 g022) s027)) <|
   dSeq (dMake 6 (oAlloc 25 [(.int .i64 0), .nilSl, .nilSl] 6 s004)) <|
   dSeq (dAct 0 [(6, 0)] (oStoreN 3 g004 g026 noPut)) <|
   dSeq (dLook 0 [] (oMv g027 s005)) <|
   dNop)
   (ckSeq (ckOne g023 2 [] (oLoadN 3 g001 s023)) <|
  ckNop) []) <|
  cSeq (cDrw 9 (
   dSeq (dLook 0 [] (oLoadN 3 g001 s031)) <|
   dSeq (dAct 0 [] (oCallF 4 (fun _ => [(.int .i64 4), (.int .i64 9)]) s032)) <|
   dSeq (dAct 0 [] (oCallF 31 (fun T => [g031 T, g032 T]) s033)) <|
   dSeq (dLook 0 [] (oMv g033 s030)) <|
   dSeq (dLook 0 [] (oP (vExt 0 g030) s034)) <|
   dSeq (dLook 0 [] (oP (vExt 1 g030) s035)) <|
   dSeq (dMake 6 (oAlloc 25 [(.int .i64 0), .nilSl, .nilSl] 6 s006)) <|
   dSeq (dAct 0 [(6, 0)] (oStoreN 3 g006 g034 noPut)) <|
   dSeq (dLook 0 [] (oMv g035 s007)) <|
   dNop)
   (ckSeq (ckOne g031 2 [] (oLoadN 3 g001 s031)) <|
  ckNop) []) <|
  cSeq (cReg 7 (
   oSeq (oCallF 6 (fun _ => [(.int .i64 1)]) s037) <|
   oSeq (oMv g037 s036) <|
   oSeq (oP (vExt 0 g036) s040) <|
   oSeq (oP (vExt 1 g036) s041) <|
   oSeq (oAlloc 25 [(.int .i64 0), .nilSl, .nilSl] 4 s010) <|
   oSeq (oStoreN 3 g010 g040 noPut) <|
   oMv g041 s011)) <|
  cSeq (cDrw 33 (
   dSeq (dLook 0 [] (oP (vFA 2 g001) s042)) <|
   dSeq (dLook 0 [] (oLoad g042 s043)) <|
   dSeq (dLook 0 [] (oP (vLen g043) s044)) <|
   dSeq (dLook 0 [] (oP (vEql g044 (kc (.int .i64 2))) s045)) <|
   dSeq (dLook 0 [] (oMv g045 s046)) <|
   dSeq (dLook 0 [] (oGuard g046 true s047 (oLoadN 3 g002 s047))) <|
   dSeq (dLook 0 [] (oGuard g046 true s050 (oMv g003 s050))) <|
   dSeq (dAct 0 [] (oGuard g046 true s051 (oCallF 4 (fun _ => [(.int .i64 2), (.int .i64 3)]) s051))) <|
   dSeq (dAct 0 [] (oGuard g046 true s052 (oCallF 32 (fun T => [g047 T, g050 T, g051 T]) s052))) <|
   dSeq (dLook 0 [] (oP (vPick g046 g052 (kc (.bool false))) s053)) <|
   dSeq (dLook 0 [] (oMv g053 s054)) <|
   dSeq (dLook 0 [] (oGuard g054 true s055 (oLoadN 3 g004 s055))) <|
   dSeq (dLook 0 [] (oGuard g054 true s056 (oMv g005 s056))) <|
   dSeq (dAct 0 [] (oGuard g054 true s057 (oCallF 4 (fun _ => [(.int .i64 1), (.int .i64 5)]) s057))) <|
   dSeq (dAct 0 [] (oGuard g054 true s060 (oCallF 32 (fun T => [g055 T, g056 T, g057 T]) s060))) <|
   dSeq (dLook 0 [] (oP (vPick g054 g060 (kc (.bool false))) s061)) <|
   dSeq (dLook 0 [] (oMv g061 s062)) <|
   dSeq (dLook 0 [] (oGuard g062 true s063 (oMv g011 s063))) <|
   dSeq (dLook 0 [] (oGuard g062 true s064 (oP (vEql g063 (kc (.int .i64 0))) s064))) <|
   dSeq (dLook 0 [] (oP (vPick g062 g064 (kc (.bool false))) s065)) <|
   dSeq (dLook 0 [] (oMv g065 s066)) <|
   dSeq (dLook 0 [] (oGuard g066 true s067 (oLoadN 3 g006 s067))) <|
   dSeq (dLook 0 [] (oGuard g066 true s070 (oMv g007 s070))) <|
   dSeq (dLook 0 [] (oGuard g066 true s071 (oLoadN 3 g010 s071))) <|
   dSeq (dAct 0 [] (oGuard g066 true s072 (oCallF 32 (fun T => [g067 T, g070 T, g071 T]) s072))) <|
   dSeq (dLook 0 [] (oP (vPick g066 g072 (kc (.bool false))) s073)) <|
   dSeq (dLook 0 [] (oMv g073 s074)) <|
   dSeq (dLook 0 [] (oGuard g074 true s075 (oP (vFA 1 g010) s075))) <|
   dSeq (dLook 0 [] (oGuard g074 true s076 (oLoad g075 s076))) <|
   dSeq (dLook 0 [] (oGuard g074 true s077 (oP (vLen g076) s077))) <|
   dSeq (dLook 0 [] (oGuard g074 true s100 (oP (vEql g077 (kc (.int .i64 1))) s100))) <|
   dSeq (dLook 0 [] (oP (vPick g074 g100 (kc (.bool false))) s101)) <|
   dSeq (dLook 0 [] (oMv g101 s000)) <|
   dNop)
   (ckSeq (ckOne g047 4 [] (oGuard g046 true s047 (oLoadN 3 g002 s047))) <|
  ckSeq (ckOne g055 2 [] (oGuard g054 true s055 (oLoadN 3 g004 s055))) <|
  ckNop) []) <|
  cExit 0⟩
noncomputable def ffn29 : FFn := ⟨2, 24, [(4, (some (some 3))), (5, none)],
  cSeq (cReg 4 (
   oSeq (oBox 25 g000 0 s002) <|
   oSeq (oBox 56 g001 1 s003) <|
   oSeq (oAlloc 25 [(.int .i64 0), .nilSl, .nilSl] 2 s004) <|
   oMv (kc (.int .i64 0)) s005)) <|
  cSeq (cSeq (cReg 3 (
   oSeq (oLoadN 3 g002 s007) <|
   oSeq (oCallF 16 (fun T => [g007 T]) s010) <|
   oMv g010 s006)) <|
  cSeq (cReg 2 (
   oSeq (oMv g006 s011) <|
   oP (vNeq g011 (kc (.int .i64 0))) s012)) <|
  cCond g012
   (cSeq (cReg 4 (
    oSeq (oP (vBuild [(.int .i64 0), .nilSl, .nilSl] []) s013) <|
    oSeq (oMv g006 s014) <|
    oSeq (oStoreN 3 g004 g013 noPut) <|
    oMv g014 s005)) <|
   cExit 0)
   (cSkip)) <|
  cSeq (cDrw 13 (
   dSeq (dLook 0 [] (oP (vFA 0 g002) s015)) <|
   dSeq (dLook 0 [] (oLoad g015 s016)) <|
   dSeq (dLook 0 [] (oP (vFA 1 g002) s017)) <|
   dSeq (dLook 0 [] (oLoad g017 s020)) <|
   dSeq (dAct 0 [] (oCallF 57 (fun T => [g020 T]) s021)) <|
   dSeq (dLook 1 [] (oLoadN 2 g003 s022)) <|
   dSeq (dMake 6 (oBuildSlice 56 2 [.nilSl, (.bool false)] 1 [((0, 2), g022)] 6 s023)) <|
   dSeq (dAct 0 [(6, 0)] (oGen (.append 2 32 56 [.nilSl, (.bool false)] (.t 17) (.t 19)) 7 s024)) <|
   dSeq (dAct 0 [] (oCallF 17 (fun T => [g016 T, g024 T]) s025)) <|
   dSeq (dLook 0 [] (oP (vExt 0 g025) s026)) <|
   dSeq (dLook 0 [] (oP (vExt 1 g025) s027)) <|
   dSeq (dAct 0 [] (oStoreN 3 g004 g026 noPut)) <|
   dSeq (dLook 0 [] (oMv g027 s005)) <|
   dNop)
   (ckSeq (ckOne g016 3 [] (oLoad g015 s016)) <|
  ckSeq (ckOne g016 2 [] (oLoad g015 s016)) <|
  ckSeq (ckOne g022 3 [] (oLoadN 2 g003 s022)) <|
  ckNop) []) <|
  cExit 0⟩
noncomputable def ffn57 : FFn := ⟨1, 8, [(2, none)],
  cSeq (cReg 1 (
   oMv (kc .nilSl) s002)) <|
  cSeq (cSeq (cReg 2 (
   oSeq (oMv g000 s003) <|
   oGen (.bin .eql .sl (.t 3) (.c .nilSl)) 1 s004)) <|
  cCond g004
   (cSeq (cReg 1 (
    oMv (kc .nilSl) s002)) <|
   cExit 0)
   (cSkip)) <|
  cSeq (cReg 4 (
   oSeq (oBuildSlice 56 2 [] 0 [] 0 s005) <|
   oSeq (oMv g000 s006) <|
   oSeq (oGen (.append 2 32 56 [.nilSl, (.bool false)] (.t 5) (.t 6)) 2 s007) <|
   oMv g007 s002)) <|
  cExit 0⟩
noncomputable def ffn30 : FFn := ⟨2, 26, [(4, (some (some 3))), (5, none)],
  cSeq (cReg 4 (
   oSeq (oBox 25 g000 0 s002) <|
   oSeq (oBox 25 g001 1 s003) <|
   oSeq (oAlloc 25 [(.int .i64 0), .nilSl, .nilSl] 2 s004) <|
   oMv (kc (.int .i64 0)) s005)) <|
  cSeq (cSeq (cReg 5 (
   oSeq (oLoadN 3 g002 s007) <|
   oSeq (oLoadN 3 g003 s010) <|
   oSeq (oBuildSlice 25 3 [(.int .i64 0), .nilSl, .nilSl, (.int .i64 0), .nilSl, .nilSl] 2 [((0, 3), g007), ((3, 3), g010)] 2 s011) <|
   oSeq (oCallF 23 (fun T => [g011 T]) s012) <|
   oMv g012 s006)) <|
  cSeq (cReg 2 (
   oSeq (oMv g006 s013) <|
   oP (vNeq g013 (kc (.int .i64 0))) s014)) <|
  cCond g014
   (cSeq (cReg 4 (
    oSeq (oP (vBuild [(.int .i64 0), .nilSl, .nilSl] []) s015) <|
    oSeq (oMv g006 s016) <|
    oSeq (oStoreN 3 g004 g015 noPut) <|
    oMv g016 s005)) <|
   cExit 0)
   (cSkip)) <|
  cSeq (cDrw 13 (
   dSeq (dLook 0 [] (oP (vFA 0 g002) s017)) <|
   dSeq (dLook 0 [] (oLoad g017 s020)) <|
   dSeq (dLook 0 [] (oP (vFA 2 g002) s021)) <|
   dSeq (dLook 0 [] (oLoad g021 s022)) <|
   dSeq (dLook 0 [] (oP (vFA 2 g003) s023)) <|
   dSeq (dLook 0 [] (oLoad g023 s024)) <|
   dSeq (dMake 6 (oBuildSlice 23 1 [.nilSl, .nilSl] 2 [((0, 1), g022), ((1, 1), g024)] 6 s025)) <|
   dSeq (dAct 0 [(6, 0)] (oCallF 58 (fun T => [g025 T]) s026)) <|
   dSeq (dAct 0 [] (oCallF 34 (fun T => [g020 T, g026 T]) s027)) <|
   dSeq (dLook 0 [] (oP (vExt 0 g027) s030)) <|
   dSeq (dLook 0 [] (oP (vExt 1 g027) s031)) <|
   dSeq (dAct 0 [] (oStoreN 3 g004 g030 noPut)) <|
   dSeq (dLook 0 [] (oMv g031 s005)) <|
   dNop)
   (ckSeq (ckOne g020 2 [] (oLoad g017 s020)) <|
  ckNop) []) <|
  cExit 0⟩
noncomputable def ffn58 : FFn := ⟨1, 36, [(2, none)],
  cSeq (cReg 1 (
   oMv (kc .nilSl) s002)) <|
  cSeq (cReg 1 (
   oMv (kc (.int .i64 0)) s003)) <|
  cSeq (cSeq (cReg 3 (
   oSeq (oMv g000 s011) <|
   oSeq (oP (vLen g011) s012) <|
   oMv (kc (.int .i64 0)) s013)) <|
  cBlock 1 (cLoop 1000000 (cSeq (cReg 1 (
     oP (vLss g013 g012) s014)) <|
    cSeq (cCond g014
     (cSkip)
     (cExit 1)) <|
    cSeq (cBlock 3 (cSeq (cReg 3 (
      oSeq (oP (vIdx 1 g011 g013) s015) <|
      oSeq (oLoad g015 s016) <|
      oMv g016 s005)) <|
     cSeq (cReg 5 (
      oSeq (oMv g003 s017) <|
      oSeq (oMv g005 s020) <|
      oSeq (oP (vLen g020) s021) <|
      oSeq (oP (vAdd g017 g021) s022) <|
      oMv g022 s003)) <|
     cSeq (cReg 2 (
      oSeq (oMv g003 s023) <|
      oP (vLss g023 (kc (.int .i64 0))) s024)) <|
     cCond g024
      (cReg 2 (
       oSeq (oGen (.iface 9 (.c (.str ⟨#[108, 101, 110, 32, 111, 117, 116, 32, 111, 102, 32, 114, 97, 110, 103, 101]⟩))) 0 s025) <|
       oGen (.panic (.t 21)) 1 noPut))
      (cSkip))) <|
    cReg 2 (
     oSeq (oP (vAdd g013 (kc (.int .i64 1))) s026) <|
     oMv g026 s013)))) <|
  cSeq (cReg 3 (
   oSeq (oMv g003 s027) <|
   oSeq (oCallF 86 (fun T => [.nilSl, g027 T]) s030) <|
   oMv g030 s006)) <|
  cSeq (cSeq (cReg 3 (
   oSeq (oMv g000 s031) <|
   oSeq (oP (vLen g031) s032) <|
   oMv (kc (.int .i64 0)) s033)) <|
  cBlock 5 (cLoop 1000000 (cSeq (cReg 1 (
     oP (vLss g033 g032) s034)) <|
    cSeq (cCond g034
     (cSkip)
     (cExit 5)) <|
    cSeq (cBlock 7 (cSeq (cReg 3 (
      oSeq (oP (vIdx 1 g031 g033) s035) <|
      oSeq (oLoad g035 s036) <|
      oMv g036 s010)) <|
     cReg 4 (
      oSeq (oMv g006 s037) <|
      oSeq (oMv g010 s040) <|
      oSeq (oGen (.append 2 32 48 [(.int .u8 0), .nilSl] (.t 31) (.t 32)) 2 s041) <|
      oMv g041 s006))) <|
    cReg 2 (
     oSeq (oP (vAdd g033 (kc (.int .i64 1))) s042) <|
     oMv g042 s033)))) <|
  cSeq (cReg 2 (
   oSeq (oMv g006 s043) <|
   oMv g043 s002)) <|
  cExit 0⟩
noncomputable def ffn86 : FFn := ⟨2, 27, [(4, none)],
  cSeq (cReg 1 (
   oMv (kc .nilSl) s004)) <|
  cSeq (cSeq (cReg 2 (
   oSeq (oMv g001 s005) <|
   oP (vLss g005 (kc (.int .i64 0))) s006)) <|
  cCond g006
   (cReg 2 (
    oSeq (oGen (.iface 9 (.c (.str ⟨#[99, 97, 110, 110, 111, 116, 32, 98, 101, 32, 110, 101, 103, 97, 116, 105, 118, 101]⟩))) 0 s007) <|
    oGen (.panic (.t 7)) 1 noPut))
   (cSkip)) <|
  cSeq (cSeq (cReg 8 (
   oSeq (oMv g001 s010) <|
   oSeq (oMv g000 s011) <|
   oSeq (oGen (.cap (.t 9)) 2 s012) <|
   oSeq (oMv g000 s013) <|
   oSeq (oP (vLen g013) s014) <|
   oSeq (oP (vSub g012 g014) s015) <|
   oSeq (oP (vSub g010 g015) s016) <|
   oMv g016 s001)) <|
  cSeq (cReg 2 (
   oSeq (oMv g001 s017) <|
   oP (vGtr g017 (kc (.int .i64 0))) s020)) <|
  cCond g020
   (cReg 10 (
    oSeq (oMv g000 s021) <|
    oSeq (oMv g000 s022) <|
    oSeq (oGen (.cap (.t 18)) 2 s023) <|
    oSeq (oGen (.slice 2 (.t 17) none (some (.t 19)) none) 3 s024) <|
    oSeq (oMv g001 s025) <|
    oSeq (oGen (.appendZ 2 32 48 [(.int .u8 0), .nilSl] (.t 20) (.t 21)) 5 s026) <|
    oSeq (oMv g000 s027) <|
    oSeq (oP (vLen g027) s030) <|
    oSeq (oGen (.slice 2 (.t 22) none (some (.t 24)) none) 8 s031) <|
    oMv g031 s000))
   (cSkip)) <|
  cSeq (cReg 2 (
   oSeq (oMv g000 s032) <|
   oMv g032 s004)) <|
  cExit 0⟩
noncomputable def ffn31 : FFn := ⟨2, 26, [(4, (some (some 3))), (5, none)],
  cSeq (cReg 4 (
   oSeq (oBox 25 g000 0 s002) <|
   oSeq (oBox 25 g001 1 s003) <|
   oSeq (oAlloc 25 [(.int .i64 0), .nilSl, .nilSl] 2 s004) <|
   oMv (kc (.int .i64 0)) s005)) <|
  cSeq (cSeq (cReg 5 (
   oSeq (oLoadN 3 g002 s007) <|
   oSeq (oLoadN 3 g003 s010) <|
   oSeq (oBuildSlice 25 3 [(.int .i64 0), .nilSl, .nilSl, (.int .i64 0), .nilSl, .nilSl] 2 [((0, 3), g007), ((3, 3), g010)] 2 s011) <|
   oSeq (oCallF 23 (fun T => [g011 T]) s012) <|
   oMv g012 s006)) <|
  cSeq (cReg 2 (
   oSeq (oMv g006 s013) <|
   oP (vNeq g013 (kc (.int .i64 0))) s014)) <|
  cCond g014
   (cSeq (cReg 4 (
    oSeq (oP (vBuild [(.int .i64 0), .nilSl, .nilSl] []) s015) <|
    oSeq (oMv g006 s016) <|
    oSeq (oStoreN 3 g004 g015 noPut) <|
    oMv g016 s005)) <|
   cExit 0)
   (cSkip)) <|
  cSeq (cDrw 13 (
   dSeq (dLook 0 [] (oP (vFA 0 g002) s017)) <|
   dSeq (dLook 0 [] (oLoad g017 s020)) <|
   dSeq (dLook 0 [] (oP (vFA 1 g002) s021)) <|
   dSeq (dLook 0 [] (oLoad g021 s022)) <|
   dSeq (dLook 0 [] (oP (vFA 1 g003) s023)) <|
   dSeq (dLook 0 [] (oLoad g023 s024)) <|
   dSeq (dMake 6 (oBuildSlice 22 1 [.nilSl, .nilSl] 2 [((0, 1), g022), ((1, 1), g024)] 6 s025)) <|
   dSeq (dAct 0 [(6, 0)] (oCallF 59 (fun T => [g025 T]) s026)) <|
   dSeq (dAct 0 [] (oCallF 17 (fun T => [g020 T, g026 T]) s027)) <|
   dSeq (dLook 0 [] (oP (vExt 0 g027) s030)) <|
   dSeq (dLook 0 [] (oP (vExt 1 g027) s031)) <|
   dSeq (dAct 0 [] (oStoreN 3 g004 g030 noPut)) <|
   dSeq (dLook 0 [] (oMv g031 s005)) <|
   dNop)
   (ckSeq (ckOne g020 2 [] (oLoad g017 s020)) <|
  ckNop) []) <|
  cExit 0⟩
noncomputable def ffn59 : FFn := ⟨1, 36, [(2, none)],
  cSeq (cReg 1 (
   oMv (kc .nilSl) s002)) <|
  cSeq (cReg 1 (
   oMv (kc (.int .i64 0)) s003)) <|
  cSeq (cSeq (cReg 3 (
   oSeq (oMv g000 s011) <|
   oSeq (oP (vLen g011) s012) <|
   oMv (kc (.int .i64 0)) s013)) <|
  cBlock 1 (cLoop 1000000 (cSeq (cReg 1 (
     oP (vLss g013 g012) s014)) <|
    cSeq (cCond g014
     (cSkip)
     (cExit 1)) <|
    cSeq (cBlock 3 (cSeq (cReg 3 (
      oSeq (oP (vIdx 1 g011 g013) s015) <|
      oSeq (oLoad g015 s016) <|
      oMv g016 s005)) <|
     cSeq (cReg 5 (
      oSeq (oMv g003 s017) <|
      oSeq (oMv g005 s020) <|
      oSeq (oP (vLen g020) s021) <|
      oSeq (oP (vAdd g017 g021) s022) <|
      oMv g022 s003)) <|
     cSeq (cReg 2 (
      oSeq (oMv g003 s023) <|
      oP (vLss g023 (kc (.int .i64 0))) s024)) <|
     cCond g024
      (cReg 2 (
       oSeq (oGen (.iface 9 (.c (.str ⟨#[108, 101, 110, 32, 111, 117, 116, 32, 111, 102, 32, 114, 97, 110, 103, 101]⟩))) 0 s025) <|
       oGen (.panic (.t 21)) 1 noPut))
      (cSkip))) <|
    cReg 2 (
     oSeq (oP (vAdd g013 (kc (.int .i64 1))) s026) <|
     oMv g026 s013)))) <|
  cSeq (cReg 3 (
   oSeq (oMv g003 s027) <|
   oSeq (oCallF 87 (fun T => [.nilSl, g027 T]) s030) <|
   oMv g030 s006)) <|
  cSeq (cSeq (cReg 3 (
   oSeq (oMv g000 s031) <|
   oSeq (oP (vLen g031) s032) <|
   oMv (kc (.int .i64 0)) s033)) <|
  cBlock 5 (cLoop 1000000 (cSeq (cReg 1 (
     oP (vLss g033 g032) s034)) <|
    cSeq (cCond g034
     (cSkip)
     (cExit 5)) <|
    cSeq (cBlock 7 (cSeq (cReg 3 (
      oSeq (oP (vIdx 1 g031 g033) s035) <|
      oSeq (oLoad g035 s036) <|
      oMv g036 s010)) <|
     cReg 4 (
      oSeq (oMv g006 s037) <|
      oSeq (oMv g010 s040) <|
      oSeq (oGen (.append 2 32 56 [.nilSl, (.bool false)] (.t 31) (.t 32)) 2 s041) <|
      oMv g041 s006))) <|
    cReg 2 (
     oSeq (oP (vAdd g033 (kc (.int .i64 1))) s042) <|
     oMv g042 s033)))) <|
  cSeq (cReg 2 (
   oSeq (oMv g006 s043) <|
   oMv g043 s002)) <|
  cExit 0⟩
noncomputable def ffn87 : FFn := ⟨2, 27, [(4, none)],
  cSeq (cReg 1 (
   oMv (kc .nilSl) s004)) <|
  cSeq (cSeq (cReg 2 (
   oSeq (oMv g001 s005) <|
   oP (vLss g005 (kc (.int .i64 0))) s006)) <|
  cCond g006
   (cReg 2 (
    oSeq (oGen (.iface 9 (.c (.str ⟨#[99, 97, 110, 110, 111, 116, 32, 98, 101, 32, 110, 101, 103, 97, 116, 105, 118, 101]⟩))) 0 s007) <|
    oGen (.panic (.t 7)) 1 noPut))
   (cSkip)) <|
  cSeq (cSeq (cReg 8 (
   oSeq (oMv g001 s010) <|
   oSeq (oMv g000 s011) <|
   oSeq (oGen (.cap (.t 9)) 2 s012) <|
   oSeq (oMv g000 s013) <|
   oSeq (oP (vLen g013) s014) <|
   oSeq (oP (vSub g012 g014) s015) <|
   oSeq (oP (vSub g010 g015) s016) <|
   oMv g016 s001)) <|
  cSeq (cReg 2 (
   oSeq (oMv g001 s017) <|
   oP (vGtr g017 (kc (.int .i64 0))) s020)) <|
  cCond g020
   (cReg 10 (
    oSeq (oMv g000 s021) <|
    oSeq (oMv g000 s022) <|
    oSeq (oGen (.cap (.t 18)) 2 s023) <|
    oSeq (oGen (.slice 2 (.t 17) none (some (.t 19)) none) 3 s024) <|
    oSeq (oMv g001 s025) <|
    oSeq (oGen (.appendZ 2 32 56 [.nilSl, (.bool false)] (.t 20) (.t 21)) 5 s026) <|
    oSeq (oMv g000 s027) <|
    oSeq (oP (vLen g027) s030) <|
    oSeq (oGen (.slice 2 (.t 22) none (some (.t 24)) none) 8 s031) <|
    oMv g031 s000))
   (cSkip)) <|
  cSeq (cReg 2 (
   oSeq (oMv g000 s032) <|
   oMv g032 s004)) <|
  cExit 0⟩
noncomputable def ffn32 : FFn := ⟨3, 14, [(6, none)],
  cSeq (cReg 3 (
   oSeq (oBox 25 g000 0 s003) <|
   oSeq (oBox 25 g002 1 s005) <|
   oMv (kc (.bool false)) s006)) <|
  cSeq (cReg 8 (
   oSeq (oMv g001 s007) <|
   oSeq (oP (vEql g007 (kc (.int .i64 0))) s010) <|
   oSeq (oMv g010 s011) <|
   oSeq (oGuard g011 true s012 (oLoadN 3 g003 s012)) <|
   oSeq (oGuard g011 true s013 (oLoadN 3 g005 s013)) <|
   oSeq (oGuard g011 true s014 (oCallF 60 (fun T => [g012 T, g013 T]) s014)) <|
   oSeq (oP (vPick g011 g014 (kc (.bool false))) s015) <|
   oMv g015 s006)) <|
  cExit 0⟩
noncomputable def ffn60 : FFn := ⟨2, 8, [(4, none)],
  cSeq (cReg 3 (
   oSeq (oBox 25 g000 0 s002) <|
   oSeq (oBox 25 g001 1 s003) <|
   oMv (kc (.bool false)) s004)) <|
  cSeq (cReg 4 (
   oSeq (oLoadN 3 g002 s005) <|
   oSeq (oLoadN 3 g003 s006) <|
   oSeq (oCallF 88 (fun T => [g005 T, g006 T]) s007) <|
   oMv g007 s004)) <|
  cExit 0⟩
noncomputable def ffn88 : FFn := ⟨2, 24, [(4, none)],
  cSeq (cReg 3 (
   oSeq (oBox 25 g000 0 s002) <|
   oSeq (oBox 25 g001 1 s003) <|
   oMv (kc (.bool false)) s004)) <|
  cSeq (cReg 20 (
   oSeq (oP (vFA 0 g002) s005) <|
   oSeq (oLoad g005 s006) <|
   oSeq (oP (vFA 0 g003) s007) <|
   oSeq (oLoad g007 s010) <|
   oSeq (oP (vEql g006 g010) s011) <|
   oSeq (oMv g011 s012) <|
   oSeq (oGuard g012 true s013 (oP (vFA 1 g002) s013)) <|
   oSeq (oGuard g012 true s014 (oLoad g013 s014)) <|
   oSeq (oGuard g012 true s015 (oP (vFA 1 g003) s015)) <|
   oSeq (oGuard g012 true s016 (oLoad g015 s016)) <|
   oSeq (oGuard g012 true s017 (oCallF 109 (fun T => [g014 T, g016 T]) s017)) <|
   oSeq (oP (vPick g012 g017 (kc (.bool false))) s020) <|
   oSeq (oMv g020 s021) <|
   oSeq (oGuard g021 true s022 (oP (vFA 2 g002) s022)) <|
   oSeq (oGuard g021 true s023 (oLoad g022 s023)) <|
   oSeq (oGuard g021 true s024 (oP (vFA 2 g003) s024)) <|
   oSeq (oGuard g021 true s025 (oLoad g024 s025)) <|
   oSeq (oGuard g021 true s026 (oCallF 110 (fun T => [g023 T, g025 T]) s026)) <|
   oSeq (oP (vPick g021 g026 (kc (.bool false))) s027) <|
   oMv g027 s004)) <|
  cExit 0⟩
noncomputable def ffn109 : FFn := ⟨2, 42, [(4, none)],
  cSeq (cReg 1 (
   oMv (kc (.bool false)) s004)) <|
  cSeq (cSeq (cReg 5 (
   oSeq (oMv g000 s006) <|
   oSeq (oP (vLen g006) s007) <|
   oSeq (oMv g001 s010) <|
   oSeq (oP (vLen g010) s011) <|
   oP (vNeq g007 g011) s012)) <|
  cCond g012
   (cSeq (cReg 1 (
    oMv (kc (.bool false)) s004)) <|
   cExit 0)
   (cSkip)) <|
  cSeq (cSeq (cReg 1 (
   oMv (kc (.int .i64 0)) s005)) <|
  cBlock 1 (cLoop 1000000 (cSeq (cSeq (cReg 4 (
     oSeq (oMv g005 s013) <|
     oSeq (oMv g000 s014) <|
     oSeq (oP (vLen g014) s015) <|
     oP (vLss g013 g015) s016)) <|
    cCond g016
     (cSkip)
     (cExit 1)) <|
    cSeq (cBlock 3 (cSeq (cDrw 25 (
      dSeq (dLook 0 [] (oMv g000 s021)) <|
      dSeq (dLook 0 [] (oMv g005 s022)) <|
      dSeq (dLook 0 [] (oP (vIdx 2 g021 g022) s023)) <|
      dSeq (dLook 0 [] (oP (vFA 1 g023) s024)) <|
      dSeq (dLook 0 [] (oLoad g024 s025)) <|
      dSeq (dLook 0 [] (oMv g001 s026)) <|
      dSeq (dLook 0 [] (oMv g005 s027)) <|
      dSeq (dLook 0 [] (oP (vIdx 2 g026 g027) s030)) <|
      dSeq (dLook 0 [] (oP (vFA 1 g030) s031)) <|
      dSeq (dLook 0 [] (oLoad g031 s032)) <|
      dSeq (dLook 0 [] (oGen (.bin .neq .bool (.t 21) (.t 26)) 10 s033)) <|
      dSeq (dLook 0 [] (oMv g033 s034)) <|
      dSeq (dLook 0 [] (oGuard g034 false s035 (oMv g000 s035))) <|
      dSeq (dLook 0 [] (oGuard g034 false s036 (oMv g005 s036))) <|
      dSeq (dLook 0 [] (oGuard g034 false s037 (oP (vIdx 2 g035 g036) s037))) <|
      dSeq (dLook 0 [] (oGuard g034 false s040 (oP (vFA 0 g037) s040))) <|
      dSeq (dLook 0 [] (oGuard g034 false s041 (oLoad g040 s041))) <|
      dSeq (dLook 0 [] (oGuard g034 false s042 (oMv g001 s042))) <|
      dSeq (dLook 0 [] (oGuard g034 false s043 (oMv g005 s043))) <|
      dSeq (dLook 0 [] (oGuard g034 false s044 (oP (vIdx 2 g042 g043) s044))) <|
      dSeq (dLook 0 [] (oGuard g034 false s045 (oP (vFA 0 g044) s045))) <|
      dSeq (dLook 0 [] (oGuard g034 false s046 (oLoad g045 s046))) <|
      dSeq (dAct 0 [] (oGuard g034 false s047 (oCallF 129 (fun T => [g041 T, g046 T]) s047))) <|
      dSeq (dLook 0 [] (oGuard g034 false s050 (oGen (.un .not (.t 39)) 23 s050))) <|
      dSeq (dLook 0 [] (oP (vPick g034 (kc (.bool true)) g050) s051)) <|
      dNop)
      (ckNop) []) <|
     cCond g051
      (cSeq (cReg 1 (
       oMv (kc (.bool false)) s004)) <|
      cExit 0)
      (cSkip))) <|
    cReg 3 (
     oSeq (oMv g005 s017) <|
     oSeq (oP (vAdd g017 (kc (.int .i64 1))) s020) <|
     oMv g020 s005)))) <|
  cSeq (cReg 1 (
   oMv (kc (.bool true)) s004)) <|
  cExit 0⟩
noncomputable def ffn129 : FFn := ⟨2, 27, [(4, none)],
  cSeq (cReg 1 (
   oMv (kc (.bool false)) s004)) <|
  cSeq (cSeq (cReg 5 (
   oSeq (oMv g000 s006) <|
   oSeq (oP (vLen g006) s007) <|
   oSeq (oMv g001 s010) <|
   oSeq (oP (vLen g010) s011) <|
   oP (vNeq g007 g011) s012)) <|
  cCond g012
   (cSeq (cReg 1 (
    oMv (kc (.bool false)) s004)) <|
   cExit 0)
   (cSkip)) <|
  cSeq (cSeq (cReg 1 (
   oMv (kc (.int .i64 0)) s005)) <|
  cBlock 1 (cLoop 1000000 (cSeq (cSeq (cReg 4 (
     oSeq (oMv g005 s013) <|
     oSeq (oMv g000 s014) <|
     oSeq (oP (vLen g014) s015) <|
     oP (vLss g013 g015) s016)) <|
    cCond g016
     (cSkip)
     (cExit 1)) <|
    cSeq (cBlock 3 (cSeq (cDrw 10 (
      dSeq (dLook 0 [] (oMv g000 s021)) <|
      dSeq (dLook 0 [] (oMv g005 s022)) <|
      dSeq (dLook 0 [] (oP (vIdx 2 g021 g022) s023)) <|
      dSeq (dLook 0 [] (oLoadN 2 g023 s024)) <|
      dSeq (dLook 0 [] (oMv g001 s025)) <|
      dSeq (dLook 0 [] (oMv g005 s026)) <|
      dSeq (dLook 0 [] (oP (vIdx 2 g025 g026) s027)) <|
      dSeq (dLook 0 [] (oLoadN 2 g027 s030)) <|
      dSeq (dAct 0 [] (oCallF 27 (fun T => [g024 T, g030 T]) s031)) <|
      dSeq (dLook 0 [] (oGen (.un .not (.t 25)) 9 s032)) <|
      dNop)
      (ckNop) []) <|
     cCond g032
      (cSeq (cReg 1 (
       oMv (kc (.bool false)) s004)) <|
      cExit 0)
      (cSkip))) <|
    cReg 3 (
     oSeq (oMv g005 s017) <|
     oSeq (oP (vAdd g017 (kc (.int .i64 1))) s020) <|
     oMv g020 s005)))) <|
  cSeq (cReg 1 (
   oMv (kc (.bool true)) s004)) <|
  cExit 0⟩
noncomputable def ffn110 : FFn := ⟨2, 42, [(4, none)],
  cSeq (cReg 1 (
   oMv (kc (.bool false)) s004)) <|
  cSeq (cSeq (cReg 5 (
   oSeq (oMv g000 s006) <|
   oSeq (oP (vLen g006) s007) <|
   oSeq (oMv g001 s010) <|
   oSeq (oP (vLen g010) s011) <|
   oP (vNeq g007 g011) s012)) <|
  cCond g012
   (cSeq (cReg 1 (
    oMv (kc (.bool false)) s004)) <|
   cExit 0)
   (cSkip)) <|
  cSeq (cSeq (cReg 1 (
   oMv (kc (.int .i64 0)) s005)) <|
  cBlock 1 (cLoop 1000000 (cSeq (cSeq (cReg 4 (
     oSeq (oMv g005 s013) <|
     oSeq (oMv g000 s014) <|
     oSeq (oP (vLen g014) s015) <|
     oP (vLss g013 g015) s016)) <|
    cCond g016
     (cSkip)
     (cExit 1)) <|
    cSeq (cBlock 3 (cSeq (cDrw 25 (
      dSeq (dLook 0 [] (oMv g000 s021)) <|
      dSeq (dLook 0 [] (oMv g005 s022)) <|
      dSeq (dLook 0 [] (oP (vIdx 2 g021 g022) s023)) <|
      dSeq (dLook 0 [] (oP (vFA 0 g023) s024)) <|
      dSeq (dLook 0 [] (oLoad g024 s025)) <|
      dSeq (dLook 0 [] (oMv g001 s026)) <|
      dSeq (dLook 0 [] (oMv g005 s027)) <|
      dSeq (dLook 0 [] (oP (vIdx 2 g026 g027) s030)) <|
      dSeq (dLook 0 [] (oP (vFA 0 g030) s031)) <|
      dSeq (dLook 0 [] (oLoad g031 s032)) <|
      dSeq (dLook 0 [] (oP (vNeq g025 g032) s033)) <|
      dSeq (dLook 0 [] (oMv g033 s034)) <|
      dSeq (dLook 0 [] (oGuard g034 false s035 (oMv g000 s035))) <|
      dSeq (dLook 0 [] (oGuard g034 false s036 (oMv g005 s036))) <|
      dSeq (dLook 0 [] (oGuard g034 false s037 (oP (vIdx 2 g035 g036) s037))) <|
      dSeq (dLook 0 [] (oGuard g034 false s040 (oP (vFA 1 g037) s040))) <|
      dSeq (dLook 0 [] (oGuard g034 false s041 (oLoad g040 s041))) <|
      dSeq (dLook 0 [] (oGuard g034 false s042 (oMv g001 s042))) <|
      dSeq (dLook 0 [] (oGuard g034 false s043 (oMv g005 s043))) <|
      dSeq (dLook 0 [] (oGuard g034 false s044 (oP (vIdx 2 g042 g043) s044))) <|
      dSeq (dLook 0 [] (oGuard g034 false s045 (oP (vFA 1 g044) s045))) <|
      dSeq (dLook 0 [] (oGuard g034 false s046 (oLoad g045 s046))) <|
      dSeq (dAct 0 [] (oGuard g034 false s047 (oCallF 129 (fun T => [g041 T, g046 T]) s047))) <|
      dSeq (dLook 0 [] (oGuard g034 false s050 (oGen (.un .not (.t 39)) 23 s050))) <|
      dSeq (dLook 0 [] (oP (vPick g034 (kc (.bool true)) g050) s051)) <|
      dNop)
      (ckNop) []) <|
     cCond g051
      (cSeq (cReg 1 (
       oMv (kc (.bool false)) s004)) <|
      cExit 0)
      (cSkip))) <|
    cReg 3 (
     oSeq (oMv g005 s017) <|
     oSeq (oP (vAdd g017 (kc (.int .i64 1))) s020) <|
     oMv g020 s005)))) <|
  cSeq (cReg 1 (
   oMv (kc (.bool true)) s004)) <|
  cExit 0⟩
end Go.Proofs.YtihcmbhankddkacGreat.Ev
