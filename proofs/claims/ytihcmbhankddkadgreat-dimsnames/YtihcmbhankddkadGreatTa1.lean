/-
  The code of the law's functions, printed by program off the translation.
-/
import Derived.Test.YtihcmbhankddkadGreatEvSlots
namespace Go.Proofs.YtihcmbhankddkadGreat.Ev
open Go
set_option maxRecDepth 1000000
set_option linter.all false
noncomputable def ffn94 : FFn := ⟨2, 14, [],
  cSeq (cReg 3 (
   oSeq (oMv g000 s005) <|
   oSeq (oP (vLen g005) s006) <|
   oMv g006 s004)) <|
  cReg 7 (
   oSeq (oMv g000 s007) <|
   oSeq (oMv g004 s010) <|
   oSeq (oMv g004 s011) <|
   oSeq (oGen (.conv .u64 (.t 9)) 3 s012) <|
   oSeq (oCallF 54 (fun T => [g012 T]) s013) <|
   oSeq (oMv g001 s014) <|
   oCallF 120 (fun T => [g007 T, (.int .i64 0), g010 T, g013 T, g014 T]) s015)⟩
noncomputable def ffn54 : FFn := ⟨1, 8, [(2, none)],
  cSeq (cReg 1 (
   oMv (kc (.int .i64 0)) s002)) <|
  cSeq (cCond (kc (.bool false))
   (cSeq (cReg 4 (
    oSeq (oMv g000 s003) <|
    oSeq (oGen (.conv .u32 (.t 3)) 1 s004) <|
    oSeq (oCallF 82 (fun T => [g004 T]) s005) <|
    oMv g005 s002)) <|
   cExit 0)
   (cSkip)) <|
  cSeq (cReg 3 (
   oSeq (oMv g000 s006) <|
   oSeq (oCallF 83 (fun T => [g006 T]) s007) <|
   oMv g007 s002)) <|
  cExit 0⟩
noncomputable def ffn120 : FFn := ⟨5, 148, [],
  cSeq (cReg 1 (
   oMv (kc (.bool true)) s012)) <|
  cSeq (cReg 1 (
   oMv (kc (.bool true)) s013)) <|
  cBlock 1 (cLoop 1000000 (cBlock 3 (cSeq (cReg 4 (
      oSeq (oMv g002 s025) <|
      oSeq (oMv g001 s026) <|
      oSeq (oP (vSub g025 g026) s027) <|
      oMv g027 s014)) <|
     cSeq (cSeq (cReg 2 (
      oSeq (oMv g014 s030) <|
      oP (vLeq g030 (kc (.int .i64 12))) s031)) <|
     cCond g031
      (cSeq (cReg 5 (
       oSeq (oMv g000 s032) <|
       oSeq (oMv g001 s033) <|
       oSeq (oMv g002 s034) <|
       oSeq (oMv g004 s035) <|
       oCallF 143 (fun T => [g032 T, g033 T, g034 T, g035 T]) s036)) <|
      cExit 0)
      (cSkip)) <|
     cSeq (cSeq (cReg 2 (
      oSeq (oMv g003 s037) <|
      oP (vEql g037 (kc (.int .i64 0))) s040)) <|
     cCond g040
      (cSeq (cReg 5 (
       oSeq (oMv g000 s041) <|
       oSeq (oMv g001 s042) <|
       oSeq (oMv g002 s043) <|
       oSeq (oMv g004 s044) <|
       oCallF 144 (fun T => [g041 T, g042 T, g043 T, g044 T]) s045)) <|
      cExit 0)
      (cSkip)) <|
     cSeq (cSeq (cReg 2 (
      oSeq (oMv g012 s046) <|
      oGen (.un .not (.t 38)) 1 s047)) <|
     cCond g047
      (cSeq (cReg 5 (
       oSeq (oMv g000 s050) <|
       oSeq (oMv g001 s051) <|
       oSeq (oMv g002 s052) <|
       oSeq (oMv g004 s053) <|
       oCallF 145 (fun T => [g050 T, g051 T, g052 T, g053 T]) s054)) <|
      cReg 3 (
       oSeq (oMv g003 s055) <|
       oSeq (oP (vSub g055 (kc (.int .i64 1))) s056) <|
       oMv g056 s003))
      (cSkip)) <|
     cSeq (cReg 10 (
      oSeq (oMv g000 s060) <|
      oSeq (oMv g001 s061) <|
      oSeq (oMv g002 s062) <|
      oSeq (oMv g004 s063) <|
      oSeq (oCallF 146 (fun T => [g060 T, g061 T, g062 T, g063 T]) s064) <|
      oSeq (oMv g064 s057) <|
      oSeq (oP (vExt 0 g057) s065) <|
      oSeq (oP (vExt 1 g057) s066) <|
      oSeq (oMv g065 s015) <|
      oMv g066 s016)) <|
     cSeq (cSeq (cReg 2 (
      oSeq (oMv g016 s067) <|
      oP (vEql g067 (kc (.int .i64 2))) s070)) <|
     cCond g070
      (cSeq (cReg 5 (
       oSeq (oMv g000 s071) <|
       oSeq (oMv g001 s072) <|
       oSeq (oMv g002 s073) <|
       oSeq (oMv g004 s074) <|
       oCallF 147 (fun T => [g071 T, g072 T, g073 T, g074 T]) s075)) <|
      cSeq (cReg 7 (
       oSeq (oMv g002 s076) <|
       oSeq (oP (vSub g076 (kc (.int .i64 1))) s077) <|
       oSeq (oMv g015 s100) <|
       oSeq (oMv g001 s101) <|
       oSeq (oP (vSub g100 g101) s102) <|
       oSeq (oP (vSub g077 g102) s103) <|
       oMv g103 s015)) <|
      cReg 1 (
       oMv (kc (.int .i64 1)) s016))
      (cSkip)) <|
     cSeq (cSeq (cReg 8 (
      oSeq (oMv g012 s104) <|
      oSeq (oMv g104 s105) <|
      oSeq (oGuard g105 true s106 (oMv g013 s106)) <|
      oSeq (oP (vPick g105 g106 (kc (.bool false))) s107) <|
      oSeq (oMv g107 s110) <|
      oSeq (oGuard g110 true s111 (oMv g016 s111)) <|
      oSeq (oGuard g110 true s112 (oP (vEql g111 (kc (.int .i64 1))) s112)) <|
      oP (vPick g110 g112 (kc (.bool false))) s113)) <|
     cCond g113
      (cSeq (cReg 5 (
       oSeq (oMv g000 s114) <|
       oSeq (oMv g001 s115) <|
       oSeq (oMv g002 s116) <|
       oSeq (oMv g004 s117) <|
       oCallF 148 (fun T => [g114 T, g115 T, g116 T, g117 T]) s120)) <|
      cCond g120
       (cExit 0)
       (cSkip))
      (cSkip)) <|
     cSeq (cSeq (cDrw 17 (
      dSeq (dLook 0 [] (oMv g001 s121)) <|
      dSeq (dLook 0 [] (oP (vGtr g121 (kc (.int .i64 0))) s122)) <|
      dSeq (dLook 0 [] (oMv g122 s123)) <|
      dSeq (dLook 0 [] (oGuard g123 true s124 (oMv g004 s124))) <|
      dSeq (dLook 0 [] (oGuard g123 true s125 (oMv g000 s125))) <|
      dSeq (dLook 0 [] (oGuard g123 true s126 (oMv g001 s126))) <|
      dSeq (dLook 0 [] (oGuard g123 true s127 (oP (vSub g126 (kc (.int .i64 1))) s127))) <|
      dSeq (dLook 0 [] (oGuard g123 true s130 (oP (vIdx 1 g125 g127) s130))) <|
      dSeq (dLook 0 [] (oGuard g123 true s131 (oLoad g130 s131))) <|
      dSeq (dLook 0 [] (oGuard g123 true s132 (oMv g000 s132))) <|
      dSeq (dLook 0 [] (oGuard g123 true s133 (oMv g015 s133))) <|
      dSeq (dLook 0 [] (oGuard g123 true s134 (oP (vIdx 1 g132 g133) s134))) <|
      dSeq (dLook 0 [] (oGuard g123 true s135 (oLoad g134 s135))) <|
      dSeq (dAct 0 [] (oGuard g123 true s136 (oCall g124 (fun T => [g131 T, g135 T]) s136))) <|
      dSeq (dLook 0 [] (oGuard g123 true s137 (oP (vLss g136 (kc (.int .i64 0))) s137))) <|
      dSeq (dLook 0 [] (oGuard g123 true s140 (oGen (.un .not (.t 95)) 15 s140))) <|
      dSeq (dLook 0 [] (oP (vPick g123 g140 (kc (.bool false))) s141)) <|
      dNop)
      (ckNop) []) <|
     cCond g141
      (cSeq (cReg 7 (
       oSeq (oMv g000 s142) <|
       oSeq (oMv g001 s143) <|
       oSeq (oMv g002 s144) <|
       oSeq (oMv g015 s145) <|
       oSeq (oMv g004 s146) <|
       oSeq (oCallF 149 (fun T => [g142 T, g143 T, g144 T, g145 T, g146 T]) s147) <|
       oMv g147 s017)) <|
      cSeq (cReg 2 (
       oSeq (oMv g017 s150) <|
       oMv g150 s001)) <|
      cExit 3)
      (cSkip)) <|
     cSeq (cReg 11 (
      oSeq (oMv g000 s152) <|
      oSeq (oMv g001 s153) <|
      oSeq (oMv g002 s154) <|
      oSeq (oMv g015 s155) <|
      oSeq (oMv g004 s156) <|
      oSeq (oCallF 150 (fun T => [g152 T, g153 T, g154 T, g155 T, g156 T]) s157) <|
      oSeq (oMv g157 s151) <|
      oSeq (oP (vExt 0 g151) s160) <|
      oSeq (oP (vExt 1 g151) s161) <|
      oSeq (oMv g160 s020) <|
      oMv g161 s021)) <|
     cSeq (cReg 2 (
      oSeq (oMv g021 s162) <|
      oMv g162 s013)) <|
     cSeq (cReg 8 (
      oSeq (oMv g020 s163) <|
      oSeq (oMv g001 s164) <|
      oSeq (oP (vSub g163 g164) s165) <|
      oSeq (oMv g002 s166) <|
      oSeq (oMv g020 s167) <|
      oSeq (oP (vSub g166 g167) s170) <|
      oSeq (oMv g165 s022) <|
      oMv g170 s023)) <|
     cSeq (cReg 3 (
      oSeq (oMv g014 s171) <|
      oSeq (oGen (.bin .quo .int (.t 121) (.c (.int .i64 8))) 1 s172) <|
      oMv g172 s024)) <|
     cSeq (cReg 3 (
      oSeq (oMv g022 s173) <|
      oSeq (oMv g023 s174) <|
      oP (vLss g173 g174) s175)) <|
     cCond g175
      (cSeq (cReg 4 (
       oSeq (oMv g022 s176) <|
       oSeq (oMv g024 s177) <|
       oSeq (oP (vGeq g176 g177) s200) <|
       oMv g200 s012)) <|
      cSeq (cReg 6 (
       oSeq (oMv g000 s201) <|
       oSeq (oMv g001 s202) <|
       oSeq (oMv g020 s203) <|
       oSeq (oMv g003 s204) <|
       oSeq (oMv g004 s205) <|
       oCallF 120 (fun T => [g201 T, g202 T, g203 T, g204 T, g205 T]) s206)) <|
      cReg 3 (
       oSeq (oMv g020 s207) <|
       oSeq (oP (vAdd g207 (kc (.int .i64 1))) s210) <|
       oMv g210 s001))
      (cSeq (cReg 4 (
       oSeq (oMv g023 s211) <|
       oSeq (oMv g024 s212) <|
       oSeq (oP (vGeq g211 g212) s213) <|
       oMv g213 s012)) <|
      cSeq (cReg 7 (
       oSeq (oMv g000 s214) <|
       oSeq (oMv g020 s215) <|
       oSeq (oP (vAdd g215 (kc (.int .i64 1))) s216) <|
       oSeq (oMv g002 s217) <|
       oSeq (oMv g003 s220) <|
       oSeq (oMv g004 s221) <|
       oCallF 120 (fun T => [g214 T, g216 T, g217 T, g220 T, g221 T]) s222)) <|
      cReg 2 (
       oSeq (oMv g020 s223) <|
       oMv g223 s002)))))⟩
noncomputable def ffn143 : FFn := ⟨4, 53, [],
  cSeq (cReg 3 (
   oSeq (oMv g001 s012) <|
   oSeq (oP (vAdd g012 (kc (.int .i64 1))) s013) <|
   oMv g013 s010)) <|
  cBlock 1 (cLoop 1000000 (cSeq (cSeq (cReg 3 (
     oSeq (oMv g010 s014) <|
     oSeq (oMv g002 s015) <|
     oP (vLss g014 g015) s016)) <|
    cCond g016
     (cSkip)
     (cExit 1)) <|
    cSeq (cBlock 3 (cSeq (cReg 2 (
      oSeq (oMv g010 s021) <|
      oMv g021 s011)) <|
     cBlock 5 (cLoop 1000000 (cSeq (cSeq (cDrw 17 (
        dSeq (dLook 0 [] (oMv g011 s022)) <|
        dSeq (dLook 0 [] (oMv g001 s023)) <|
        dSeq (dLook 0 [] (oP (vGtr g022 g023) s024)) <|
        dSeq (dLook 0 [] (oMv g024 s025)) <|
        dSeq (dLook 0 [] (oGuard g025 true s026 (oMv g003 s026))) <|
        dSeq (dLook 0 [] (oGuard g025 true s027 (oMv g000 s027))) <|
        dSeq (dLook 0 [] (oGuard g025 true s030 (oMv g011 s030))) <|
        dSeq (dLook 0 [] (oGuard g025 true s031 (oP (vIdx 1 g027 g030) s031))) <|
        dSeq (dLook 0 [] (oGuard g025 true s032 (oLoad g031 s032))) <|
        dSeq (dLook 0 [] (oGuard g025 true s033 (oMv g000 s033))) <|
        dSeq (dLook 0 [] (oGuard g025 true s034 (oMv g011 s034))) <|
        dSeq (dLook 0 [] (oGuard g025 true s035 (oP (vSub g034 (kc (.int .i64 1))) s035))) <|
        dSeq (dLook 0 [] (oGuard g025 true s036 (oP (vIdx 1 g033 g035) s036))) <|
        dSeq (dLook 0 [] (oGuard g025 true s037 (oLoad g036 s037))) <|
        dSeq (dAct 0 [] (oGuard g025 true s040 (oCall g026 (fun T => [g032 T, g037 T]) s040))) <|
        dSeq (dLook 0 [] (oGuard g025 true s041 (oP (vLss g040 (kc (.int .i64 0))) s041))) <|
        dSeq (dLook 0 [] (oP (vPick g025 g041 (kc (.bool false))) s042)) <|
        dNop)
        (ckNop) []) <|
       cCond g042
        (cSkip)
        (cExit 5)) <|
       cSeq (cBlock 7 (cDrw 18 (
         dSeq (dLook 0 [] (oMv g000 s045)) <|
         dSeq (dLook 0 [] (oMv g011 s046)) <|
         dSeq (dLook 0 [] (oMv g000 s047)) <|
         dSeq (dLook 0 [] (oMv g011 s050)) <|
         dSeq (dLook 0 [] (oP (vSub g050 (kc (.int .i64 1))) s051)) <|
         dSeq (dLook 0 [] (oMv g000 s052)) <|
         dSeq (dLook 0 [] (oMv g011 s053)) <|
         dSeq (dLook 0 [] (oP (vSub g053 (kc (.int .i64 1))) s054)) <|
         dSeq (dLook 0 [] (oP (vIdx 1 g052 g054) s055)) <|
         dSeq (dLook 0 [] (oLoad g055 s056)) <|
         dSeq (dLook 0 [] (oMv g000 s057)) <|
         dSeq (dLook 0 [] (oMv g011 s060)) <|
         dSeq (dLook 0 [] (oP (vIdx 1 g057 g060) s061)) <|
         dSeq (dLook 0 [] (oLoad g061 s062)) <|
         dSeq (dLook 0 [] (oP (vIdx 1 g045 g046) s063)) <|
         dSeq (dAct 0 [] (oStore g063 g056 noPut)) <|
         dSeq (dLook 0 [] (oP (vIdx 1 g047 g051) s064)) <|
         dSeq (dAct 0 [] (oStore g064 g062 noPut)) <|
         dNop)
         (ckNop) [])) <|
       cReg 3 (
        oSeq (oMv g011 s043) <|
        oSeq (oP (vSub g043 (kc (.int .i64 1))) s044) <|
        oMv g044 s011))))) <|
    cReg 3 (
     oSeq (oMv g010 s017) <|
     oSeq (oP (vAdd g017 (kc (.int .i64 1))) s020) <|
     oMv g020 s010)))⟩
noncomputable def ffn95 : FFn := ⟨2, 14, [(4, none)],
  cSeq (cReg 1 (
   oMv (kc (.int .i64 0)) s004)) <|
  cSeq (cReg 8 (
   oSeq (oMv g000 s010) <|
   oSeq (oMv g001 s011) <|
   oSeq (oCallF 96 (fun T => [g010 T, g011 T]) s012) <|
   oSeq (oMv g012 s007) <|
   oSeq (oP (vExt 0 g007) s013) <|
   oSeq (oP (vExt 1 g007) s014) <|
   oSeq (oMv g013 s005) <|
   oMv g014 s006)) <|
  cSeq (cReg 2 (
   oSeq (oMv g005 s015) <|
   oMv g015 s004)) <|
  cExit 0⟩
noncomputable def ffn96 : FFn := ⟨2, 17, [(4, none), (5, none)],
  cSeq (cReg 2 (
   oSeq (oMv (kc (.int .i64 0)) s004) <|
   oMv (kc (.int .i64 0)) s005)) <|
  cSeq (cSeq (cReg 5 (
   oSeq (oMv g000 s007) <|
   oSeq (oMv g001 s010) <|
   oSeq (oBuildSlice 37 1 [.nilSl, .nilSl] 2 [((0, 1), g007), ((1, 1), g010)] 2 s011) <|
   oSeq (oCallF 121 (fun T => [g011 T]) s012) <|
   oMv g012 s006)) <|
  cSeq (cReg 2 (
   oSeq (oMv g006 s013) <|
   oP (vNeq g013 (kc (.int .i64 0))) s014)) <|
  cCond g014
   (cSeq (cReg 3 (
    oSeq (oMv g006 s015) <|
    oSeq (oMv (kc (.int .i64 0)) s004) <|
    oMv g015 s005)) <|
   cExit 0)
   (cSkip)) <|
  cSeq (cReg 5 (
   oSeq (oMv g000 s016) <|
   oSeq (oMv g001 s017) <|
   oSeq (oCallF 122 (fun T => [g016 T, g017 T, (.fn (.func 123) [] [])]) s020) <|
   oSeq (oMv g020 s004) <|
   oMv (kc (.int .i64 0)) s005)) <|
  cExit 0⟩
noncomputable def ffn122 : FFn := ⟨3, 39, [(6, none)],
  cSeq (cReg 1 (
   oMv (kc (.int .i64 0)) s006)) <|
  cSeq (cSeq (cReg 3 (
   oSeq (oMv g000 s013) <|
   oSeq (oP (vLen g013) s014) <|
   oMv (kc (.int .i64 0)) s015)) <|
  cBlock 1 (cLoop 1000000 (cSeq (cReg 1 (
     oP (vLss g015 g014) s016)) <|
    cSeq (cCond g016
     (cSkip)
     (cExit 1)) <|
    cSeq (cBlock 3 (cSeq (cReg 6 (
      oSeq (oMv g015 s017) <|
      oSeq (oP (vIdx 2 g013 g015) s020) <|
      oSeq (oLoadN 2 g020 s021) <|
      oSeq (oAlloc 50 [(.bool false), .nilSl] 3 s010) <|
      oSeq (oMv g017 s007) <|
      oStoreN 2 g010 g021 noPut)) <|
     cSeq (cSeq (cReg 4 (
      oSeq (oMv g007 s022) <|
      oSeq (oMv g001 s023) <|
      oSeq (oP (vLen g023) s024) <|
      oP (vGeq g022 g024) s025)) <|
     cCond g025
      (cSeq (cReg 1 (
       oMv (kc (.int .i64 1)) s006)) <|
      cExit 0)
      (cSkip)) <|
     cSeq (cReg 6 (
      oSeq (oMv g001 s026) <|
      oSeq (oMv g007 s027) <|
      oSeq (oP (vIdx 2 g026 g027) s030) <|
      oSeq (oLoadN 2 g030 s031) <|
      oSeq (oAlloc 50 [(.bool false), .nilSl] 4 s011) <|
      oStoreN 2 g011 g031 noPut)) <|
     cSeq (cReg 5 (
      oSeq (oMv g002 s032) <|
      oSeq (oLoadN 2 g010 s033) <|
      oSeq (oLoadN 2 g011 s034) <|
      oSeq (oCall g032 (fun T => [g033 T, g034 T]) s035) <|
      oMv g035 s012)) <|
     cSeq (cReg 2 (
      oSeq (oMv g012 s036) <|
      oP (vNeq g036 (kc (.int .i64 0))) s037)) <|
     cCond g037
      (cSeq (cReg 2 (
       oSeq (oMv g012 s040) <|
       oMv g040 s006)) <|
      cExit 0)
      (cSkip))) <|
    cReg 2 (
     oSeq (oP (vAdd g015 (kc (.int .i64 1))) s041) <|
     oMv g041 s015)))) <|
  cSeq (cSeq (cReg 5 (
   oSeq (oMv g000 s042) <|
   oSeq (oP (vLen g042) s043) <|
   oSeq (oMv g001 s044) <|
   oSeq (oP (vLen g044) s045) <|
   oP (vLss g043 g045) s046)) <|
  cCond g046
   (cSeq (cReg 1 (
    oMv (kc (.int .i64 (-1))) s006)) <|
   cExit 0)
   (cSkip)) <|
  cSeq (cReg 1 (
   oMv (kc (.int .i64 0)) s006)) <|
  cExit 0⟩
noncomputable def ffn123 : FFn := ⟨2, 14, [(4, none)],
  cSeq (cReg 3 (
   oSeq (oBox 50 g000 0 s002) <|
   oSeq (oBox 50 g001 1 s003) <|
   oMv (kc (.int .i64 0)) s004)) <|
  cSeq (cReg 8 (
   oSeq (oLoadN 2 g002 s010) <|
   oSeq (oLoadN 2 g003 s011) <|
   oSeq (oCallF 124 (fun T => [g010 T, g011 T]) s012) <|
   oSeq (oMv g012 s007) <|
   oSeq (oP (vExt 0 g007) s013) <|
   oSeq (oP (vExt 1 g007) s014) <|
   oSeq (oMv g013 s005) <|
   oMv g014 s006)) <|
  cSeq (cReg 2 (
   oSeq (oMv g005 s015) <|
   oMv g015 s004)) <|
  cExit 0⟩
noncomputable def ffn124 : FFn := ⟨2, 19, [(4, none), (5, none)],
  cSeq (cReg 4 (
   oSeq (oBox 50 g000 0 s002) <|
   oSeq (oBox 50 g001 1 s003) <|
   oSeq (oMv (kc (.int .i64 0)) s004) <|
   oMv (kc (.int .i64 0)) s005)) <|
  cSeq (cReg 9 (
   oSeq (oLoadN 2 g002 s011) <|
   oSeq (oLoadN 2 g003 s012) <|
   oSeq (oCallF 151 (fun T => [g011 T, g012 T]) s013) <|
   oSeq (oMv g013 s010) <|
   oSeq (oP (vExt 0 g010) s014) <|
   oSeq (oP (vExt 1 g010) s015) <|
   oSeq (oAlloc 50 [(.bool false), .nilSl] 6 s006) <|
   oSeq (oStoreN 2 g006 g014 noPut) <|
   oMv g015 s007)) <|
  cSeq (cSeq (cReg 2 (
   oSeq (oMv g007 s016) <|
   oP (vNeq g016 (kc (.int .i64 0))) s017)) <|
  cCond g017
   (cSeq (cReg 3 (
    oSeq (oMv g007 s020) <|
    oSeq (oMv (kc (.int .i64 0)) s004) <|
    oMv g020 s005)) <|
   cExit 0)
   (cSkip)) <|
  cSeq (cReg 4 (
   oSeq (oLoadN 2 g006 s021) <|
   oSeq (oCallF 125 (fun T => [g021 T]) s022) <|
   oSeq (oMv g022 s004) <|
   oMv (kc (.int .i64 0)) s005)) <|
  cExit 0⟩
noncomputable def ffn151 : FFn := ⟨2, 23, [(4, (some (some 2))), (5, none)],
  cSeq (cReg 4 (
   oSeq (oBox 50 g000 0 s002) <|
   oSeq (oBox 50 g001 1 s003) <|
   oSeq (oAlloc 50 [(.bool false), .nilSl] 2 s004) <|
   oMv (kc (.int .i64 0)) s005)) <|
  cSeq (cSeq (cReg 5 (
   oSeq (oLoadN 2 g002 s007) <|
   oSeq (oLoadN 2 g003 s010) <|
   oSeq (oBuildSlice 50 2 [(.bool false), .nilSl, (.bool false), .nilSl] 2 [((0, 2), g007), ((2, 2), g010)] 2 s011) <|
   oSeq (oCallF 169 (fun T => [g011 T]) s012) <|
   oMv g012 s006)) <|
  cSeq (cReg 2 (
   oSeq (oMv g006 s013) <|
   oP (vNeq g013 (kc (.int .i64 0))) s014)) <|
  cCond g014
   (cSeq (cReg 4 (
    oSeq (oP (vBuild [(.bool false), .nilSl] []) s015) <|
    oSeq (oMv g006 s016) <|
    oSeq (oStoreN 2 g004 g015 noPut) <|
    oMv g016 s005)) <|
   cExit 0)
   (cSkip)) <|
  cSeq (cDrw 10 (
   dSeq (dLook 0 [] (oLoadN 2 g002 s017)) <|
   dSeq (dLook 0 [] (oP (vFA 0 g003) s020)) <|
   dSeq (dLook 0 [] (oLoad g020 s021)) <|
   dSeq (dLook 0 [] (oGen (.un .not (.t 17)) 3 s022)) <|
   dSeq (dLook 0 [] (oP (vFA 1 g003) s023)) <|
   dSeq (dLook 0 [] (oLoad g023 s024)) <|
   dSeq (dAct 0 [] (oCallF 44 (fun T => [g022 T, g024 T]) s025)) <|
   dSeq (dAct 0 [] (oCallF 170 (fun T => [g017 T, g025 T]) s026)) <|
   dSeq (dAct 0 [] (oStoreN 2 g004 g026 noPut)) <|
   dSeq (dLook 0 [] (oMv (kc (.int .i64 0)) s005)) <|
   dNop)
   (ckSeq (ckOne g017 2 [] (oLoadN 2 g002 s017)) <|
  ckNop) []) <|
  cExit 0⟩
noncomputable def ffn61 : FFn := ⟨2, 9, [(4, none)],
  cSeq (cReg 1 (
   oMv (kc (.bool false)) s004)) <|
  cSeq (cReg 5 (
   oSeq (oMv g000 s005) <|
   oSeq (oMv g001 s006) <|
   oSeq (oCallF 97 (fun T => [g005 T, g006 T]) s007) <|
   oSeq (oP (vGeq g007 (kc (.int .i64 0))) s010) <|
   oMv g010 s004)) <|
  cExit 0⟩
noncomputable def ffn62 : FFn := ⟨1, 6, [(2, none)],
  cSeq (cReg 1 (
   oMv (kc (.bool false)) s002)) <|
  cSeq (cReg 4 (
   oSeq (oMv g000 s003) <|
   oSeq (oCallF 63 (fun T => [g003 T]) s004) <|
   oSeq (oP (vGtr g004 (kc (.int .i64 0))) s005) <|
   oMv g005 s002)) <|
  cExit 0⟩
noncomputable def ffn63 : FFn := ⟨1, 16, [(2, none)],
  cSeq (cReg 1 (
   oMv (kc (.int .i64 0)) s002)) <|
  cSeq (cSeq (cReg 3 (
   oSeq (oMv g000 s005) <|
   oSeq (oP (vLen g005) s006) <|
   oP (vEql g006 (kc (.int .i64 0))) s007)) <|
  cCond g007
   (cSeq (cReg 1 (
    oMv (kc (.int .i64 0)) s002)) <|
   cExit 0)
   (cSkip)) <|
  cSeq (cReg 9 (
   oSeq (oMv g000 s011) <|
   oSeq (oP (vIdx 2 g011 (kc (.int .i64 0))) s012) <|
   oSeq (oLoadN 2 g012 s013) <|
   oSeq (oCallF 98 (fun T => [g013 T]) s014) <|
   oSeq (oMv g014 s010) <|
   oSeq (oP (vExt 0 g010) s015) <|
   oSeq (oP (vExt 1 g010) s016) <|
   oSeq (oMv g015 s003) <|
   oMv g016 s004)) <|
  cSeq (cReg 2 (
   oSeq (oMv g003 s017) <|
   oMv g017 s002)) <|
  cExit 0⟩
noncomputable def ffn37 : FFn := ⟨2, 22, [(4, (some (some 3))), (5, none)],
  cSeq (cReg 2 (
   oSeq (oAlloc 26 [(.int .i64 0), .nilSl, .nilSl] 0 s004) <|
   oMv (kc (.int .i64 0)) s005)) <|
  cSeq (cSeq (cReg 3 (
   oSeq (oMv g001 s007) <|
   oSeq (oP (vLen g007) s010) <|
   oP (vGeq g010 (kc (.int .i64 1024))) s011)) <|
  cCond g011
   (cSeq (cReg 3 (
    oSeq (oP (vBuild [(.int .i64 0), .nilSl, .nilSl] []) s012) <|
    oSeq (oStoreN 3 g004 g012 noPut) <|
    oMv (kc (.int .i64 4)) s005)) <|
   cExit 0)
   (cSkip)) <|
  cSeq (cReg 4 (
   oSeq (oMv g000 s013) <|
   oSeq (oMv g001 s014) <|
   oSeq (oCallF 42 (fun T => [g013 T, g014 T]) s015) <|
   oMv g015 s006)) <|
  cSeq (cSeq (cReg 3 (
   oSeq (oMv g006 s016) <|
   oSeq (oP (vLen g016) s017) <|
   oP (vGeq g017 (kc (.int .i64 1024))) s020)) <|
  cCond g020
   (cSeq (cReg 3 (
    oSeq (oP (vBuild [(.int .i64 0), .nilSl, .nilSl] []) s021) <|
    oSeq (oStoreN 3 g004 g021 noPut) <|
    oMv (kc (.int .i64 4)) s005)) <|
   cExit 0)
   (cSkip)) <|
  cSeq (cReg 6 (
   oSeq (oMv g000 s022) <|
   oSeq (oMv g006 s023) <|
   oSeq (oMv g001 s024) <|
   oSeq (oP (vBuild [(.int .i64 0), .nilSl, .nilSl] [((0, 1), g022), ((1, 1), g023), ((2, 1), g024)]) s025) <|
   oSeq (oStoreN 3 g004 g025 noPut) <|
   oMv (kc (.int .i64 0)) s005)) <|
  cExit 0⟩
noncomputable def ffn42 : FFn := ⟨2, 84, [(4, none)],
  cSeq (cReg 1 (
   oMv (kc .nilSl) s004)) <|
  cSeq (cReg 2 (
   oSeq (oMv (kc .nilSl) s005) <|
   oMv (kc .nilSl) s006)) <|
  cSeq (cReg 1 (
   oMv (kc (.bool false)) s007)) <|
  cSeq (cSeq (cReg 3 (
   oSeq (oMv g001 s021) <|
   oSeq (oP (vLen g021) s022) <|
   oMv (kc (.int .i64 0)) s023)) <|
  cBlock 1 (cLoop 1000000 (cSeq (cReg 1 (
     oP (vLss g023 g022) s024)) <|
    cSeq (cCond g024
     (cSkip)
     (cExit 1)) <|
    cSeq (cBlock 3 (cSeq (cReg 4 (
      oSeq (oP (vIdx 2 g021 g023) s025) <|
      oSeq (oLoadN 2 g025 s026) <|
      oSeq (oAlloc 60 [(.int .u8 0), .nilSl] 2 s011) <|
      oStoreN 2 g011 g026 noPut)) <|
     cSeq (cReg 2 (
      oSeq (oP (vFA 0 g011) s027) <|
      oLoad g027 s030)) <|
     cBlock 5 (cSeq (cBlock 11 (cSeq (cBlock 9 (cSeq (cBlock 7 (cSeq (cSeq (cSeq (cReg 2 (
          oSeq (oP (vEql g030 (kc (.int .u8 1))) s032) <|
          oMv g032 s031)) <|
         cCond g031
          (cExit 7)
          (cSkip)) <|
         cSeq (cReg 2 (
          oSeq (oP (vEql g030 (kc (.int .u8 3))) s034) <|
          oMv g034 s033)) <|
         cCond g033
          (cExit 9)
          (cSkip)) <|
         cExit 11)) <|
        cSeq (cSeq (cReg 6 (
         oSeq (oMv g005 s035) <|
         oSeq (oP (vFA 1 g011) s036) <|
         oSeq (oLoad g036 s037) <|
         oSeq (oBuildSlice 37 1 [.nilSl] 1 [((0, 1), g037)] 3 s040) <|
         oSeq (oGen (.append 1 24 37 [.nilSl] (.t 29) (.t 32)) 4 s041) <|
         oMv g041 s005)) <|
        cExit 3) <|
        cExit 5)) <|
       cReg 1 (
        oMv (kc (.bool true)) s007))) <|
      cSeq (cReg 6 (
       oSeq (oMv g006 s042) <|
       oSeq (oP (vFA 1 g011) s043) <|
       oSeq (oLoad g043 s044) <|
       oSeq (oBuildSlice 37 1 [.nilSl] 1 [((0, 1), g044)] 3 s045) <|
       oSeq (oGen (.append 1 24 37 [.nilSl] (.t 34) (.t 37)) 4 s046) <|
       oMv g046 s006)) <|
      cExit 5))) <|
    cReg 2 (
     oSeq (oP (vAdd g023 (kc (.int .i64 1))) s047) <|
     oMv g047 s023)))) <|
  cSeq (cSeq (cReg 2 (
   oSeq (oMv g007 s050) <|
   oGen (.un .not (.t 40)) 1 s051)) <|
  cCond g051
   (cSeq (cReg 5 (
    oSeq (oMv g000 s052) <|
    oSeq (oCallF 59 (fun T => [g052 T, (.int .i64 (-1))]) s053) <|
    oSeq (oP (vBuild [.nilSl, (.bool false)] [((0, 1), g053)]) s054) <|
    oSeq (oBuildSlice 54 2 [.nilSl, (.bool false)] 1 [((0, 2), g054)] 3 s055) <|
    oMv g055 s004)) <|
   cExit 0)
   (cSkip)) <|
  cSeq (cReg 12 (
   oSeq (oMv g000 s057) <|
   oSeq (oP (vAdd g057 (kc (.int .i64 1))) s060) <|
   oSeq (oMv g005 s061) <|
   oSeq (oMv g006 s062) <|
   oSeq (oCallF 60 (fun T => [g060 T, g061 T, g062 T]) s063) <|
   oSeq (oMv g063 s056) <|
   oSeq (oP (vExt 0 g056) s064) <|
   oSeq (oP (vExt 1 g056) s065) <|
   oSeq (oP (vExt 2 g056) s066) <|
   oSeq (oMv g064 s012) <|
   oSeq (oMv g065 s013) <|
   oMv g066 s014)) <|
  cSeq (cSeq (cReg 3 (
   oSeq (oMv g012 s067) <|
   oSeq (oP (vLen g067) s070) <|
   oMv (kc (.int .i64 0)) s071)) <|
  cBlock 13 (cLoop 1000000 (cSeq (cReg 1 (
     oP (vLss g071 g070) s072)) <|
    cSeq (cCond g072
     (cSkip)
     (cExit 13)) <|
    cSeq (cBlock 15 (cSeq (cReg 3 (
      oSeq (oP (vIdx 1 g067 g071) s073) <|
      oSeq (oLoad g073 s074) <|
      oMv g074 s016)) <|
     cReg 6 (
      oSeq (oMv g004 s075) <|
      oSeq (oMv g016 s076) <|
      oSeq (oP (vBuild [.nilSl, (.bool false)] [((0, 1), g076), ((1, 1), (kc (.bool true)))]) s077) <|
      oSeq (oBuildSlice 54 2 [.nilSl, (.bool false)] 1 [((0, 2), g077)] 3 s100) <|
      oSeq (oGen (.append 2 32 54 [.nilSl, (.bool false)] (.t 61) (.t 64)) 4 s101) <|
      oMv g101 s004))) <|
    cReg 2 (
     oSeq (oP (vAdd g071 (kc (.int .i64 1))) s102) <|
     oMv g102 s071)))) <|
  cSeq (cSeq (cReg 3 (
   oSeq (oMv g013 s103) <|
   oSeq (oP (vLen g103) s104) <|
   oMv (kc (.int .i64 0)) s105)) <|
  cBlock 17 (cLoop 1000000 (cSeq (cReg 1 (
     oP (vLss g105 g104) s106)) <|
    cSeq (cCond g106
     (cSkip)
     (cExit 17)) <|
    cSeq (cBlock 19 (cSeq (cReg 3 (
      oSeq (oP (vIdx 1 g103 g105) s107) <|
      oSeq (oLoad g107 s110) <|
      oMv g110 s020)) <|
     cSeq (cReg 5 (
      oSeq (oMv g020 s111) <|
      oSeq (oMv g000 s112) <|
      oSeq (oCallF 59 (fun T => [g112 T, (.int .i64 1)]) s113) <|
      oSeq (oCallF 48 (fun T => [g111 T, g113 T]) s114) <|
      oGen (.un .not (.t 76)) 4 s115)) <|
     cCond g115
      (cReg 6 (
       oSeq (oMv g004 s116) <|
       oSeq (oMv g020 s117) <|
       oSeq (oP (vBuild [.nilSl, (.bool false)] [((0, 1), g117)]) s120) <|
       oSeq (oBuildSlice 54 2 [.nilSl, (.bool false)] 1 [((0, 2), g120)] 3 s121) <|
       oSeq (oGen (.append 2 32 54 [.nilSl, (.bool false)] (.t 78) (.t 81)) 4 s122) <|
       oMv g122 s004))
      (cSkip))) <|
    cReg 2 (
     oSeq (oP (vAdd g105 (kc (.int .i64 1))) s123) <|
     oMv g123 s105)))) <|
  cExit 0⟩
noncomputable def ffn48 : FFn := ⟨2, 8, [(4, none)],
  cSeq (cReg 1 (
   oMv (kc (.bool false)) s004)) <|
  cSeq (cReg 4 (
   oSeq (oMv g000 s005) <|
   oSeq (oMv g001 s006) <|
   oSeq (oCallF 71 (fun T => [g005 T, g006 T, (.fn (.func 72) [] [])]) s007) <|
   oMv g007 s004)) <|
  cExit 0⟩
noncomputable def ffn71 : FFn := ⟨3, 32, [(6, none)],
  cSeq (cReg 1 (
   oMv (kc (.bool false)) s006)) <|
  cSeq (cSeq (cReg 5 (
   oSeq (oMv g000 s012) <|
   oSeq (oP (vLen g012) s013) <|
   oSeq (oMv g001 s014) <|
   oSeq (oP (vLen g014) s015) <|
   oP (vNeq g013 g015) s016)) <|
  cCond g016
   (cSeq (cReg 1 (
    oMv (kc (.bool false)) s006)) <|
   cExit 0)
   (cSkip)) <|
  cSeq (cSeq (cReg 3 (
   oSeq (oMv g000 s017) <|
   oSeq (oP (vLen g017) s020) <|
   oMv (kc (.int .i64 0)) s021)) <|
  cBlock 1 (cLoop 1000000 (cSeq (cReg 1 (
     oP (vLss g021 g020) s022)) <|
    cSeq (cCond g022
     (cSkip)
     (cExit 1)) <|
    cSeq (cBlock 3 (cSeq (cReg 6 (
      oSeq (oMv g021 s023) <|
      oSeq (oP (vIdx 2 g017 g021) s024) <|
      oSeq (oLoadN 2 g024 s025) <|
      oSeq (oAlloc 50 [(.bool false), .nilSl] 3 s010) <|
      oSeq (oMv g023 s007) <|
      oStoreN 2 g010 g025 noPut)) <|
     cSeq (cReg 6 (
      oSeq (oMv g001 s026) <|
      oSeq (oMv g007 s027) <|
      oSeq (oP (vIdx 2 g026 g027) s030) <|
      oSeq (oLoadN 2 g030 s031) <|
      oSeq (oAlloc 50 [(.bool false), .nilSl] 4 s011) <|
      oStoreN 2 g011 g031 noPut)) <|
     cSeq (cReg 5 (
      oSeq (oMv g002 s032) <|
      oSeq (oLoadN 2 g010 s033) <|
      oSeq (oLoadN 2 g011 s034) <|
      oSeq (oCall g032 (fun T => [g033 T, g034 T]) s035) <|
      oGen (.un .not (.t 29)) 4 s036)) <|
     cCond g036
      (cSeq (cReg 1 (
       oMv (kc (.bool false)) s006)) <|
      cExit 0)
      (cSkip))) <|
    cReg 2 (
     oSeq (oP (vAdd g021 (kc (.int .i64 1))) s037) <|
     oMv g037 s021)))) <|
  cSeq (cReg 1 (
   oMv (kc (.bool true)) s006)) <|
  cExit 0⟩
noncomputable def ffn72 : FFn := ⟨2, 17, [(4, none)],
  cSeq (cReg 3 (
   oSeq (oBox 50 g000 0 s002) <|
   oSeq (oBox 50 g001 1 s003) <|
   oMv (kc (.bool false)) s004)) <|
  cSeq (cReg 13 (
   oSeq (oP (vFA 0 g002) s005) <|
   oSeq (oLoad g005 s006) <|
   oSeq (oP (vFA 0 g003) s007) <|
   oSeq (oLoad g007 s010) <|
   oSeq (oGen (.bin .eql .bool (.t 6) (.t 8)) 4 s011) <|
   oSeq (oMv g011 s012) <|
   oSeq (oGuard g012 true s013 (oP (vFA 1 g002) s013)) <|
   oSeq (oGuard g012 true s014 (oLoad g013 s014)) <|
   oSeq (oGuard g012 true s015 (oP (vFA 1 g003) s015)) <|
   oSeq (oGuard g012 true s016 (oLoad g015 s016)) <|
   oSeq (oGuard g012 true s017 (oCallF 102 (fun T => [g014 T, g016 T]) s017)) <|
   oSeq (oP (vPick g012 g017 (kc (.bool false))) s020) <|
   oMv g020 s004)) <|
  cExit 0⟩
noncomputable def ffn102 : FFn := ⟨2, 26, [(4, none)],
  cSeq (cReg 1 (
   oMv (kc (.bool false)) s004)) <|
  cSeq (cSeq (cReg 5 (
   oSeq (oMv g000 s006) <|
   oSeq (oP (vLen g006) s007) <|
   oSeq (oMv g001 s010) <|
   oSeq (oP (vLen g010) s011) <|
   oP (vNeq g007 g011) s012)) <|
  cCond g012
   (cSeq (cReg 1 (
    oMv (kc (.bool false)) s004)) <|
   cExit 0)
   (cSkip)) <|
  cSeq (cSeq (cReg 3 (
   oSeq (oMv g000 s013) <|
   oSeq (oP (vLen g013) s014) <|
   oMv (kc (.int .i64 0)) s015)) <|
  cBlock 1 (cLoop 1000000 (cSeq (cReg 1 (
     oP (vLss g015 g014) s016)) <|
    cSeq (cCond g016
     (cSkip)
     (cExit 1)) <|
    cSeq (cBlock 3 (cSeq (cReg 2 (
      oSeq (oMv g015 s017) <|
      oMv g017 s005)) <|
     cSeq (cDrw 9 (
      dSeq (dLook 0 [] (oMv g000 s020)) <|
      dSeq (dLook 0 [] (oMv g005 s021)) <|
      dSeq (dLook 0 [] (oP (vIdx 1 g020 g021) s022)) <|
      dSeq (dLook 0 [] (oLoad g022 s023)) <|
      dSeq (dLook 0 [] (oMv g001 s024)) <|
      dSeq (dLook 0 [] (oMv g005 s025)) <|
      dSeq (dLook 0 [] (oP (vIdx 1 g024 g025) s026)) <|
      dSeq (dLook 0 [] (oLoad g026 s027)) <|
      dSeq (dLook 0 [] (oP (vNeq g023 g027) s030)) <|
      dNop)
      (ckNop) []) <|
     cCond g030
      (cSeq (cReg 1 (
       oMv (kc (.bool false)) s004)) <|
      cExit 0)
      (cSkip))) <|
    cReg 2 (
     oSeq (oP (vAdd g015 (kc (.int .i64 1))) s031) <|
     oMv g031 s015)))) <|
  cSeq (cReg 1 (
   oMv (kc (.bool true)) s004)) <|
  cExit 0⟩
noncomputable def ffn7 : FFn := ⟨2, 34, [(4, (some (some 3))), (5, none)],
  cSeq (cReg 4 (
   oSeq (oBox 26 g000 0 s002) <|
   oSeq (oBox 3 g001 1 s003) <|
   oSeq (oAlloc 26 [(.int .i64 0), .nilSl, .nilSl] 2 s004) <|
   oMv (kc (.int .i64 0)) s005)) <|
  cSeq (cBlock 1 (cSeq (cReg 4 (
    oSeq (oLoadN 3 g002 s010) <|
    oSeq (oCallF 13 (fun T => [g010 T]) s011) <|
    oSeq (oP (vNeq g011 (kc (.int .i64 0))) s012) <|
    oMv g012 s007)) <|
   cCond g007
    (cSeq (cReg 3 (
     oSeq (oP (vBuild [(.int .i64 0), .nilSl, .nilSl] []) s013) <|
     oSeq (oStoreN 3 g004 g013 noPut) <|
     oMv (kc (.int .i64 8)) s005)) <|
    cExit 0)
    (cSeq (cReg 9 (
     oSeq (oLoad g003 s015) <|
     oSeq (oP (vLss g015 (kc (.int .i64 0))) s016) <|
     oSeq (oMv g016 s017) <|
     oSeq (oGuard g017 false s020 (oLoad g003 s020)) <|
     oSeq (oGuard g017 false s021 (oP (vFA 0 g002) s021)) <|
     oSeq (oGuard g017 false s022 (oLoad g021 s022)) <|
     oSeq (oGuard g017 false s023 (oP (vGeq g020 g022) s023)) <|
     oSeq (oP (vPick g017 (kc (.bool true)) g023) s024) <|
     oMv g024 s014)) <|
    cCond g014
     (cSeq (cReg 3 (
      oSeq (oP (vBuild [(.int .i64 0), .nilSl, .nilSl] []) s025) <|
      oSeq (oStoreN 3 g004 g025 noPut) <|
      oMv (kc (.int .i64 2)) s005)) <|
     cExit 0)
     (cSkip)))) <|
  cSeq (cReg 2 (
   oSeq (oGen (.mkfn (.func 20) [] [(.t 3)]) 0 s026) <|
   oMv g026 s006)) <|
  cSeq (cDrw 13 (
   dSeq (dLook 0 [] (oP (vFA 0 g002) s027)) <|
   dSeq (dLook 0 [] (oLoad g027 s030)) <|
   dSeq (dLook 0 [] (oP (vSub g030 (kc (.int .i64 1))) s031)) <|
   dSeq (dLook 0 [] (oP (vFA 2 g002) s032)) <|
   dSeq (dLook 0 [] (oLoad g032 s033)) <|
   dSeq (dLook 0 [] (oMv g006 s034)) <|
   dSeq (dLook 0 [] (oGen (.mkfn (.func 25) [(.t 28)] []) 6 s035)) <|
   dSeq (dAct 0 [] (oCallF 24 (fun T => [g033 T, g035 T]) s036)) <|
   dSeq (dAct 0 [] (oCallF 23 (fun T => [g031 T, g036 T]) s037)) <|
   dSeq (dLook 0 [] (oP (vExt 0 g037) s040)) <|
   dSeq (dLook 0 [] (oP (vExt 1 g037) s041)) <|
   dSeq (dAct 0 [] (oStoreN 3 g004 g040 noPut)) <|
   dSeq (dLook 0 [] (oMv g041 s005)) <|
   dNop)
   (ckSeq (ckOne g030 2 [] (oLoad g027 s030)) <|
  ckNop) []) <|
  cExit 0⟩
noncomputable def ffn13 : FFn := ⟨1, 45, [(2, none)],
  cSeq (cReg 2 (
   oSeq (oBox 26 g000 0 s001) <|
   oMv (kc (.int .i64 0)) s002)) <|
  cSeq (cSeq (cReg 4 (
   oSeq (oP (vFA 1 g001) s007) <|
   oSeq (oLoad g007 s010) <|
   oSeq (oP (vLen g010) s011) <|
   oP (vLeq g011 (kc (.int .i64 60))) s012)) <|
  cCond g012
   (cSeq (cReg 11 (
    oSeq (oP (vFA 0 g001) s014) <|
    oSeq (oLoad g014 s015) <|
    oSeq (oP (vFA 1 g001) s016) <|
    oSeq (oLoad g016 s017) <|
    oSeq (oCallF 17 (fun T => [g015 T, g017 T]) s020) <|
    oSeq (oMv g020 s013) <|
    oSeq (oP (vExt 0 g013) s021) <|
    oSeq (oP (vExt 1 g013) s022) <|
    oSeq (oAlloc 26 [(.int .i64 0), .nilSl, .nilSl] 8 s003) <|
    oSeq (oStoreN 3 g003 g021 noPut) <|
    oMv g022 s004)) <|
   cSeq (cReg 7 (
    oSeq (oMv g004 s023) <|
    oSeq (oP (vEql g023 (kc (.int .i64 0))) s024) <|
    oSeq (oMv g024 s025) <|
    oSeq (oGuard g025 true s026 (oLoadN 3 g001 s026)) <|
    oSeq (oGuard g025 true s027 (oLoadN 3 g003 s027)) <|
    oSeq (oGuard g025 true s030 (oCallF 30 (fun T => [g026 T, g027 T]) s030)) <|
    oP (vPick g025 g030 (kc (.bool false))) s031)) <|
   cCond g031
    (cSeq (cReg 1 (
     oMv (kc (.int .i64 0)) s002)) <|
    cExit 0)
    (cSkip))
   (cSkip)) <|
  cSeq (cSeq (cReg 4 (
   oSeq (oP (vFA 2 g001) s032) <|
   oSeq (oLoad g032 s033) <|
   oSeq (oP (vLen g033) s034) <|
   oP (vLeq g034 (kc (.int .i64 60))) s035)) <|
  cCond g035
   (cSeq (cReg 11 (
    oSeq (oP (vFA 0 g001) s037) <|
    oSeq (oLoad g037 s040) <|
    oSeq (oP (vFA 2 g001) s041) <|
    oSeq (oLoad g041 s042) <|
    oSeq (oCallF 23 (fun T => [g040 T, g042 T]) s043) <|
    oSeq (oMv g043 s036) <|
    oSeq (oP (vExt 0 g036) s044) <|
    oSeq (oP (vExt 1 g036) s045) <|
    oSeq (oAlloc 26 [(.int .i64 0), .nilSl, .nilSl] 8 s005) <|
    oSeq (oStoreN 3 g005 g044 noPut) <|
    oMv g045 s006)) <|
   cSeq (cReg 7 (
    oSeq (oMv g006 s046) <|
    oSeq (oP (vEql g046 (kc (.int .i64 0))) s047) <|
    oSeq (oMv g047 s050) <|
    oSeq (oGuard g050 true s051 (oLoadN 3 g001 s051)) <|
    oSeq (oGuard g050 true s052 (oLoadN 3 g005 s052)) <|
    oSeq (oGuard g050 true s053 (oCallF 30 (fun T => [g051 T, g052 T]) s053)) <|
    oP (vPick g050 g053 (kc (.bool false))) s054)) <|
   cCond g054
    (cSeq (cReg 1 (
     oMv (kc (.int .i64 0)) s002)) <|
    cExit 0)
    (cSkip))
   (cSkip)) <|
  cSeq (cReg 1 (
   oMv (kc (.int .i64 8)) s002)) <|
  cExit 0⟩
noncomputable def ffn30 : FFn := ⟨2, 28, [(4, none)],
  cSeq (cReg 3 (
   oSeq (oBox 26 g000 0 s002) <|
   oSeq (oBox 26 g001 1 s003) <|
   oMv (kc (.bool false)) s004)) <|
  cSeq (cReg 1 (
   oMv (kc (.fn (.func 47) [] [])) s005)) <|
  cSeq (cReg 1 (
   oMv (kc (.fn (.func 49) [] [])) s006)) <|
  cSeq (cReg 22 (
   oSeq (oP (vFA 0 g002) s007) <|
   oSeq (oLoad g007 s010) <|
   oSeq (oP (vFA 0 g003) s011) <|
   oSeq (oLoad g011 s012) <|
   oSeq (oP (vEql g010 g012) s013) <|
   oSeq (oMv g013 s014) <|
   oSeq (oGuard g014 true s015 (oP (vFA 1 g002) s015)) <|
   oSeq (oGuard g014 true s016 (oLoad g015 s016)) <|
   oSeq (oGuard g014 true s017 (oP (vFA 1 g003) s017)) <|
   oSeq (oGuard g014 true s020 (oLoad g017 s020)) <|
   oSeq (oGuard g014 true s021 (oMv g005 s021)) <|
   oSeq (oGuard g014 true s022 (oCallF 50 (fun T => [g016 T, g020 T, g021 T]) s022)) <|
   oSeq (oP (vPick g014 g022 (kc (.bool false))) s023) <|
   oSeq (oMv g023 s024) <|
   oSeq (oGuard g024 true s025 (oP (vFA 2 g002) s025)) <|
   oSeq (oGuard g024 true s026 (oLoad g025 s026)) <|
   oSeq (oGuard g024 true s027 (oP (vFA 2 g003) s027)) <|
   oSeq (oGuard g024 true s030 (oLoad g027 s030)) <|
   oSeq (oGuard g024 true s031 (oMv g006 s031)) <|
   oSeq (oGuard g024 true s032 (oCallF 51 (fun T => [g026 T, g030 T, g031 T]) s032)) <|
   oSeq (oP (vPick g024 g032 (kc (.bool false))) s033) <|
   oMv g033 s004)) <|
  cExit 0⟩
noncomputable def ffn47 : FFn := ⟨2, 17, [(4, none)],
  cSeq (cReg 3 (
   oSeq (oBox 54 g000 0 s002) <|
   oSeq (oBox 54 g001 1 s003) <|
   oMv (kc (.bool false)) s004)) <|
  cSeq (cReg 13 (
   oSeq (oP (vFA 1 g002) s005) <|
   oSeq (oLoad g005 s006) <|
   oSeq (oP (vFA 1 g003) s007) <|
   oSeq (oLoad g007 s010) <|
   oSeq (oGen (.bin .eql .bool (.t 6) (.t 8)) 4 s011) <|
   oSeq (oMv g011 s012) <|
   oSeq (oGuard g012 true s013 (oP (vFA 0 g002) s013)) <|
   oSeq (oGuard g012 true s014 (oLoad g013 s014)) <|
   oSeq (oGuard g012 true s015 (oP (vFA 0 g003) s015)) <|
   oSeq (oGuard g012 true s016 (oLoad g015 s016)) <|
   oSeq (oGuard g012 true s017 (oCallF 48 (fun T => [g014 T, g016 T]) s017)) <|
   oSeq (oP (vPick g012 g017 (kc (.bool false))) s020) <|
   oMv g020 s004)) <|
  cExit 0⟩
noncomputable def ffn49 : FFn := ⟨2, 17, [(4, none)],
  cSeq (cReg 3 (
   oSeq (oBox 60 g000 0 s002) <|
   oSeq (oBox 60 g001 1 s003) <|
   oMv (kc (.bool false)) s004)) <|
  cSeq (cReg 13 (
   oSeq (oP (vFA 0 g002) s005) <|
   oSeq (oLoad g005 s006) <|
   oSeq (oP (vFA 0 g003) s007) <|
   oSeq (oLoad g007 s010) <|
   oSeq (oP (vEql g006 g010) s011) <|
   oSeq (oMv g011 s012) <|
   oSeq (oGuard g012 true s013 (oP (vFA 1 g002) s013)) <|
   oSeq (oGuard g012 true s014 (oLoad g013 s014)) <|
   oSeq (oGuard g012 true s015 (oP (vFA 1 g003) s015)) <|
   oSeq (oGuard g012 true s016 (oLoad g015 s016)) <|
   oSeq (oGuard g012 true s017 (oCallF 48 (fun T => [g014 T, g016 T]) s017)) <|
   oSeq (oP (vPick g012 g017 (kc (.bool false))) s020) <|
   oMv g020 s004)) <|
  cExit 0⟩
noncomputable def ffn50 : FFn := ⟨3, 32, [(6, none)],
  cSeq (cReg 1 (
   oMv (kc (.bool false)) s006)) <|
  cSeq (cSeq (cReg 5 (
   oSeq (oMv g000 s012) <|
   oSeq (oP (vLen g012) s013) <|
   oSeq (oMv g001 s014) <|
   oSeq (oP (vLen g014) s015) <|
   oP (vNeq g013 g015) s016)) <|
  cCond g016
   (cSeq (cReg 1 (
    oMv (kc (.bool false)) s006)) <|
   cExit 0)
   (cSkip)) <|
  cSeq (cSeq (cReg 3 (
   oSeq (oMv g000 s017) <|
   oSeq (oP (vLen g017) s020) <|
   oMv (kc (.int .i64 0)) s021)) <|
  cBlock 1 (cLoop 1000000 (cSeq (cReg 1 (
     oP (vLss g021 g020) s022)) <|
    cSeq (cCond g022
     (cSkip)
     (cExit 1)) <|
    cSeq (cBlock 3 (cSeq (cReg 6 (
      oSeq (oMv g021 s023) <|
      oSeq (oP (vIdx 2 g017 g021) s024) <|
      oSeq (oLoadN 2 g024 s025) <|
      oSeq (oAlloc 54 [.nilSl, (.bool false)] 3 s010) <|
      oSeq (oMv g023 s007) <|
      oStoreN 2 g010 g025 noPut)) <|
     cSeq (cReg 6 (
      oSeq (oMv g001 s026) <|
      oSeq (oMv g007 s027) <|
      oSeq (oP (vIdx 2 g026 g027) s030) <|
      oSeq (oLoadN 2 g030 s031) <|
      oSeq (oAlloc 54 [.nilSl, (.bool false)] 4 s011) <|
      oStoreN 2 g011 g031 noPut)) <|
     cSeq (cReg 5 (
      oSeq (oMv g002 s032) <|
      oSeq (oLoadN 2 g010 s033) <|
      oSeq (oLoadN 2 g011 s034) <|
      oSeq (oCall g032 (fun T => [g033 T, g034 T]) s035) <|
      oGen (.un .not (.t 29)) 4 s036)) <|
     cCond g036
      (cSeq (cReg 1 (
       oMv (kc (.bool false)) s006)) <|
      cExit 0)
      (cSkip))) <|
    cReg 2 (
     oSeq (oP (vAdd g021 (kc (.int .i64 1))) s037) <|
     oMv g037 s021)))) <|
  cSeq (cReg 1 (
   oMv (kc (.bool true)) s006)) <|
  cExit 0⟩
noncomputable def ffn51 : FFn := ⟨3, 32, [(6, none)],
  cSeq (cReg 1 (
   oMv (kc (.bool false)) s006)) <|
  cSeq (cSeq (cReg 5 (
   oSeq (oMv g000 s012) <|
   oSeq (oP (vLen g012) s013) <|
   oSeq (oMv g001 s014) <|
   oSeq (oP (vLen g014) s015) <|
   oP (vNeq g013 g015) s016)) <|
  cCond g016
   (cSeq (cReg 1 (
    oMv (kc (.bool false)) s006)) <|
   cExit 0)
   (cSkip)) <|
  cSeq (cSeq (cReg 3 (
   oSeq (oMv g000 s017) <|
   oSeq (oP (vLen g017) s020) <|
   oMv (kc (.int .i64 0)) s021)) <|
  cBlock 1 (cLoop 1000000 (cSeq (cReg 1 (
     oP (vLss g021 g020) s022)) <|
    cSeq (cCond g022
     (cSkip)
     (cExit 1)) <|
    cSeq (cBlock 3 (cSeq (cReg 6 (
      oSeq (oMv g021 s023) <|
      oSeq (oP (vIdx 2 g017 g021) s024) <|
      oSeq (oLoadN 2 g024 s025) <|
      oSeq (oAlloc 60 [(.int .u8 0), .nilSl] 3 s010) <|
      oSeq (oMv g023 s007) <|
      oStoreN 2 g010 g025 noPut)) <|
     cSeq (cReg 6 (
      oSeq (oMv g001 s026) <|
      oSeq (oMv g007 s027) <|
      oSeq (oP (vIdx 2 g026 g027) s030) <|
      oSeq (oLoadN 2 g030 s031) <|
      oSeq (oAlloc 60 [(.int .u8 0), .nilSl] 4 s011) <|
      oStoreN 2 g011 g031 noPut)) <|
     cSeq (cReg 5 (
      oSeq (oMv g002 s032) <|
      oSeq (oLoadN 2 g010 s033) <|
      oSeq (oLoadN 2 g011 s034) <|
      oSeq (oCall g032 (fun T => [g033 T, g034 T]) s035) <|
      oGen (.un .not (.t 29)) 4 s036)) <|
     cCond g036
      (cSeq (cReg 1 (
       oMv (kc (.bool false)) s006)) <|
      cExit 0)
      (cSkip))) <|
    cReg 2 (
     oSeq (oP (vAdd g021 (kc (.int .i64 1))) s037) <|
     oMv g037 s021)))) <|
  cSeq (cReg 1 (
   oMv (kc (.bool true)) s006)) <|
  cExit 0⟩
noncomputable def ffn23 : FFn := ⟨2, 29, [(4, (some (some 3))), (5, none)],
  cSeq (cReg 2 (
   oSeq (oAlloc 26 [(.int .i64 0), .nilSl, .nilSl] 0 s004) <|
   oMv (kc (.int .i64 0)) s005)) <|
  cSeq (cSeq (cReg 4 (
   oSeq (oMv g000 s010) <|
   oSeq (oMv g001 s011) <|
   oSeq (oCallF 39 (fun T => [g010 T, g011 T, (.fn (.func 40) [] []), (.fn (.func 41) [] [])]) s012) <|
   oMv g012 s006)) <|
  cSeq (cReg 2 (
   oSeq (oMv g006 s013) <|
   oP (vNeq g013 (kc (.int .i64 0))) s014)) <|
  cCond g014
   (cSeq (cReg 4 (
    oSeq (oP (vBuild [(.int .i64 0), .nilSl, .nilSl] []) s015) <|
    oSeq (oMv g006 s016) <|
    oSeq (oStoreN 3 g004 g015 noPut) <|
    oMv g016 s005)) <|
   cExit 0)
   (cSkip)) <|
  cSeq (cReg 4 (
   oSeq (oMv g000 s017) <|
   oSeq (oMv g001 s020) <|
   oSeq (oCallF 42 (fun T => [g017 T, g020 T]) s021) <|
   oMv g021 s007)) <|
  cSeq (cSeq (cReg 3 (
   oSeq (oMv g007 s022) <|
   oSeq (oP (vLen g022) s023) <|
   oP (vGeq g023 (kc (.int .i64 1024))) s024)) <|
  cCond g024
   (cSeq (cReg 3 (
    oSeq (oP (vBuild [(.int .i64 0), .nilSl, .nilSl] []) s025) <|
    oSeq (oStoreN 3 g004 g025 noPut) <|
    oMv (kc (.int .i64 4)) s005)) <|
   cExit 0)
   (cSkip)) <|
  cSeq (cReg 9 (
   oSeq (oMv g000 s026) <|
   oSeq (oMv g000 s027) <|
   oSeq (oMv g007 s030) <|
   oSeq (oCallF 38 (fun T => [g027 T, g030 T]) s031) <|
   oSeq (oCallF 37 (fun T => [g026 T, g031 T]) s032) <|
   oSeq (oP (vExt 0 g032) s033) <|
   oSeq (oP (vExt 1 g032) s034) <|
   oSeq (oStoreN 3 g004 g033 noPut) <|
   oMv g034 s005)) <|
  cExit 0⟩
noncomputable def ffn39 : FFn := ⟨4, 28, [(8, none)],
  cSeq (cReg 4 (
   oSeq (oBox 3 g000 0 s004) <|
   oSeq (oBox 72 g002 1 s006) <|
   oSeq (oBox 73 g003 2 s007) <|
   oMv (kc (.int .i64 0)) s010)) <|
  cSeq (cBlock 1 (cSeq (cReg 7 (
    oSeq (oLoad g004 s012) <|
    oSeq (oP (vLss g012 (kc (.int .i64 0))) s013) <|
    oSeq (oMv g013 s014) <|
    oSeq (oGuard g014 false s015 (oLoad g004 s015)) <|
    oSeq (oGuard g014 false s016 (oP (vGtr g015 (kc (.int .i64 8))) s016)) <|
    oSeq (oP (vPick g014 (kc (.bool true)) g016) s017) <|
    oMv g017 s011)) <|
   cCond g011
    (cSeq (cReg 1 (
     oMv (kc (.int .i64 2)) s010)) <|
    cExit 0)
    (cSeq (cReg 4 (
     oSeq (oMv g001 s021) <|
     oSeq (oP (vLen g021) s022) <|
     oSeq (oP (vGtr g022 (kc (.int .i64 60))) s023) <|
     oMv g023 s020)) <|
    cCond g020
     (cSeq (cReg 1 (
      oMv (kc (.int .i64 4)) s010)) <|
     cExit 0)
     (cSeq (cReg 4 (
      oSeq (oMv g001 s025) <|
      oSeq (oGen (.mkfn (.func 65) [] [(.t 6), (.t 7)]) 1 s026) <|
      oSeq (oCallF 64 (fun T => [g025 T, g026 T]) s027) <|
      oMv g027 s024)) <|
     cCond g024
      (cSeq (cReg 1 (
       oMv (kc (.int .i64 8)) s010)) <|
      cExit 0)
      (cSeq (cReg 4 (
       oSeq (oMv g001 s031) <|
       oSeq (oGen (.mkfn (.func 66) [] [(.t 6), (.t 4)]) 1 s032) <|
       oSeq (oCallF 64 (fun T => [g031 T, g032 T]) s033) <|
       oMv g033 s030)) <|
      cCond g030
       (cSeq (cReg 1 (
        oMv (kc (.int .i64 70)) s010)) <|
       cExit 0)
       (cSkip)))))) <|
  cSeq (cReg 1 (
   oMv (kc (.int .i64 0)) s010)) <|
  cExit 0⟩
noncomputable def ffn65 : FFn := ⟨3, 15, [(4, none)],
  cSeq (cReg 2 (
   oSeq (oBox 60 g000 0 s003) <|
   oMv (kc (.bool false)) s004)) <|
  cSeq (cReg 11 (
   oSeq (oLoad g001 s005) <|
   oSeq (oLoadN 2 g003 s006) <|
   oSeq (oCall g005 (fun T => [g006 T]) s007) <|
   oSeq (oCallF 57 (fun T => [g007 T]) s010) <|
   oSeq (oP (vNeq g010 (kc (.int .i64 0))) s011) <|
   oSeq (oMv g011 s012) <|
   oSeq (oGuard g012 false s013 (oLoad g002 s013)) <|
   oSeq (oGuard g012 false s014 (oLoadN 2 g003 s014)) <|
   oSeq (oGuard g012 false s015 (oCall g013 (fun T => [g014 T]) s015)) <|
   oSeq (oP (vPick g012 (kc (.bool true)) g015) s016) <|
   oMv g016 s004)) <|
  cExit 0⟩
noncomputable def ffn64 : FFn := ⟨2, 9, [(4, none)],
  cSeq (cReg 1 (
   oMv (kc (.bool false)) s004)) <|
  cSeq (cReg 5 (
   oSeq (oMv g000 s005) <|
   oSeq (oMv g001 s006) <|
   oSeq (oCallF 99 (fun T => [g005 T, g006 T]) s007) <|
   oSeq (oP (vGeq g007 (kc (.int .i64 0))) s010) <|
   oMv g010 s004)) <|
  cExit 0⟩
noncomputable def ffn99 : FFn := ⟨2, 19, [(4, none)],
  cSeq (cReg 1 (
   oMv (kc (.int .i64 0)) s004)) <|
  cSeq (cSeq (cReg 3 (
   oSeq (oMv g000 s006) <|
   oSeq (oP (vLen g006) s007) <|
   oMv (kc (.int .i64 0)) s010)) <|
  cBlock 1 (cLoop 1000000 (cSeq (cReg 1 (
     oP (vLss g010 g007) s011)) <|
    cSeq (cCond g011
     (cSkip)
     (cExit 1)) <|
    cSeq (cBlock 3 (cSeq (cReg 2 (
      oSeq (oMv g010 s012) <|
      oMv g012 s005)) <|
     cSeq (cReg 6 (
      oSeq (oMv g001 s013) <|
      oSeq (oMv g000 s014) <|
      oSeq (oMv g005 s015) <|
      oSeq (oP (vIdx 2 g014 g015) s016) <|
      oSeq (oLoadN 2 g016 s017) <|
      oCall g013 (fun T => [g017 T]) s020)) <|
     cCond g020
      (cSeq (cReg 2 (
       oSeq (oMv g005 s021) <|
       oMv g021 s004)) <|
      cExit 0)
      (cSkip))) <|
    cReg 2 (
     oSeq (oP (vAdd g010 (kc (.int .i64 1))) s022) <|
     oMv g022 s010)))) <|
  cSeq (cReg 1 (
   oMv (kc (.int .i64 (-1))) s004)) <|
  cExit 0⟩
noncomputable def ffn66 : FFn := ⟨3, 12, [(4, none)],
  cSeq (cReg 2 (
   oSeq (oBox 60 g000 0 s003) <|
   oMv (kc (.bool false)) s004)) <|
  cSeq (cDrw 8 (
   dSeq (dLook 0 [] (oLoad g001 s005)) <|
   dSeq (dLook 0 [] (oLoadN 2 g003 s006)) <|
   dSeq (dAct 0 [] (oCall g005 (fun T => [g006 T]) s007)) <|
   dSeq (dLook 0 [] (oP (vLen g007) s010)) <|
   dSeq (dLook 1 [] (oLoad g002 s011)) <|
   dSeq (dLook 0 [] (oP (vAdd g011 (kc (.int .i64 1))) s012)) <|
   dSeq (dLook 0 [] (oP (vNeq g010 g012) s013)) <|
   dSeq (dLook 0 [] (oMv g013 s004)) <|
   dNop)
   (ckSeq (ckOne g011 0 [] (oLoad g002 s011)) <|
  ckNop) []) <|
  cExit 0⟩
noncomputable def ffn40 : FFn := ⟨1, 5, [(2, none)],
  cSeq (cReg 2 (
   oSeq (oBox 60 g000 0 s001) <|
   oMv (kc .nilSl) s002)) <|
  cSeq (cReg 3 (
   oSeq (oP (vFA 1 g001) s003) <|
   oSeq (oLoad g003 s004) <|
   oMv g004 s002)) <|
  cExit 0⟩
noncomputable def ffn41 : FFn := ⟨1, 18, [(2, none)],
  cSeq (cReg 2 (
   oSeq (oBox 60 g000 0 s001) <|
   oMv (kc (.bool false)) s002)) <|
  cSeq (cSeq (cReg 2 (
   oSeq (oP (vFA 0 g001) s003) <|
   oLoad g003 s004)) <|
  cBlock 1 (cSeq (cSeq (cReg 2 (
    oSeq (oP (vEql g004 (kc (.int .u8 1))) s006) <|
    oMv g006 s005)) <|
   cCond g005
    (cSkip)
    (cReg 2 (
     oSeq (oP (vEql g004 (kc (.int .u8 2))) s007) <|
     oMv g007 s005))) <|
   cCond g005
    (cSeq (cReg 5 (
     oSeq (oP (vFA 1 g001) s010) <|
     oSeq (oLoad g010 s011) <|
     oSeq (oCallF 63 (fun T => [g011 T]) s012) <|
     oSeq (oP (vNeq g012 (kc (.int .i64 0))) s013) <|
     oMv g013 s002)) <|
    cExit 0)
    (cSeq (cReg 2 (
     oSeq (oP (vEql g004 (kc (.int .u8 3))) s015) <|
     oMv g015 s014)) <|
    cCond g014
     (cSeq (cReg 5 (
      oSeq (oP (vFA 1 g001) s016) <|
      oSeq (oLoad g016 s017) <|
      oSeq (oCallF 63 (fun T => [g017 T]) s020) <|
      oSeq (oP (vLeq g020 (kc (.int .i64 0))) s021) <|
      oMv g021 s002)) <|
     cExit 0)
     (cSkip)))) <|
  cSeq (cReg 1 (
   oMv (kc (.bool true)) s002)) <|
  cExit 0⟩
noncomputable def ffn20 : FFn := ⟨2, 11, [(3, none)],
  cSeq (cReg 1 (
   oMv (kc .nilSl) s003)) <|
  cSeq (cDrw 8 (
   dSeq (dLook 0 [] (oMv g000 s004)) <|
   dSeq (dAct 0 [] (oCallF 22 (fun T => [g004 T]) s005)) <|
   dSeq (dLook 1 [] (oLoad g001 s006)) <|
   dSeq (dLook 0 [] (oP (vAdd g006 (kc (.int .i64 1))) s007)) <|
   dSeq (dLook 1 [] (oLoad g001 s010)) <|
   dSeq (dLook 0 [] (oP (vAdd g010 (kc (.int .i64 2))) s011)) <|
   dSeq (dAct 0 [] (oCallF 21 (fun T => [g005 T, g007 T, g011 T]) s012)) <|
   dSeq (dLook 0 [] (oMv g012 s003)) <|
   dNop)
   (ckSeq (ckOne g006 1 [] (oLoad g001 s006)) <|
  ckSeq (ckOne g010 1 [] (oLoad g001 s010)) <|
  ckNop) []) <|
  cExit 0⟩
noncomputable def ffn22 : FFn := ⟨1, 8, [(2, none)],
  cSeq (cReg 1 (
   oMv (kc .nilSl) s002)) <|
  cSeq (cSeq (cReg 2 (
   oSeq (oMv g000 s003) <|
   oGen (.bin .eql .sl (.t 3) (.c .nilSl)) 1 s004)) <|
  cCond g004
   (cSeq (cReg 1 (
    oMv (kc .nilSl) s002)) <|
   cExit 0)
   (cSkip)) <|
  cSeq (cReg 4 (
   oSeq (oBuildSlice 50 2 [] 0 [] 0 s005) <|
   oSeq (oMv g000 s006) <|
   oSeq (oGen (.append 2 32 50 [(.bool false), .nilSl] (.t 5) (.t 6)) 2 s007) <|
   oMv g007 s002)) <|
  cExit 0⟩
noncomputable def ffn21 : FFn := ⟨3, 33, [(6, none)],
  cSeq (cReg 1 (
   oMv (kc .nilSl) s006)) <|
  cSeq (cReg 6 (
   oSeq (oMv g000 s010) <|
   oSeq (oMv g001 s011) <|
   oSeq (oMv g002 s012) <|
   oSeq (oMv g000 s013) <|
   oSeq (oP (vLen g013) s014) <|
   oGen (.slice 2 (.t 8) (some (.t 9)) (some (.t 10)) (some (.t 12))) 5 s015)) <|
  cSeq (cSeq (cReg 3 (
   oSeq (oMv g001 s016) <|
   oSeq (oMv g002 s017) <|
   oP (vEql g016 g017) s020)) <|
  cCond g020
   (cSeq (cReg 2 (
    oSeq (oMv g000 s021) <|
    oMv g021 s006)) <|
   cExit 0)
   (cSkip)) <|
  cSeq (cReg 3 (
   oSeq (oMv g000 s022) <|
   oSeq (oP (vLen g022) s023) <|
   oMv g023 s007)) <|
  cSeq (cDrw 8 (
   dSeq (dLook 0 [] (oMv g000 s024)) <|
   dSeq (dLook 0 [] (oMv g001 s025)) <|
   dSeq (dLook 0 [] (oGen (.slice 2 (.t 20) none (some (.t 21)) none) 2 s026)) <|
   dSeq (dLook 0 [] (oMv g000 s027)) <|
   dSeq (dLook 0 [] (oMv g002 s030)) <|
   dSeq (dLook 0 [] (oGen (.slice 2 (.t 23) (some (.t 24)) none none) 5 s031)) <|
   dSeq (dAct 0 [] (oGen (.append 2 32 50 [(.bool false), .nilSl] (.t 22) (.t 25)) 6 s032)) <|
   dSeq (dLook 0 [] (oMv g032 s000)) <|
   dNop)
   (ckNop) []) <|
  cSeq (cReg 6 (
   oSeq (oMv g000 s033) <|
   oSeq (oMv g000 s034) <|
   oSeq (oP (vLen g034) s035) <|
   oSeq (oMv g007 s036) <|
   oSeq (oGen (.slice 2 (.t 27) (some (.t 29)) (some (.t 30)) none) 4 s037) <|
   oGen (.clear 2 [(.bool false), .nilSl] (.t 31)) 5 noPut)) <|
  cSeq (cReg 2 (
   oSeq (oMv g000 s040) <|
   oMv g040 s006)) <|
  cExit 0⟩
noncomputable def ffn25 : FFn := ⟨2, 12, [(4, (some (some 2)))],
  cSeq (cReg 2 (
   oSeq (oBox 60 g001 0 s003) <|
   oAlloc 60 [(.int .u8 0), .nilSl] 1 s004)) <|
  cSeq (cDrw 8 (
   dSeq (dLook 0 [] (oP (vFA 0 g003) s005)) <|
   dSeq (dLook 0 [] (oLoad g005 s006)) <|
   dSeq (dLook 0 [] (oMv g000 s007)) <|
   dSeq (dLook 0 [] (oP (vFA 1 g003) s010)) <|
   dSeq (dLook 0 [] (oLoad g010 s011)) <|
   dSeq (dAct 0 [] (oCall g007 (fun T => [g011 T]) s012)) <|
   dSeq (dLook 0 [] (oP (vBuild [(.int .u8 0), .nilSl] [((0, 1), g006), ((1, 1), g012)]) s013)) <|
   dSeq (dAct 0 [] (oStoreN 2 g004 g013 noPut)) <|
   dNop)
   (ckSeq (ckOne g006 1 [] (oLoad g005 s006)) <|
  ckNop) []) <|
  cExit 0⟩
noncomputable def ffn24 : FFn := ⟨2, 26, [(4, none)],
  cSeq (cReg 1 (
   oMv (kc .nilSl) s004)) <|
  cSeq (cReg 4 (
   oSeq (oMv g000 s010) <|
   oSeq (oP (vLen g010) s011) <|
   oSeq (oGen (.mksl 60 2 32 [(.int .u8 0), .nilSl] (.t 9) (.t 9)) 2 s012) <|
   oMv g012 s005)) <|
  cSeq (cSeq (cReg 3 (
   oSeq (oMv g000 s013) <|
   oSeq (oP (vLen g013) s014) <|
   oMv (kc (.int .i64 0)) s015)) <|
  cBlock 1 (cLoop 1000000 (cSeq (cReg 1 (
     oP (vLss g015 g014) s016)) <|
    cSeq (cCond g016
     (cSkip)
     (cExit 1)) <|
    cSeq (cBlock 3 (cSeq (cReg 6 (
      oSeq (oMv g015 s017) <|
      oSeq (oP (vIdx 2 g013 g015) s020) <|
      oSeq (oLoadN 2 g020 s021) <|
      oSeq (oAlloc 60 [(.int .u8 0), .nilSl] 3 s007) <|
      oSeq (oMv g017 s006) <|
      oStoreN 2 g007 g021 noPut)) <|
     cReg 7 (
      oSeq (oMv g005 s022) <|
      oSeq (oMv g006 s023) <|
      oSeq (oMv g001 s024) <|
      oSeq (oLoadN 2 g007 s025) <|
      oSeq (oCall g024 (fun T => [g025 T]) s026) <|
      oSeq (oP (vIdx 2 g022 g023) s027) <|
      oStoreN 2 g027 g026 noPut))) <|
    cReg 2 (
     oSeq (oP (vAdd g015 (kc (.int .i64 1))) s030) <|
     oMv g030 s015)))) <|
  cSeq (cReg 2 (
   oSeq (oMv g005 s031) <|
   oMv g031 s004)) <|
  cExit 0⟩
noncomputable def ffn9 : FFn := ⟨1, 26, [(2, (some (some 3))), (3, none)],
  cSeq (cReg 3 (
   oSeq (oBox 26 g000 0 s001) <|
   oSeq (oAlloc 26 [(.int .i64 0), .nilSl, .nilSl] 1 s002) <|
   oMv (kc (.int .i64 0)) s003)) <|
  cSeq (cBlock 1 (cSeq (cReg 4 (
    oSeq (oLoadN 3 g001 s006) <|
    oSeq (oCallF 13 (fun T => [g006 T]) s007) <|
    oSeq (oP (vNeq g007 (kc (.int .i64 0))) s010) <|
    oMv g010 s005)) <|
   cCond g005
    (cSeq (cReg 3 (
     oSeq (oP (vBuild [(.int .i64 0), .nilSl, .nilSl] []) s011) <|
     oSeq (oStoreN 3 g002 g011 noPut) <|
     oMv (kc (.int .i64 8)) s003)) <|
    cExit 0)
    (cSeq (cReg 4 (
     oSeq (oP (vFA 0 g001) s013) <|
     oSeq (oLoad g013 s014) <|
     oSeq (oP (vEql g014 (kc (.int .i64 8))) s015) <|
     oMv g015 s012)) <|
    cCond g012
     (cSeq (cReg 3 (
      oSeq (oP (vBuild [(.int .i64 0), .nilSl, .nilSl] []) s016) <|
      oSeq (oStoreN 3 g002 g016 noPut) <|
      oMv (kc (.int .i64 9)) s003)) <|
     cExit 0)
     (cSkip)))) <|
  cSeq (cReg 1 (
   oMv (kc (.fn (.func 26) [] [])) s004)) <|
  cSeq (cDrw 13 (
   dSeq (dLook 0 [] (oP (vFA 0 g001) s017)) <|
   dSeq (dLook 0 [] (oLoad g017 s020)) <|
   dSeq (dLook 0 [] (oP (vAdd g020 (kc (.int .i64 1))) s021)) <|
   dSeq (dLook 0 [] (oP (vFA 1 g001) s022)) <|
   dSeq (dLook 0 [] (oLoad g022 s023)) <|
   dSeq (dLook 0 [] (oMv g004 s024)) <|
   dSeq (dLook 0 [] (oGen (.mkfn (.func 19) [(.t 20)] []) 6 s025)) <|
   dSeq (dAct 0 [] (oCallF 18 (fun T => [g023 T, g025 T]) s026)) <|
   dSeq (dAct 0 [] (oCallF 17 (fun T => [g021 T, g026 T]) s027)) <|
   dSeq (dLook 0 [] (oP (vExt 0 g027) s030)) <|
   dSeq (dLook 0 [] (oP (vExt 1 g027) s031)) <|
   dSeq (dAct 0 [] (oStoreN 3 g002 g030 noPut)) <|
   dSeq (dLook 0 [] (oMv g031 s003)) <|
   dNop)
   (ckSeq (ckOne g020 2 [] (oLoad g017 s020)) <|
  ckNop) []) <|
  cExit 0⟩
noncomputable def ffn26 : FFn := ⟨1, 8, [(2, none)],
  cSeq (cReg 1 (
   oMv (kc .nilSl) s002)) <|
  cSeq (cReg 6 (
   oSeq (oMv g000 s003) <|
   oSeq (oCallF 22 (fun T => [g003 T]) s004) <|
   oSeq (oP (vBuild [(.bool false), .nilSl] []) s005) <|
   oSeq (oBuildSlice 50 2 [(.bool false), .nilSl] 1 [((0, 2), g005)] 3 s006) <|
   oSeq (oGen (.append 2 32 50 [(.bool false), .nilSl] (.t 4) (.t 6)) 4 s007) <|
   oMv g007 s002)) <|
  cExit 0⟩
noncomputable def ffn19 : FFn := ⟨2, 12, [(4, (some (some 2)))],
  cSeq (cReg 2 (
   oSeq (oBox 54 g001 0 s003) <|
   oAlloc 54 [.nilSl, (.bool false)] 1 s004)) <|
  cSeq (cDrw 8 (
   dSeq (dLook 0 [] (oMv g000 s005)) <|
   dSeq (dLook 0 [] (oP (vFA 0 g003) s006)) <|
   dSeq (dLook 0 [] (oLoad g006 s007)) <|
   dSeq (dAct 0 [] (oCall g005 (fun T => [g007 T]) s010)) <|
   dSeq (dLook 0 [] (oP (vFA 1 g003) s011)) <|
   dSeq (dLook 1 [] (oLoad g011 s012)) <|
   dSeq (dLook 0 [] (oP (vBuild [.nilSl, (.bool false)] [((0, 1), g010), ((1, 1), g012)]) s013)) <|
   dSeq (dAct 0 [] (oStoreN 2 g004 g013 noPut)) <|
   dNop)
   (ckSeq (ckOne g012 1 [] (oLoad g011 s012)) <|
  ckNop) []) <|
  cExit 0⟩
noncomputable def ffn18 : FFn := ⟨2, 26, [(4, none)],
  cSeq (cReg 1 (
   oMv (kc .nilSl) s004)) <|
  cSeq (cReg 4 (
   oSeq (oMv g000 s010) <|
   oSeq (oP (vLen g010) s011) <|
   oSeq (oGen (.mksl 54 2 32 [.nilSl, (.bool false)] (.t 9) (.t 9)) 2 s012) <|
   oMv g012 s005)) <|
  cSeq (cSeq (cReg 3 (
   oSeq (oMv g000 s013) <|
   oSeq (oP (vLen g013) s014) <|
   oMv (kc (.int .i64 0)) s015)) <|
  cBlock 1 (cLoop 1000000 (cSeq (cReg 1 (
     oP (vLss g015 g014) s016)) <|
    cSeq (cCond g016
     (cSkip)
     (cExit 1)) <|
    cSeq (cBlock 3 (cSeq (cReg 6 (
      oSeq (oMv g015 s017) <|
      oSeq (oP (vIdx 2 g013 g015) s020) <|
      oSeq (oLoadN 2 g020 s021) <|
      oSeq (oAlloc 54 [.nilSl, (.bool false)] 3 s007) <|
      oSeq (oMv g017 s006) <|
      oStoreN 2 g007 g021 noPut)) <|
     cReg 7 (
      oSeq (oMv g005 s022) <|
      oSeq (oMv g006 s023) <|
      oSeq (oMv g001 s024) <|
      oSeq (oLoadN 2 g007 s025) <|
      oSeq (oCall g024 (fun T => [g025 T]) s026) <|
      oSeq (oP (vIdx 2 g022 g023) s027) <|
      oStoreN 2 g027 g026 noPut))) <|
    cReg 2 (
     oSeq (oP (vAdd g015 (kc (.int .i64 1))) s030) <|
     oMv g030 s015)))) <|
  cSeq (cReg 2 (
   oSeq (oMv g005 s031) <|
   oMv g031 s004)) <|
  cExit 0⟩
noncomputable def ffn12 : FFn := ⟨1, 34, [(2, (some (some 3)))],
  cSeq (cReg 1 (
   oAlloc 26 [(.int .i64 0), .nilSl, .nilSl] 0 s002)) <|
  cSeq (cReg 3 (
   oSeq (oMv g000 s007) <|
   oSeq (oCallF 29 (fun T => [g007 T, (.int .i64 (-1))]) s010) <|
   oMv g010 s003)) <|
  cSeq (cReg 3 (
   oSeq (oMv g000 s011) <|
   oSeq (oCallF 29 (fun T => [g011 T, (.int .i64 3)]) s012) <|
   oMv g012 s004)) <|
  cSeq (cReg 7 (
   oSeq (oMv g003 s013) <|
   oSeq (oBuildSlice 3 1 [(.int .i64 0)] 1 [((0, 1), (kc (.int .i64 1)))] 1 s014) <|
   oSeq (oCallF 11 (fun T => [g014 T]) s015) <|
   oSeq (oP (vIdx 2 g015 (kc (.int .i64 0))) s016) <|
   oSeq (oLoadN 2 g016 s017) <|
   oSeq (oP (vIdx 2 g013 (kc (.int .i64 1))) s020) <|
   oStoreN 2 g020 g017 noPut)) <|
  cSeq (cReg 7 (
   oSeq (oMv g004 s021) <|
   oSeq (oBuildSlice 3 1 [(.int .i64 0)] 1 [((0, 1), (kc (.int .i64 (-1))))] 1 s022) <|
   oSeq (oCallF 11 (fun T => [g022 T]) s023) <|
   oSeq (oP (vIdx 2 g023 (kc (.int .i64 0))) s024) <|
   oSeq (oLoadN 2 g024 s025) <|
   oSeq (oP (vIdx 2 g021 (kc (.int .i64 1))) s026) <|
   oStoreN 2 g026 g025 noPut)) <|
  cSeq (cReg 13 (
   oSeq (oMv g000 s030) <|
   oSeq (oMv g003 s031) <|
   oSeq (oP (vBuild [.nilSl, (.bool false)] [((0, 1), g031)]) s032) <|
   oSeq (oMv g004 s033) <|
   oSeq (oP (vBuild [.nilSl, (.bool false)] [((0, 1), g033)]) s034) <|
   oSeq (oBuildSlice 54 2 [.nilSl, (.bool false), .nilSl, (.bool false)] 2 [((0, 2), g032), ((2, 2), g034)] 5 s035) <|
   oSeq (oCallF 17 (fun T => [g030 T, g035 T]) s036) <|
   oSeq (oMv g036 s027) <|
   oSeq (oP (vExt 0 g027) s037) <|
   oSeq (oP (vExt 1 g027) s040) <|
   oSeq (oAlloc 26 [(.int .i64 0), .nilSl, .nilSl] 10 s005) <|
   oSeq (oStoreN 3 g005 g037 noPut) <|
   oMv g040 s006)) <|
  cSeq (cReg 2 (
   oSeq (oLoadN 3 g005 s041) <|
   oStoreN 3 g002 g041 noPut)) <|
  cExit 0⟩
noncomputable def ffn29 : FFn := ⟨2, 20, [(4, none)],
  cSeq (cReg 1 (
   oMv (kc .nilSl) s004)) <|
  cSeq (cReg 4 (
   oSeq (oMv g001 s007) <|
   oSeq (oCallF 46 (fun T => [g007 T]) s010) <|
   oSeq (oBuildSlice 50 2 [(.bool false), .nilSl] 1 [((0, 2), g010)] 2 s011) <|
   oMv g011 s005)) <|
  cSeq (cSeq (cReg 1 (
   oMv (kc (.int .i64 0)) s006)) <|
  cBlock 1 (cLoop 1000000 (cSeq (cSeq (cReg 3 (
     oSeq (oMv g006 s012) <|
     oSeq (oMv g000 s013) <|
     oP (vLss g012 g013) s014)) <|
    cCond g014
     (cSkip)
     (cExit 1)) <|
    cSeq (cBlock 3 (cReg 5 (
      oSeq (oMv g005 s017) <|
      oSeq (oP (vBuild [(.bool false), .nilSl] []) s020) <|
      oSeq (oBuildSlice 50 2 [(.bool false), .nilSl] 1 [((0, 2), g020)] 2 s021) <|
      oSeq (oGen (.append 2 32 50 [(.bool false), .nilSl] (.t 15) (.t 17)) 3 s022) <|
      oMv g022 s005))) <|
    cReg 3 (
     oSeq (oMv g006 s015) <|
     oSeq (oP (vAdd g015 (kc (.int .i64 1))) s016) <|
     oMv g016 s006)))) <|
  cSeq (cReg 2 (
   oSeq (oMv g005 s023) <|
   oMv g023 s004)) <|
  cExit 0⟩
noncomputable def ffn46 : FFn := ⟨1, 15, [(2, (some (some 2)))],
  cSeq (cReg 1 (
   oAlloc 50 [(.bool false), .nilSl] 0 s002)) <|
  cSeq (cReg 3 (
   oSeq (oMv g000 s004) <|
   oSeq (oGen (.conv .u64 (.t 4)) 1 s005) <|
   oMv g005 s003)) <|
  cSeq (cSeq (cReg 2 (
   oSeq (oMv g000 s006) <|
   oP (vLss g006 (kc (.int .i64 0))) s007)) <|
  cCond g007
   (cSeq (cReg 5 (
    oSeq (oMv g003 s010) <|
    oSeq (oP (vSub (kc (.int .u64 0)) g010) s011) <|
    oSeq (oCallF 70 (fun T => [g011 T]) s012) <|
    oSeq (oP (vBuild [(.bool false), .nilSl] [((0, 1), (kc (.bool true))), ((1, 1), g012)]) s013) <|
    oStoreN 2 g002 g013 noPut)) <|
   cExit 0)
   (cSkip)) <|
  cSeq (cReg 4 (
   oSeq (oMv g003 s014) <|
   oSeq (oCallF 70 (fun T => [g014 T]) s015) <|
   oSeq (oP (vBuild [(.bool false), .nilSl] [((1, 1), g015)]) s016) <|
   oStoreN 2 g002 g016 noPut)) <|
  cExit 0⟩
noncomputable def ffn70 : FFn := ⟨1, 7, [(2, none)],
  cSeq (cReg 1 (
   oMv (kc .nilSl) s002)) <|
  cSeq (cSeq (cReg 2 (
   oSeq (oMv g000 s003) <|
   oP (vEql g003 (kc (.int .u64 0))) s004)) <|
  cCond g004
   (cSeq (cReg 1 (
    oMv (kc .nilSl) s002)) <|
   cExit 0)
   (cSkip)) <|
  cSeq (cReg 3 (
   oSeq (oMv g000 s005) <|
   oSeq (oBuildSlice 77 1 [(.int .u64 0)] 1 [((0, 1), g005)] 1 s006) <|
   oMv g006 s002)) <|
  cExit 0⟩
noncomputable def ffn10 : FFn := ⟨3, 14, [(6, none)],
  cSeq (cReg 3 (
   oSeq (oBox 26 g000 0 s003) <|
   oSeq (oBox 26 g002 1 s005) <|
   oMv (kc (.bool false)) s006)) <|
  cSeq (cReg 8 (
   oSeq (oMv g001 s007) <|
   oSeq (oP (vEql g007 (kc (.int .i64 0))) s010) <|
   oSeq (oMv g010 s011) <|
   oSeq (oGuard g011 true s012 (oLoadN 3 g003 s012)) <|
   oSeq (oGuard g011 true s013 (oLoadN 3 g005 s013)) <|
   oSeq (oGuard g011 true s014 (oCallF 27 (fun T => [g012 T, g013 T]) s014)) <|
   oSeq (oP (vPick g011 g014 (kc (.bool false))) s015) <|
   oMv g015 s006)) <|
  cExit 0⟩
noncomputable def ffn27 : FFn := ⟨2, 8, [(4, none)],
  cSeq (cReg 3 (
   oSeq (oBox 26 g000 0 s002) <|
   oSeq (oBox 26 g001 1 s003) <|
   oMv (kc (.bool false)) s004)) <|
  cSeq (cReg 4 (
   oSeq (oLoadN 3 g002 s005) <|
   oSeq (oLoadN 3 g003 s006) <|
   oSeq (oCallF 43 (fun T => [g005 T, g006 T]) s007) <|
   oMv g007 s004)) <|
  cExit 0⟩
noncomputable def ffn43 : FFn := ⟨2, 24, [(4, none)],
  cSeq (cReg 3 (
   oSeq (oBox 26 g000 0 s002) <|
   oSeq (oBox 26 g001 1 s003) <|
   oMv (kc (.bool false)) s004)) <|
  cSeq (cReg 20 (
   oSeq (oP (vFA 0 g002) s005) <|
   oSeq (oLoad g005 s006) <|
   oSeq (oP (vFA 0 g003) s007) <|
   oSeq (oLoad g007 s010) <|
   oSeq (oP (vEql g006 g010) s011) <|
   oSeq (oMv g011 s012) <|
   oSeq (oGuard g012 true s013 (oP (vFA 1 g002) s013)) <|
   oSeq (oGuard g012 true s014 (oLoad g013 s014)) <|
   oSeq (oGuard g012 true s015 (oP (vFA 1 g003) s015)) <|
   oSeq (oGuard g012 true s016 (oLoad g015 s016)) <|
   oSeq (oGuard g012 true s017 (oCallF 67 (fun T => [g014 T, g016 T]) s017)) <|
   oSeq (oP (vPick g012 g017 (kc (.bool false))) s020) <|
   oSeq (oMv g020 s021) <|
   oSeq (oGuard g021 true s022 (oP (vFA 2 g002) s022)) <|
   oSeq (oGuard g021 true s023 (oLoad g022 s023)) <|
   oSeq (oGuard g021 true s024 (oP (vFA 2 g003) s024)) <|
   oSeq (oGuard g021 true s025 (oLoad g024 s025)) <|
   oSeq (oGuard g021 true s026 (oCallF 68 (fun T => [g023 T, g025 T]) s026)) <|
   oSeq (oP (vPick g021 g026 (kc (.bool false))) s027) <|
   oMv g027 s004)) <|
  cExit 0⟩
noncomputable def ffn67 : FFn := ⟨2, 42, [(4, none)],
  cSeq (cReg 1 (
   oMv (kc (.bool false)) s004)) <|
  cSeq (cSeq (cReg 5 (
   oSeq (oMv g000 s006) <|
   oSeq (oP (vLen g006) s007) <|
   oSeq (oMv g001 s010) <|
   oSeq (oP (vLen g010) s011) <|
   oP (vNeq g007 g011) s012)) <|
  cCond g012
   (cSeq (cReg 1 (
    oMv (kc (.bool false)) s004)) <|
   cExit 0)
   (cSkip)) <|
  cSeq (cSeq (cReg 1 (
   oMv (kc (.int .i64 0)) s005)) <|
  cBlock 1 (cLoop 1000000 (cSeq (cSeq (cReg 4 (
     oSeq (oMv g005 s013) <|
     oSeq (oMv g000 s014) <|
     oSeq (oP (vLen g014) s015) <|
     oP (vLss g013 g015) s016)) <|
    cCond g016
     (cSkip)
     (cExit 1)) <|
    cSeq (cBlock 3 (cSeq (cDrw 25 (
      dSeq (dLook 0 [] (oMv g000 s021)) <|
      dSeq (dLook 0 [] (oMv g005 s022)) <|
      dSeq (dLook 0 [] (oP (vIdx 2 g021 g022) s023)) <|
      dSeq (dLook 0 [] (oP (vFA 1 g023) s024)) <|
      dSeq (dLook 0 [] (oLoad g024 s025)) <|
      dSeq (dLook 0 [] (oMv g001 s026)) <|
      dSeq (dLook 0 [] (oMv g005 s027)) <|
      dSeq (dLook 0 [] (oP (vIdx 2 g026 g027) s030)) <|
      dSeq (dLook 0 [] (oP (vFA 1 g030) s031)) <|
      dSeq (dLook 0 [] (oLoad g031 s032)) <|
      dSeq (dLook 0 [] (oGen (.bin .neq .bool (.t 21) (.t 26)) 10 s033)) <|
      dSeq (dLook 0 [] (oMv g033 s034)) <|
      dSeq (dLook 0 [] (oGuard g034 false s035 (oMv g000 s035))) <|
      dSeq (dLook 0 [] (oGuard g034 false s036 (oMv g005 s036))) <|
      dSeq (dLook 0 [] (oGuard g034 false s037 (oP (vIdx 2 g035 g036) s037))) <|
      dSeq (dLook 0 [] (oGuard g034 false s040 (oP (vFA 0 g037) s040))) <|
      dSeq (dLook 0 [] (oGuard g034 false s041 (oLoad g040 s041))) <|
      dSeq (dLook 0 [] (oGuard g034 false s042 (oMv g001 s042))) <|
      dSeq (dLook 0 [] (oGuard g034 false s043 (oMv g005 s043))) <|
      dSeq (dLook 0 [] (oGuard g034 false s044 (oP (vIdx 2 g042 g043) s044))) <|
      dSeq (dLook 0 [] (oGuard g034 false s045 (oP (vFA 0 g044) s045))) <|
      dSeq (dLook 0 [] (oGuard g034 false s046 (oLoad g045 s046))) <|
      dSeq (dAct 0 [] (oGuard g034 false s047 (oCallF 100 (fun T => [g041 T, g046 T]) s047))) <|
      dSeq (dLook 0 [] (oGuard g034 false s050 (oGen (.un .not (.t 39)) 23 s050))) <|
      dSeq (dLook 0 [] (oP (vPick g034 (kc (.bool true)) g050) s051)) <|
      dNop)
      (ckNop) []) <|
     cCond g051
      (cSeq (cReg 1 (
       oMv (kc (.bool false)) s004)) <|
      cExit 0)
      (cSkip))) <|
    cReg 3 (
     oSeq (oMv g005 s017) <|
     oSeq (oP (vAdd g017 (kc (.int .i64 1))) s020) <|
     oMv g020 s005)))) <|
  cSeq (cReg 1 (
   oMv (kc (.bool true)) s004)) <|
  cExit 0⟩
noncomputable def ffn100 : FFn := ⟨2, 27, [(4, none)],
  cSeq (cReg 1 (
   oMv (kc (.bool false)) s004)) <|
  cSeq (cSeq (cReg 5 (
   oSeq (oMv g000 s006) <|
   oSeq (oP (vLen g006) s007) <|
   oSeq (oMv g001 s010) <|
   oSeq (oP (vLen g010) s011) <|
   oP (vNeq g007 g011) s012)) <|
  cCond g012
   (cSeq (cReg 1 (
    oMv (kc (.bool false)) s004)) <|
   cExit 0)
   (cSkip)) <|
  cSeq (cSeq (cReg 1 (
   oMv (kc (.int .i64 0)) s005)) <|
  cBlock 1 (cLoop 1000000 (cSeq (cSeq (cReg 4 (
     oSeq (oMv g005 s013) <|
     oSeq (oMv g000 s014) <|
     oSeq (oP (vLen g014) s015) <|
     oP (vLss g013 g015) s016)) <|
    cCond g016
     (cSkip)
     (cExit 1)) <|
    cSeq (cBlock 3 (cSeq (cDrw 10 (
      dSeq (dLook 0 [] (oMv g000 s021)) <|
      dSeq (dLook 0 [] (oMv g005 s022)) <|
      dSeq (dLook 0 [] (oP (vIdx 2 g021 g022) s023)) <|
      dSeq (dLook 0 [] (oLoadN 2 g023 s024)) <|
      dSeq (dLook 0 [] (oMv g001 s025)) <|
      dSeq (dLook 0 [] (oMv g005 s026)) <|
      dSeq (dLook 0 [] (oP (vIdx 2 g025 g026) s027)) <|
      dSeq (dLook 0 [] (oLoadN 2 g027 s030)) <|
      dSeq (dAct 0 [] (oCallF 126 (fun T => [g024 T, g030 T]) s031)) <|
      dSeq (dLook 0 [] (oGen (.un .not (.t 25)) 9 s032)) <|
      dNop)
      (ckNop) []) <|
     cCond g032
      (cSeq (cReg 1 (
       oMv (kc (.bool false)) s004)) <|
      cExit 0)
      (cSkip))) <|
    cReg 3 (
     oSeq (oMv g005 s017) <|
     oSeq (oP (vAdd g017 (kc (.int .i64 1))) s020) <|
     oMv g020 s005)))) <|
  cSeq (cReg 1 (
   oMv (kc (.bool true)) s004)) <|
  cExit 0⟩
noncomputable def ffn126 : FFn := ⟨2, 17, [(4, none)],
  cSeq (cReg 3 (
   oSeq (oBox 50 g000 0 s002) <|
   oSeq (oBox 50 g001 1 s003) <|
   oMv (kc (.bool false)) s004)) <|
  cSeq (cReg 13 (
   oSeq (oP (vFA 0 g002) s005) <|
   oSeq (oLoad g005 s006) <|
   oSeq (oP (vFA 0 g003) s007) <|
   oSeq (oLoad g007 s010) <|
   oSeq (oGen (.bin .eql .bool (.t 6) (.t 8)) 4 s011) <|
   oSeq (oMv g011 s012) <|
   oSeq (oGuard g012 true s013 (oP (vFA 1 g002) s013)) <|
   oSeq (oGuard g012 true s014 (oLoad g013 s014)) <|
   oSeq (oGuard g012 true s015 (oP (vFA 1 g003) s015)) <|
   oSeq (oGuard g012 true s016 (oLoad g015 s016)) <|
   oSeq (oGuard g012 true s017 (oCallF 152 (fun T => [g014 T, g016 T]) s017)) <|
   oSeq (oP (vPick g012 g017 (kc (.bool false))) s020) <|
   oMv g020 s004)) <|
  cExit 0⟩
noncomputable def ffn152 : FFn := ⟨2, 26, [(4, none)],
  cSeq (cReg 1 (
   oMv (kc (.bool false)) s004)) <|
  cSeq (cSeq (cReg 5 (
   oSeq (oMv g000 s006) <|
   oSeq (oP (vLen g006) s007) <|
   oSeq (oMv g001 s010) <|
   oSeq (oP (vLen g010) s011) <|
   oP (vNeq g007 g011) s012)) <|
  cCond g012
   (cSeq (cReg 1 (
    oMv (kc (.bool false)) s004)) <|
   cExit 0)
   (cSkip)) <|
  cSeq (cSeq (cReg 1 (
   oMv (kc (.int .i64 0)) s005)) <|
  cBlock 1 (cLoop 1000000 (cSeq (cSeq (cReg 4 (
     oSeq (oMv g005 s013) <|
     oSeq (oMv g000 s014) <|
     oSeq (oP (vLen g014) s015) <|
     oP (vLss g013 g015) s016)) <|
    cCond g016
     (cSkip)
     (cExit 1)) <|
    cSeq (cBlock 3 (cSeq (cDrw 9 (
      dSeq (dLook 0 [] (oMv g000 s021)) <|
      dSeq (dLook 0 [] (oMv g005 s022)) <|
      dSeq (dLook 0 [] (oP (vIdx 1 g021 g022) s023)) <|
      dSeq (dLook 0 [] (oLoad g023 s024)) <|
      dSeq (dLook 0 [] (oMv g001 s025)) <|
      dSeq (dLook 0 [] (oMv g005 s026)) <|
      dSeq (dLook 0 [] (oP (vIdx 1 g025 g026) s027)) <|
      dSeq (dLook 0 [] (oLoad g027 s030)) <|
      dSeq (dLook 0 [] (oP (vNeq g024 g030) s031)) <|
      dNop)
      (ckNop) []) <|
     cCond g031
      (cSeq (cReg 1 (
       oMv (kc (.bool false)) s004)) <|
      cExit 0)
      (cSkip))) <|
    cReg 3 (
     oSeq (oMv g005 s017) <|
     oSeq (oP (vAdd g017 (kc (.int .i64 1))) s020) <|
     oMv g020 s005)))) <|
  cSeq (cReg 1 (
   oMv (kc (.bool true)) s004)) <|
  cExit 0⟩
noncomputable def ffn68 : FFn := ⟨2, 42, [(4, none)],
  cSeq (cReg 1 (
   oMv (kc (.bool false)) s004)) <|
  cSeq (cSeq (cReg 5 (
   oSeq (oMv g000 s006) <|
   oSeq (oP (vLen g006) s007) <|
   oSeq (oMv g001 s010) <|
   oSeq (oP (vLen g010) s011) <|
   oP (vNeq g007 g011) s012)) <|
  cCond g012
   (cSeq (cReg 1 (
    oMv (kc (.bool false)) s004)) <|
   cExit 0)
   (cSkip)) <|
  cSeq (cSeq (cReg 1 (
   oMv (kc (.int .i64 0)) s005)) <|
  cBlock 1 (cLoop 1000000 (cSeq (cSeq (cReg 4 (
     oSeq (oMv g005 s013) <|
     oSeq (oMv g000 s014) <|
     oSeq (oP (vLen g014) s015) <|
     oP (vLss g013 g015) s016)) <|
    cCond g016
     (cSkip)
     (cExit 1)) <|
    cSeq (cBlock 3 (cSeq (cDrw 25 (
      dSeq (dLook 0 [] (oMv g000 s021)) <|
      dSeq (dLook 0 [] (oMv g005 s022)) <|
      dSeq (dLook 0 [] (oP (vIdx 2 g021 g022) s023)) <|
      dSeq (dLook 0 [] (oP (vFA 0 g023) s024)) <|
      dSeq (dLook 0 [] (oLoad g024 s025)) <|
      dSeq (dLook 0 [] (oMv g001 s026)) <|
      dSeq (dLook 0 [] (oMv g005 s027)) <|
      dSeq (dLook 0 [] (oP (vIdx 2 g026 g027) s030)) <|
      dSeq (dLook 0 [] (oP (vFA 0 g030) s031)) <|
      dSeq (dLook 0 [] (oLoad g031 s032)) <|
      dSeq (dLook 0 [] (oP (vNeq g025 g032) s033)) <|
      dSeq (dLook 0 [] (oMv g033 s034)) <|
      dSeq (dLook 0 [] (oGuard g034 false s035 (oMv g000 s035))) <|
      dSeq (dLook 0 [] (oGuard g034 false s036 (oMv g005 s036))) <|
      dSeq (dLook 0 [] (oGuard g034 false s037 (oP (vIdx 2 g035 g036) s037))) <|
      dSeq (dLook 0 [] (oGuard g034 false s040 (oP (vFA 1 g037) s040))) <|
      dSeq (dLook 0 [] (oGuard g034 false s041 (oLoad g040 s041))) <|
      dSeq (dLook 0 [] (oGuard g034 false s042 (oMv g001 s042))) <|
      dSeq (dLook 0 [] (oGuard g034 false s043 (oMv g005 s043))) <|
      dSeq (dLook 0 [] (oGuard g034 false s044 (oP (vIdx 2 g042 g043) s044))) <|
      dSeq (dLook 0 [] (oGuard g034 false s045 (oP (vFA 1 g044) s045))) <|
      dSeq (dLook 0 [] (oGuard g034 false s046 (oLoad g045 s046))) <|
      dSeq (dAct 0 [] (oGuard g034 false s047 (oCallF 100 (fun T => [g041 T, g046 T]) s047))) <|
      dSeq (dLook 0 [] (oGuard g034 false s050 (oGen (.un .not (.t 39)) 23 s050))) <|
      dSeq (dLook 0 [] (oP (vPick g034 (kc (.bool true)) g050) s051)) <|
      dNop)
      (ckNop) []) <|
     cCond g051
      (cSeq (cReg 1 (
       oMv (kc (.bool false)) s004)) <|
      cExit 0)
      (cSkip))) <|
    cReg 3 (
     oSeq (oMv g005 s017) <|
     oSeq (oP (vAdd g017 (kc (.int .i64 1))) s020) <|
     oMv g020 s005)))) <|
  cSeq (cReg 1 (
   oMv (kc (.bool true)) s004)) <|
  cExit 0⟩
noncomputable def ffn5 : FFn := ⟨2, 47, [(4, (some (some 3))), (5, none)],
  cSeq (cReg 4 (
   oSeq (oBox 26 g000 0 s002) <|
   oSeq (oBox 31 g001 1 s003) <|
   oSeq (oAlloc 26 [(.int .i64 0), .nilSl, .nilSl] 2 s004) <|
   oMv (kc (.int .i64 0)) s005)) <|
  cSeq (cSeq (cReg 3 (
   oSeq (oLoadN 3 g002 s012) <|
   oSeq (oCallF 13 (fun T => [g012 T]) s013) <|
   oMv g013 s006)) <|
  cSeq (cReg 2 (
   oSeq (oMv g006 s014) <|
   oP (vNeq g014 (kc (.int .i64 0))) s015)) <|
  cCond g015
   (cSeq (cReg 4 (
    oSeq (oP (vBuild [(.int .i64 0), .nilSl, .nilSl] []) s016) <|
    oSeq (oMv g006 s017) <|
    oSeq (oStoreN 3 g004 g016 noPut) <|
    oMv g017 s005)) <|
   cExit 0)
   (cSkip)) <|
  cSeq (cSeq (cReg 5 (
   oSeq (oLoad g003 s020) <|
   oSeq (oP (vLen g020) s021) <|
   oSeq (oP (vFA 0 g002) s022) <|
   oSeq (oLoad g022 s023) <|
   oP (vNeq g021 g023) s024)) <|
  cCond g024
   (cSeq (cReg 3 (
    oSeq (oP (vBuild [(.int .i64 0), .nilSl, .nilSl] []) s025) <|
    oSeq (oStoreN 3 g004 g025 noPut) <|
    oMv (kc (.int .i64 2)) s005)) <|
   cExit 0)
   (cSkip)) <|
  cSeq (cSeq (cReg 5 (
   oSeq (oLoad g003 s026) <|
   oSeq (oCallF 15 (fun T => [g026 T]) s027) <|
   oSeq (oCallF 14 (fun T => [g027 T]) s030) <|
   oSeq (oP (vLen g030) s031) <|
   oMv (kc (.int .i64 0)) s032)) <|
  cBlock 1 (cLoop 1000000 (cSeq (cReg 1 (
     oP (vLss g032 g031) s033)) <|
    cSeq (cCond g033
     (cSkip)
     (cExit 1)) <|
    cSeq (cBlock 3 (cSeq (cReg 5 (
      oSeq (oMv g032 s034) <|
      oSeq (oP (vIdx 1 g030 g032) s035) <|
      oSeq (oLoad g035 s036) <|
      oSeq (oMv g034 s007) <|
      oMv g036 s010)) <|
     cSeq (cReg 3 (
      oSeq (oMv g007 s037) <|
      oSeq (oMv g010 s040) <|
      oP (vNeq g037 g040) s041)) <|
     cCond g041
      (cSeq (cReg 3 (
       oSeq (oP (vBuild [(.int .i64 0), .nilSl, .nilSl] []) s042) <|
       oSeq (oStoreN 3 g004 g042 noPut) <|
       oMv (kc (.int .i64 2)) s005)) <|
      cExit 0)
      (cSkip))) <|
    cReg 2 (
     oSeq (oP (vAdd g032 (kc (.int .i64 1))) s043) <|
     oMv g043 s032)))) <|
  cSeq (cReg 2 (
   oSeq (oGen (.mkfn (.func 16) [] [(.t 3)]) 0 s044) <|
   oMv g044 s011)) <|
  cSeq (cDrw 12 (
   dSeq (dLook 0 [] (oP (vFA 0 g002) s045)) <|
   dSeq (dLook 0 [] (oLoad g045 s046)) <|
   dSeq (dLook 0 [] (oP (vFA 1 g002) s047)) <|
   dSeq (dLook 0 [] (oLoad g047 s050)) <|
   dSeq (dLook 0 [] (oMv g011 s051)) <|
   dSeq (dLook 0 [] (oGen (.mkfn (.func 19) [(.t 41)] []) 5 s052)) <|
   dSeq (dAct 0 [] (oCallF 18 (fun T => [g050 T, g052 T]) s053)) <|
   dSeq (dAct 0 [] (oCallF 17 (fun T => [g046 T, g053 T]) s054)) <|
   dSeq (dLook 0 [] (oP (vExt 0 g054) s055)) <|
   dSeq (dLook 0 [] (oP (vExt 1 g054) s056)) <|
   dSeq (dAct 0 [] (oStoreN 3 g004 g055 noPut)) <|
   dSeq (dLook 0 [] (oMv g056 s005)) <|
   dNop)
   (ckSeq (ckOne g046 2 [] (oLoad g045 s046)) <|
  ckNop) []) <|
  cExit 0⟩
noncomputable def ffn15 : FFn := ⟨1, 4, [(2, none)],
  cSeq (cReg 2 (
   oSeq (oBox 31 g000 0 s001) <|
   oMv (kc .nilFn) s002)) <|
  cSeq (cReg 2 (
   oSeq (oGen (.mkfn (.func 33) [] [(.t 1)]) 0 s003) <|
   oMv g003 s002)) <|
  cExit 0⟩
noncomputable def ffn33 : FFn := ⟨2, 16, [],
  cSeq (cReg 3 (
   oSeq (oLoad g001 s005) <|
   oSeq (oP (vLen g005) s006) <|
   oMv (kc (.int .i64 0)) s007)) <|
  cBlock 1 (cLoop 1000000 (cSeq (cReg 1 (
     oP (vLss g007 g006) s010)) <|
    cSeq (cCond g010
     (cSkip)
     (cExit 1)) <|
    cSeq (cBlock 3 (cSeq (cReg 3 (
      oSeq (oP (vIdx 1 g005 g007) s011) <|
      oSeq (oLoad g011 s012) <|
      oMv g012 s004)) <|
     cSeq (cReg 4 (
      oSeq (oMv g000 s013) <|
      oSeq (oMv g004 s014) <|
      oSeq (oCall g013 (fun T => [g014 T]) s015) <|
      oGen (.un .not (.t 13)) 3 s016)) <|
     cCond g016
      (cExit 0)
      (cSkip))) <|
    cReg 2 (
     oSeq (oP (vAdd g007 (kc (.int .i64 1))) s017) <|
     oMv g017 s007)))⟩
noncomputable def ffn14 : FFn := ⟨1, 9, [(2, none)],
  cSeq (cReg 1 (
   oMv (kc .nilSl) s002)) <|
  cSeq (cReg 3 (
   oSeq (oMv g000 s004) <|
   oSeq (oCallF 31 (fun T => [g004 T]) s005) <|
   oMv g005 s003)) <|
  cSeq (cReg 2 (
   oSeq (oMv g003 s006) <|
   oCallF 32 (fun T => [g006 T]) s007)) <|
  cSeq (cReg 2 (
   oSeq (oMv g003 s010) <|
   oMv g010 s002)) <|
  cExit 0⟩
noncomputable def ffn31 : FFn := ⟨1, 5, [(2, none)],
  cSeq (cReg 1 (
   oMv (kc .nilSl) s002)) <|
  cSeq (cReg 3 (
   oSeq (oMv g000 s003) <|
   oSeq (oCallF 52 (fun T => [.nilSl, g003 T]) s004) <|
   oMv g004 s002)) <|
  cExit 0⟩
noncomputable def ffn52 : FFn := ⟨2, 13, [(4, none)],
  cSeq (cReg 2 (
   oSeq (oBox 31 g000 0 s002) <|
   oMv (kc .nilSl) s004)) <|
  cSeq (cSeq (cReg 1 (
   oMv g001 s006)) <|
  cBlock 1 (cSlow 1000000 false 13 (.rangeFunc (.t 6) [7] (.region [
    ⟨(some 5), .mv (.t 7), none⟩]) (.block 1 (.region [
      ⟨(some 8), .load none (.t 2), none⟩,
      ⟨(some 9), .mv (.t 5), none⟩,
      ⟨(some 10), .buildSlice 3 1 [(.int .i64 0)] 1 [((0, 1), (.t 9))], none⟩,
      ⟨(some 11), .append 1 8 3 [(.int .i64 0)] (.t 8) (.t 10), none⟩,
      ⟨none, .store 1 (.t 2) (.t 11), none⟩]))))) <|
  cSeq (cReg 2 (
   oSeq (oLoad g002 s014) <|
   oMv g014 s004)) <|
  cExit 0⟩
noncomputable def ffn32 : FFn := ⟨1, 11, [],
  cSeq (cReg 3 (
   oSeq (oMv g000 s003) <|
   oSeq (oP (vLen g003) s004) <|
   oMv g004 s002)) <|
  cReg 6 (
   oSeq (oMv g000 s005) <|
   oSeq (oMv g002 s006) <|
   oSeq (oMv g002 s007) <|
   oSeq (oGen (.conv .u64 (.t 7)) 3 s010) <|
   oSeq (oCallF 54 (fun T => [g010 T]) s011) <|
   oCallF 53 (fun T => [g005 T, (.int .i64 0), g006 T, g011 T]) s012)⟩
noncomputable def ffn53 : FFn := ⟨4, 134, [],
  cSeq (cReg 1 (
   oMv (kc (.bool true)) s010)) <|
  cSeq (cReg 1 (
   oMv (kc (.bool true)) s011)) <|
  cBlock 1 (cLoop 1000000 (cBlock 3 (cSeq (cReg 4 (
      oSeq (oMv g002 s023) <|
      oSeq (oMv g001 s024) <|
      oSeq (oP (vSub g023 g024) s025) <|
      oMv g025 s012)) <|
     cSeq (cSeq (cReg 2 (
      oSeq (oMv g012 s026) <|
      oP (vLeq g026 (kc (.int .i64 12))) s027)) <|
     cCond g027
      (cSeq (cReg 4 (
       oSeq (oMv g000 s030) <|
       oSeq (oMv g001 s031) <|
       oSeq (oMv g002 s032) <|
       oCallF 73 (fun T => [g030 T, g031 T, g032 T]) s033)) <|
      cExit 0)
      (cSkip)) <|
     cSeq (cSeq (cReg 2 (
      oSeq (oMv g003 s034) <|
      oP (vEql g034 (kc (.int .i64 0))) s035)) <|
     cCond g035
      (cSeq (cReg 4 (
       oSeq (oMv g000 s036) <|
       oSeq (oMv g001 s037) <|
       oSeq (oMv g002 s040) <|
       oCallF 74 (fun T => [g036 T, g037 T, g040 T]) s041)) <|
      cExit 0)
      (cSkip)) <|
     cSeq (cSeq (cReg 2 (
      oSeq (oMv g010 s042) <|
      oGen (.un .not (.t 34)) 1 s043)) <|
     cCond g043
      (cSeq (cReg 4 (
       oSeq (oMv g000 s044) <|
       oSeq (oMv g001 s045) <|
       oSeq (oMv g002 s046) <|
       oCallF 75 (fun T => [g044 T, g045 T, g046 T]) s047)) <|
      cReg 3 (
       oSeq (oMv g003 s050) <|
       oSeq (oP (vSub g050 (kc (.int .i64 1))) s051) <|
       oMv g051 s003))
      (cSkip)) <|
     cSeq (cReg 9 (
      oSeq (oMv g000 s053) <|
      oSeq (oMv g001 s054) <|
      oSeq (oMv g002 s055) <|
      oSeq (oCallF 76 (fun T => [g053 T, g054 T, g055 T]) s056) <|
      oSeq (oMv g056 s052) <|
      oSeq (oP (vExt 0 g052) s057) <|
      oSeq (oP (vExt 1 g052) s060) <|
      oSeq (oMv g057 s013) <|
      oMv g060 s014)) <|
     cSeq (cSeq (cReg 2 (
      oSeq (oMv g014 s061) <|
      oP (vEql g061 (kc (.int .i64 2))) s062)) <|
     cCond g062
      (cSeq (cReg 4 (
       oSeq (oMv g000 s063) <|
       oSeq (oMv g001 s064) <|
       oSeq (oMv g002 s065) <|
       oCallF 77 (fun T => [g063 T, g064 T, g065 T]) s066)) <|
      cSeq (cReg 7 (
       oSeq (oMv g002 s067) <|
       oSeq (oP (vSub g067 (kc (.int .i64 1))) s070) <|
       oSeq (oMv g013 s071) <|
       oSeq (oMv g001 s072) <|
       oSeq (oP (vSub g071 g072) s073) <|
       oSeq (oP (vSub g070 g073) s074) <|
       oMv g074 s013)) <|
      cReg 1 (
       oMv (kc (.int .i64 1)) s014))
      (cSkip)) <|
     cSeq (cSeq (cReg 8 (
      oSeq (oMv g010 s075) <|
      oSeq (oMv g075 s076) <|
      oSeq (oGuard g076 true s077 (oMv g011 s077)) <|
      oSeq (oP (vPick g076 g077 (kc (.bool false))) s100) <|
      oSeq (oMv g100 s101) <|
      oSeq (oGuard g101 true s102 (oMv g014 s102)) <|
      oSeq (oGuard g101 true s103 (oP (vEql g102 (kc (.int .i64 1))) s103)) <|
      oP (vPick g101 g103 (kc (.bool false))) s104)) <|
     cCond g104
      (cSeq (cReg 4 (
       oSeq (oMv g000 s105) <|
       oSeq (oMv g001 s106) <|
       oSeq (oMv g002 s107) <|
       oCallF 78 (fun T => [g105 T, g106 T, g107 T]) s110)) <|
      cCond g110
       (cExit 0)
       (cSkip))
      (cSkip)) <|
     cSeq (cSeq (cDrw 15 (
      dSeq (dLook 0 [] (oMv g001 s111)) <|
      dSeq (dLook 0 [] (oP (vGtr g111 (kc (.int .i64 0))) s112)) <|
      dSeq (dLook 0 [] (oMv g112 s113)) <|
      dSeq (dLook 0 [] (oGuard g113 true s114 (oMv g000 s114))) <|
      dSeq (dLook 0 [] (oGuard g113 true s115 (oMv g001 s115))) <|
      dSeq (dLook 0 [] (oGuard g113 true s116 (oP (vSub g115 (kc (.int .i64 1))) s116))) <|
      dSeq (dLook 0 [] (oGuard g113 true s117 (oP (vIdx 1 g114 g116) s117))) <|
      dSeq (dLook 0 [] (oGuard g113 true s120 (oLoad g117 s120))) <|
      dSeq (dLook 0 [] (oGuard g113 true s121 (oMv g000 s121))) <|
      dSeq (dLook 0 [] (oGuard g113 true s122 (oMv g013 s122))) <|
      dSeq (dLook 0 [] (oGuard g113 true s123 (oP (vIdx 1 g121 g122) s123))) <|
      dSeq (dLook 0 [] (oGuard g113 true s124 (oLoad g123 s124))) <|
      dSeq (dAct 0 [] (oGuard g113 true s125 (oCallF 79 (fun T => [g120 T, g124 T]) s125))) <|
      dSeq (dLook 0 [] (oGuard g113 true s126 (oGen (.un .not (.t 85)) 13 s126))) <|
      dSeq (dLook 0 [] (oP (vPick g113 g126 (kc (.bool false))) s127)) <|
      dNop)
      (ckNop) []) <|
     cCond g127
      (cSeq (cReg 6 (
       oSeq (oMv g000 s130) <|
       oSeq (oMv g001 s131) <|
       oSeq (oMv g002 s132) <|
       oSeq (oMv g013 s133) <|
       oSeq (oCallF 80 (fun T => [g130 T, g131 T, g132 T, g133 T]) s134) <|
       oMv g134 s015)) <|
      cSeq (cReg 2 (
       oSeq (oMv g015 s135) <|
       oMv g135 s001)) <|
      cExit 3)
      (cSkip)) <|
     cSeq (cReg 10 (
      oSeq (oMv g000 s137) <|
      oSeq (oMv g001 s140) <|
      oSeq (oMv g002 s141) <|
      oSeq (oMv g013 s142) <|
      oSeq (oCallF 81 (fun T => [g137 T, g140 T, g141 T, g142 T]) s143) <|
      oSeq (oMv g143 s136) <|
      oSeq (oP (vExt 0 g136) s144) <|
      oSeq (oP (vExt 1 g136) s145) <|
      oSeq (oMv g144 s016) <|
      oMv g145 s017)) <|
     cSeq (cReg 2 (
      oSeq (oMv g017 s146) <|
      oMv g146 s011)) <|
     cSeq (cReg 8 (
      oSeq (oMv g016 s147) <|
      oSeq (oMv g001 s150) <|
      oSeq (oP (vSub g147 g150) s151) <|
      oSeq (oMv g002 s152) <|
      oSeq (oMv g016 s153) <|
      oSeq (oP (vSub g152 g153) s154) <|
      oSeq (oMv g151 s020) <|
      oMv g154 s021)) <|
     cSeq (cReg 3 (
      oSeq (oMv g012 s155) <|
      oSeq (oGen (.bin .quo .int (.t 109) (.c (.int .i64 8))) 1 s156) <|
      oMv g156 s022)) <|
     cSeq (cReg 3 (
      oSeq (oMv g020 s157) <|
      oSeq (oMv g021 s160) <|
      oP (vLss g157 g160) s161)) <|
     cCond g161
      (cSeq (cReg 4 (
       oSeq (oMv g020 s162) <|
       oSeq (oMv g022 s163) <|
       oSeq (oP (vGeq g162 g163) s164) <|
       oMv g164 s010)) <|
      cSeq (cReg 5 (
       oSeq (oMv g000 s165) <|
       oSeq (oMv g001 s166) <|
       oSeq (oMv g016 s167) <|
       oSeq (oMv g003 s170) <|
       oCallF 53 (fun T => [g165 T, g166 T, g167 T, g170 T]) s171)) <|
      cReg 3 (
       oSeq (oMv g016 s172) <|
       oSeq (oP (vAdd g172 (kc (.int .i64 1))) s173) <|
       oMv g173 s001))
      (cSeq (cReg 4 (
       oSeq (oMv g021 s174) <|
       oSeq (oMv g022 s175) <|
       oSeq (oP (vGeq g174 g175) s176) <|
       oMv g176 s010)) <|
      cSeq (cReg 6 (
       oSeq (oMv g000 s177) <|
       oSeq (oMv g016 s200) <|
       oSeq (oP (vAdd g200 (kc (.int .i64 1))) s201) <|
       oSeq (oMv g002 s202) <|
       oSeq (oMv g003 s203) <|
       oCallF 53 (fun T => [g177 T, g201 T, g202 T, g203 T]) s204)) <|
      cReg 2 (
       oSeq (oMv g016 s205) <|
       oMv g205 s002)))))⟩
noncomputable def ffn73 : FFn := ⟨3, 49, [],
  cSeq (cReg 3 (
   oSeq (oMv g001 s010) <|
   oSeq (oP (vAdd g010 (kc (.int .i64 1))) s011) <|
   oMv g011 s006)) <|
  cBlock 1 (cLoop 1000000 (cSeq (cSeq (cReg 3 (
     oSeq (oMv g006 s012) <|
     oSeq (oMv g002 s013) <|
     oP (vLss g012 g013) s014)) <|
    cCond g014
     (cSkip)
     (cExit 1)) <|
    cSeq (cBlock 3 (cSeq (cReg 2 (
      oSeq (oMv g006 s017) <|
      oMv g017 s007)) <|
     cBlock 5 (cLoop 1000000 (cSeq (cSeq (cDrw 15 (
        dSeq (dLook 0 [] (oMv g007 s020)) <|
        dSeq (dLook 0 [] (oMv g001 s021)) <|
        dSeq (dLook 0 [] (oP (vGtr g020 g021) s022)) <|
        dSeq (dLook 0 [] (oMv g022 s023)) <|
        dSeq (dLook 0 [] (oGuard g023 true s024 (oMv g000 s024))) <|
        dSeq (dLook 0 [] (oGuard g023 true s025 (oMv g007 s025))) <|
        dSeq (dLook 0 [] (oGuard g023 true s026 (oP (vIdx 1 g024 g025) s026))) <|
        dSeq (dLook 0 [] (oGuard g023 true s027 (oLoad g026 s027))) <|
        dSeq (dLook 0 [] (oGuard g023 true s030 (oMv g000 s030))) <|
        dSeq (dLook 0 [] (oGuard g023 true s031 (oMv g007 s031))) <|
        dSeq (dLook 0 [] (oGuard g023 true s032 (oP (vSub g031 (kc (.int .i64 1))) s032))) <|
        dSeq (dLook 0 [] (oGuard g023 true s033 (oP (vIdx 1 g030 g032) s033))) <|
        dSeq (dLook 0 [] (oGuard g023 true s034 (oLoad g033 s034))) <|
        dSeq (dAct 0 [] (oGuard g023 true s035 (oCallF 79 (fun T => [g027 T, g034 T]) s035))) <|
        dSeq (dLook 0 [] (oP (vPick g023 g035 (kc (.bool false))) s036)) <|
        dNop)
        (ckNop) []) <|
       cCond g036
        (cSkip)
        (cExit 5)) <|
       cSeq (cBlock 7 (cDrw 18 (
         dSeq (dLook 0 [] (oMv g000 s041)) <|
         dSeq (dLook 0 [] (oMv g007 s042)) <|
         dSeq (dLook 0 [] (oMv g000 s043)) <|
         dSeq (dLook 0 [] (oMv g007 s044)) <|
         dSeq (dLook 0 [] (oP (vSub g044 (kc (.int .i64 1))) s045)) <|
         dSeq (dLook 0 [] (oMv g000 s046)) <|
         dSeq (dLook 0 [] (oMv g007 s047)) <|
         dSeq (dLook 0 [] (oP (vSub g047 (kc (.int .i64 1))) s050)) <|
         dSeq (dLook 0 [] (oP (vIdx 1 g046 g050) s051)) <|
         dSeq (dLook 0 [] (oLoad g051 s052)) <|
         dSeq (dLook 0 [] (oMv g000 s053)) <|
         dSeq (dLook 0 [] (oMv g007 s054)) <|
         dSeq (dLook 0 [] (oP (vIdx 1 g053 g054) s055)) <|
         dSeq (dLook 0 [] (oLoad g055 s056)) <|
         dSeq (dLook 0 [] (oP (vIdx 1 g041 g042) s057)) <|
         dSeq (dAct 0 [] (oStore g057 g052 noPut)) <|
         dSeq (dLook 0 [] (oP (vIdx 1 g043 g045) s060)) <|
         dSeq (dAct 0 [] (oStore g060 g056 noPut)) <|
         dNop)
         (ckNop) [])) <|
       cReg 3 (
        oSeq (oMv g007 s037) <|
        oSeq (oP (vSub g037 (kc (.int .i64 1))) s040) <|
        oMv g040 s007))))) <|
    cReg 3 (
     oSeq (oMv g006 s015) <|
     oSeq (oP (vAdd g015 (kc (.int .i64 1))) s016) <|
     oMv g016 s006)))⟩
noncomputable def ffn79 : FFn := ⟨2, 17, [(4, none)],
  cSeq (cReg 1 (
   oMv (kc (.bool false)) s004)) <|
  cSeq (cReg 13 (
   oSeq (oMv g000 s005) <|
   oSeq (oCallF 108 (fun T => [g005 T]) s006) <|
   oSeq (oMv g006 s007) <|
   oSeq (oGuard g007 true s010 (oMv g001 s010)) <|
   oSeq (oGuard g007 true s011 (oCallF 108 (fun T => [g010 T]) s011)) <|
   oSeq (oGuard g007 true s012 (oGen (.un .not (.t 9)) 5 s012)) <|
   oSeq (oP (vPick g007 g012 (kc (.bool false))) s013) <|
   oSeq (oMv g013 s014) <|
   oSeq (oGuard g014 false s015 (oMv g000 s015)) <|
   oSeq (oGuard g014 false s016 (oMv g001 s016)) <|
   oSeq (oGuard g014 false s017 (oP (vLss g015 g016) s017)) <|
   oSeq (oP (vPick g014 (kc (.bool true)) g017) s020) <|
   oMv g020 s004)) <|
  cExit 0⟩
noncomputable def ffn108 : FFn := ⟨1, 6, [(2, none)],
  cSeq (cReg 1 (
   oMv (kc (.bool false)) s002)) <|
  cSeq (cReg 4 (
   oSeq (oMv g000 s003) <|
   oSeq (oMv g000 s004) <|
   oSeq (oP (vNeq g003 g004) s005) <|
   oMv g005 s002)) <|
  cExit 0⟩
noncomputable def ffn16 : FFn := ⟨2, 27, [(3, none)],
  cSeq (cReg 1 (
   oMv (kc .nilSl) s003)) <|
  cSeq (cReg 5 (
   oSeq (oMv g000 s007) <|
   oSeq (oP (vIdx 2 g007 (kc (.int .i64 0))) s010) <|
   oSeq (oLoadN 2 g010 s011) <|
   oSeq (oBuildSlice 50 2 [(.bool false), .nilSl] 1 [((0, 2), g011)] 3 s012) <|
   oMv g012 s004)) <|
  cSeq (cSeq (cReg 3 (
   oSeq (oLoad g001 s013) <|
   oSeq (oP (vLen g013) s014) <|
   oMv (kc (.int .i64 0)) s015)) <|
  cBlock 1 (cLoop 1000000 (cSeq (cReg 1 (
     oP (vLss g015 g014) s016)) <|
    cSeq (cCond g016
     (cSkip)
     (cExit 1)) <|
    cSeq (cBlock 3 (cSeq (cReg 3 (
      oSeq (oP (vIdx 1 g013 g015) s017) <|
      oSeq (oLoad g017 s020) <|
      oMv g020 s006)) <|
     cReg 9 (
      oSeq (oMv g004 s021) <|
      oSeq (oMv g000 s022) <|
      oSeq (oMv g006 s023) <|
      oSeq (oP (vAdd g023 (kc (.int .i64 1))) s024) <|
      oSeq (oP (vIdx 2 g022 g024) s025) <|
      oSeq (oLoadN 2 g025 s026) <|
      oSeq (oBuildSlice 50 2 [(.bool false), .nilSl] 1 [((0, 2), g026)] 6 s027) <|
      oSeq (oGen (.append 2 32 50 [(.bool false), .nilSl] (.t 17) (.t 23)) 7 s030) <|
      oMv g030 s004))) <|
    cReg 2 (
     oSeq (oP (vAdd g015 (kc (.int .i64 1))) s031) <|
     oMv g031 s015)))) <|
  cSeq (cReg 2 (
   oSeq (oMv g004 s032) <|
   oMv g032 s003)) <|
  cExit 0⟩
noncomputable def ffn8 : FFn := ⟨1, 8, [(2, (some (some 3))), (3, none)],
  cSeq (cReg 2 (
   oSeq (oAlloc 26 [(.int .i64 0), .nilSl, .nilSl] 0 s002) <|
   oMv (kc (.int .i64 0)) s003)) <|
  cSeq (cReg 6 (
   oSeq (oMv g000 s004) <|
   oSeq (oCallF 17 (fun T => [g004 T, .nilSl]) s005) <|
   oSeq (oP (vExt 0 g005) s006) <|
   oSeq (oP (vExt 1 g005) s007) <|
   oSeq (oStoreN 3 g002 g006 noPut) <|
   oMv g007 s003)) <|
  cExit 0⟩
end Go.Proofs.YtihcmbhankddkadGreat.Ev
