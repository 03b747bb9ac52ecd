/-
  The table of those calls.
-/
import Derived.Test.YtmchbjommpmlkaaGreatMe0
import Derived.Test.YtmchbjommpmlkaaGreatMe1
import Derived.Test.YtmchbjommpmlkaaGreatOk
namespace Go.Proofs.YtmchbjommpmlkaaGreat.Ev
open Go
set_option maxRecDepth 1000000
set_option linter.all false
def mes_0 : List ME := []
def metree_0 : MTree := .leaf
noncomputable def runM_0 (b : Nat) : CalK := fcalM (Q4.get afntab) (Q4.get ffntab) (mtab mes_0 metree_0 b) 1000000 (199 + 1)
def mes_1 : List ME := [me_1_0, me_1_1]
def metree_1 : MTree := (.node (.node .leaf 32043 1 .leaf) 42463 0 .leaf)
noncomputable def runM_1 (b : Nat) : CalK := fcalM (Q4.get afntab) (Q4.get ffntab) (mtab mes_1 metree_1 b) 1000000 (199 + 1)
def mes_2 : List ME := [me_2_0, me_2_1, me_2_2, me_2_3, me_2_4, me_2_5, me_2_6]
def metree_2 : MTree := (.node (.node (.node .leaf 33320 0 .leaf) 79432 6 (.node .leaf 115436 3 .leaf)) 125844 1 (.node (.node .leaf 213844 2 .leaf) 285902 5 (.node .leaf 329961 4 .leaf)))
noncomputable def runM_2 (b : Nat) : CalK := fcalM (Q4.get afntab) (Q4.get ffntab) (mtab mes_2 metree_2 b) 1000000 (199 + 1)
def mes_3 : List ME := [me_3_0, me_3_1, me_3_2, me_3_3, me_3_4, me_3_5, me_3_6, me_3_7, me_3_8, me_3_9, me_3_10, me_3_11, me_3_12, me_3_13, me_3_14, me_3_15, me_3_16, me_3_17, me_3_18, me_3_19, me_3_20, me_3_21, me_3_22, me_3_23, me_3_24, me_3_25]
def metree_3 : MTree := (.node (.node (.node (.node (.node .leaf 169 0 .leaf) 58652 2 (.node .leaf 60027 1 .leaf)) 157031 24 (.node (.node .leaf 176593 3 .leaf) 245200 16 .leaf)) 245206 9 (.node (.node (.node .leaf 263331 8 .leaf) 296457 4 (.node .leaf 310191 5 .leaf)) 353774 6 (.node (.node .leaf 360631 7 .leaf) 382176 10 .leaf))) 467682 12 (.node (.node (.node (.node .leaf 467690 11 .leaf) 553400 14 (.node .leaf 553408 13 .leaf)) 639330 15 (.node (.node .leaf 726386 21 .leaf) 766332 17 .leaf)) 773196 18 (.node (.node (.node .leaf 816754 19 .leaf) 823611 20 .leaf) 830712 22 (.node (.node .leaf 899283 23 .leaf) 985903 25 .leaf))))
noncomputable def runM_3 (b : Nat) : CalK := fcalM (Q4.get afntab) (Q4.get ffntab) (mtab mes_3 metree_3 b) 1000000 (199 + 1)
def mes_4 : List ME := [me_4_0, me_4_1, me_4_2, me_4_3, me_4_4, me_4_5, me_4_6, me_4_7, me_4_8, me_4_9, me_4_10, me_4_11, me_4_12, me_4_13, me_4_14, me_4_15, me_4_16, me_4_17, me_4_18, me_4_19, me_4_20, me_4_21, me_4_22, me_4_23, me_4_24, me_4_25, me_4_26, me_4_27, me_4_28, me_4_29, me_4_30, me_4_31, me_4_32, me_4_33, me_4_34, me_4_35, me_4_36, me_4_37, me_4_38, me_4_39, me_4_40, me_4_41, me_4_42, me_4_43, me_4_44, me_4_45, me_4_46, me_4_47, me_4_48, me_4_49, me_4_50, me_4_51, me_4_52, me_4_53, me_4_54, me_4_55, me_4_56, me_4_57, me_4_58, me_4_59, me_4_60, me_4_61, me_4_62, me_4_63, me_4_64, me_4_65, me_4_66, me_4_67, me_4_68, me_4_69, me_4_70, me_4_71, me_4_72, me_4_73, me_4_74, me_4_75, me_4_76, me_4_77, me_4_78, me_4_79, me_4_80, me_4_81, me_4_82, me_4_83, me_4_84, me_4_85, me_4_86, me_4_87, me_4_88, me_4_89, me_4_90, me_4_91, me_4_92, me_4_93, me_4_94, me_4_95, me_4_96, me_4_97, me_4_98, me_4_99, me_4_100, me_4_101, me_4_102]
def metree_4 : MTree := (.node (.node (.node (.node (.node (.node (.node .leaf 4927 0 .leaf) 91142 4 (.node .leaf 100789 1 .leaf)) 152947 2 (.node (.node .leaf 200575 3 .leaf) 271647 12 .leaf)) 301284 11 (.node (.node (.node .leaf 350802 5 .leaf) 373530 6 .leaf) 390533 7 (.node (.node .leaf 404760 8 .leaf) 413258 9 .leaf))) 421756 10 (.node (.node (.node (.node .leaf 448321 69 .leaf) 448411 29 (.node .leaf 476380 28 .leaf)) 512705 13 (.node (.node .leaf 543962 14 .leaf) 552467 15 .leaf)) 566705 16 (.node (.node (.node .leaf 575216 17 .leaf) 583721 18 .leaf) 592219 19 (.node (.node .leaf 606457 20 .leaf) 614972 21 .leaf)))) 623470 22 (.node (.node (.node (.node (.node .leaf 631968 23 .leaf) 646195 24 (.node .leaf 654693 25 .leaf)) 663191 26 (.node (.node .leaf 671689 27 .leaf) 702750 37 .leaf)) 702758 36 (.node (.node (.node .leaf 752276 30 .leaf) 775004 31 .leaf) 792007 32 (.node (.node .leaf 806234 33 .leaf) 814732 34 .leaf))) 823230 35 (.node (.node (.node (.node .leaf 874075 45 .leaf) 874083 44 (.node .leaf 923601 38 .leaf)) 946329 39 (.node (.node .leaf 963332 40 .leaf) 977559 41 .leaf)) 986057 42 (.node (.node (.node .leaf 994555 43 .leaf) 1045604 53 .leaf) 1045612 52 (.node (.node .leaf 1095130 46 .leaf) 1117858 47 .leaf))))) 1134861 48 (.node (.node (.node (.node (.node (.node .leaf 1149088 49 .leaf) 1157586 50 (.node .leaf 1166084 51 .leaf)) 1217337 61 (.node (.node .leaf 1217345 60 .leaf) 1266863 54 .leaf)) 1289591 55 (.node (.node (.node .leaf 1306594 56 .leaf) 1320821 57 .leaf) 1329319 58 (.node (.node .leaf 1337817 59 .leaf) 1389282 68 .leaf))) 1438800 62 (.node (.node (.node (.node .leaf 1461528 63 .leaf) 1478531 64 (.node .leaf 1492758 65 .leaf)) 1501256 66 (.node (.node .leaf 1509754 67 .leaf) 1563116 85 .leaf)) 1599416 70 (.node (.node (.node .leaf 1630648 71 .leaf) 1639153 72 .leaf) 1653376 73 (.node (.node .leaf 1661877 74 .leaf) 1670382 75 .leaf)))) 1678880 76 (.node (.node (.node (.node (.node .leaf 1693103 77 .leaf) 1701608 78 (.node .leaf 1710106 79 .leaf)) 1718604 80 (.node (.node .leaf 1732831 81 .leaf) 1741329 82 .leaf)) 1749827 83 (.node (.node (.node .leaf 1758325 84 .leaf) 1767122 100 .leaf) 1767141 92 (.node (.node .leaf 1816659 86 .leaf) 1839387 87 .leaf))) 1856390 88 (.node (.node (.node (.node .leaf 1870617 89 .leaf) 1879115 90 (.node .leaf 1887613 91 .leaf)) 1914226 99 (.node (.node .leaf 1963744 93 .leaf) 1986472 94 .leaf)) 2003475 95 (.node (.node (.node .leaf 2017702 96 .leaf) 2026200 97 .leaf) 2034698 98 (.node (.node .leaf 2080302 102 .leaf) 2085911 101 .leaf))))))
noncomputable def runM_4 (b : Nat) : CalK := fcalM (Q4.get afntab) (Q4.get ffntab) (mtab mes_4 metree_4 b) 1000000 (199 + 1)
def mes_5 : List ME := []
def metree_5 : MTree := .leaf
noncomputable def runM_5 (b : Nat) : CalK := fcalM (Q4.get afntab) (Q4.get ffntab) (mtab mes_5 metree_5 b) 1000000 (199 + 1)
def mes_6 : List ME := []
def metree_6 : MTree := .leaf
noncomputable def runM_6 (b : Nat) : CalK := fcalM (Q4.get afntab) (Q4.get ffntab) (mtab mes_6 metree_6 b) 1000000 (199 + 1)
def mes_7 : List ME := []
def metree_7 : MTree := .leaf
noncomputable def runM_7 (b : Nat) : CalK := fcalM (Q4.get afntab) (Q4.get ffntab) (mtab mes_7 metree_7 b) 1000000 (199 + 1)
def mes_8 : List ME := []
def metree_8 : MTree := .leaf
noncomputable def runM_8 (b : Nat) : CalK := fcalM (Q4.get afntab) (Q4.get ffntab) (mtab mes_8 metree_8 b) 1000000 (199 + 1)
end Go.Proofs.YtmchbjommpmlkaaGreat.Ev
