/-
  The law's run, whole.
-/
import Derived.Test.YtmchbjommpmlkaaGreatR0
import Derived.Test.YtmchbjommpmlkaaGreatR1
import Derived.Test.YtmchbjommpmlkaaGreatR2
import Derived.Test.YtmchbjommpmlkaaGreatR3
import Derived.Test.YtmchbjommpmlkaaGreatR4
import Derived.Test.YtmchbjommpmlkaaGreatR5
import Derived.Test.YtmchbjommpmlkaaGreatR6
import Derived.Test.YtmchbjommpmlkaaGreatR7
import Derived.Test.YtmchbjommpmlkaaGreatR8
import Derived.Test.YtmchbjommpmlkaaGreatRz
import Derived.Test.YtmchbjommpmlkaaGreatChecked
namespace Go.Proofs.YtmchbjommpmlkaaGreat.Ev
open Go
set_option maxRecDepth 1000000
set_option linter.all false
theorem all_0_0 : AllV Tryz.prog mes_0 0 := AllV.zero
theorem all_1_0 : AllV Tryz.prog mes_1 0 := AllV.zero
theorem all_1_1 : AllV Tryz.prog mes_1 1 := all_1_0.next (Checked.mixed Tryz.checked) tabOK ftabOK me_1_0 rfl run_1_0
theorem all_1_2 : AllV Tryz.prog mes_1 2 := all_1_1.next (Checked.mixed Tryz.checked) tabOK ftabOK me_1_1 rfl run_1_1
theorem all_2_0 : AllV Tryz.prog mes_2 0 := AllV.zero
theorem all_2_1 : AllV Tryz.prog mes_2 1 := all_2_0.next (Checked.mixed Tryz.checked) tabOK ftabOK me_2_0 rfl run_2_0
theorem all_2_2 : AllV Tryz.prog mes_2 2 := all_2_1.next (Checked.mixed Tryz.checked) tabOK ftabOK me_2_1 rfl run_2_1
theorem all_2_3 : AllV Tryz.prog mes_2 3 := all_2_2.next (Checked.mixed Tryz.checked) tabOK ftabOK me_2_2 rfl run_2_2
theorem all_2_4 : AllV Tryz.prog mes_2 4 := all_2_3.next (Checked.mixed Tryz.checked) tabOK ftabOK me_2_3 rfl run_2_3
theorem all_2_5 : AllV Tryz.prog mes_2 5 := all_2_4.next (Checked.mixed Tryz.checked) tabOK ftabOK me_2_4 rfl run_2_4
theorem all_2_6 : AllV Tryz.prog mes_2 6 := all_2_5.next (Checked.mixed Tryz.checked) tabOK ftabOK me_2_5 rfl run_2_5
theorem all_2_7 : AllV Tryz.prog mes_2 7 := all_2_6.next (Checked.mixed Tryz.checked) tabOK ftabOK me_2_6 rfl run_2_6
theorem all_3_0 : AllV Tryz.prog mes_3 0 := AllV.zero
theorem all_3_1 : AllV Tryz.prog mes_3 1 := all_3_0.next (Checked.mixed Tryz.checked) tabOK ftabOK me_3_0 rfl run_3_0
theorem all_3_2 : AllV Tryz.prog mes_3 2 := all_3_1.next (Checked.mixed Tryz.checked) tabOK ftabOK me_3_1 rfl run_3_1
theorem all_3_3 : AllV Tryz.prog mes_3 3 := all_3_2.next (Checked.mixed Tryz.checked) tabOK ftabOK me_3_2 rfl run_3_2
theorem all_3_4 : AllV Tryz.prog mes_3 4 := all_3_3.next (Checked.mixed Tryz.checked) tabOK ftabOK me_3_3 rfl run_3_3
theorem all_3_5 : AllV Tryz.prog mes_3 5 := all_3_4.next (Checked.mixed Tryz.checked) tabOK ftabOK me_3_4 rfl run_3_4
theorem all_3_6 : AllV Tryz.prog mes_3 6 := all_3_5.next (Checked.mixed Tryz.checked) tabOK ftabOK me_3_5 rfl run_3_5
theorem all_3_7 : AllV Tryz.prog mes_3 7 := all_3_6.next (Checked.mixed Tryz.checked) tabOK ftabOK me_3_6 rfl run_3_6
theorem all_3_8 : AllV Tryz.prog mes_3 8 := all_3_7.next (Checked.mixed Tryz.checked) tabOK ftabOK me_3_7 rfl run_3_7
theorem all_3_9 : AllV Tryz.prog mes_3 9 := all_3_8.next (Checked.mixed Tryz.checked) tabOK ftabOK me_3_8 rfl run_3_8
theorem all_3_10 : AllV Tryz.prog mes_3 10 := all_3_9.next (Checked.mixed Tryz.checked) tabOK ftabOK me_3_9 rfl run_3_9
theorem all_3_11 : AllV Tryz.prog mes_3 11 := all_3_10.next (Checked.mixed Tryz.checked) tabOK ftabOK me_3_10 rfl run_3_10
theorem all_3_12 : AllV Tryz.prog mes_3 12 := all_3_11.next (Checked.mixed Tryz.checked) tabOK ftabOK me_3_11 rfl run_3_11
theorem all_3_13 : AllV Tryz.prog mes_3 13 := all_3_12.next (Checked.mixed Tryz.checked) tabOK ftabOK me_3_12 rfl run_3_12
theorem all_3_14 : AllV Tryz.prog mes_3 14 := all_3_13.next (Checked.mixed Tryz.checked) tabOK ftabOK me_3_13 rfl run_3_13
theorem all_3_15 : AllV Tryz.prog mes_3 15 := all_3_14.next (Checked.mixed Tryz.checked) tabOK ftabOK me_3_14 rfl run_3_14
theorem all_3_16 : AllV Tryz.prog mes_3 16 := all_3_15.next (Checked.mixed Tryz.checked) tabOK ftabOK me_3_15 rfl run_3_15
theorem all_3_17 : AllV Tryz.prog mes_3 17 := all_3_16.next (Checked.mixed Tryz.checked) tabOK ftabOK me_3_16 rfl run_3_16
theorem all_3_18 : AllV Tryz.prog mes_3 18 := all_3_17.next (Checked.mixed Tryz.checked) tabOK ftabOK me_3_17 rfl run_3_17
theorem all_3_19 : AllV Tryz.prog mes_3 19 := all_3_18.next (Checked.mixed Tryz.checked) tabOK ftabOK me_3_18 rfl run_3_18
theorem all_3_20 : AllV Tryz.prog mes_3 20 := all_3_19.next (Checked.mixed Tryz.checked) tabOK ftabOK me_3_19 rfl run_3_19
theorem all_3_21 : AllV Tryz.prog mes_3 21 := all_3_20.next (Checked.mixed Tryz.checked) tabOK ftabOK me_3_20 rfl run_3_20
theorem all_3_22 : AllV Tryz.prog mes_3 22 := all_3_21.next (Checked.mixed Tryz.checked) tabOK ftabOK me_3_21 rfl run_3_21
theorem all_3_23 : AllV Tryz.prog mes_3 23 := all_3_22.next (Checked.mixed Tryz.checked) tabOK ftabOK me_3_22 rfl run_3_22
theorem all_3_24 : AllV Tryz.prog mes_3 24 := all_3_23.next (Checked.mixed Tryz.checked) tabOK ftabOK me_3_23 rfl run_3_23
theorem all_3_25 : AllV Tryz.prog mes_3 25 := all_3_24.next (Checked.mixed Tryz.checked) tabOK ftabOK me_3_24 rfl run_3_24
theorem all_3_26 : AllV Tryz.prog mes_3 26 := all_3_25.next (Checked.mixed Tryz.checked) tabOK ftabOK me_3_25 rfl run_3_25
theorem all_4_0 : AllV Tryz.prog mes_4 0 := AllV.zero
theorem all_4_1 : AllV Tryz.prog mes_4 1 := all_4_0.next (Checked.mixed Tryz.checked) tabOK ftabOK me_4_0 rfl run_4_0
theorem all_4_2 : AllV Tryz.prog mes_4 2 := all_4_1.next (Checked.mixed Tryz.checked) tabOK ftabOK me_4_1 rfl run_4_1
theorem all_4_3 : AllV Tryz.prog mes_4 3 := all_4_2.next (Checked.mixed Tryz.checked) tabOK ftabOK me_4_2 rfl run_4_2
theorem all_4_4 : AllV Tryz.prog mes_4 4 := all_4_3.next (Checked.mixed Tryz.checked) tabOK ftabOK me_4_3 rfl run_4_3
theorem all_4_5 : AllV Tryz.prog mes_4 5 := all_4_4.next (Checked.mixed Tryz.checked) tabOK ftabOK me_4_4 rfl run_4_4
theorem all_4_6 : AllV Tryz.prog mes_4 6 := all_4_5.next (Checked.mixed Tryz.checked) tabOK ftabOK me_4_5 rfl run_4_5
theorem all_4_7 : AllV Tryz.prog mes_4 7 := all_4_6.next (Checked.mixed Tryz.checked) tabOK ftabOK me_4_6 rfl run_4_6
theorem all_4_8 : AllV Tryz.prog mes_4 8 := all_4_7.next (Checked.mixed Tryz.checked) tabOK ftabOK me_4_7 rfl run_4_7
theorem all_4_9 : AllV Tryz.prog mes_4 9 := all_4_8.next (Checked.mixed Tryz.checked) tabOK ftabOK me_4_8 rfl run_4_8
theorem all_4_10 : AllV Tryz.prog mes_4 10 := all_4_9.next (Checked.mixed Tryz.checked) tabOK ftabOK me_4_9 rfl run_4_9
theorem all_4_11 : AllV Tryz.prog mes_4 11 := all_4_10.next (Checked.mixed Tryz.checked) tabOK ftabOK me_4_10 rfl run_4_10
theorem all_4_12 : AllV Tryz.prog mes_4 12 := all_4_11.next (Checked.mixed Tryz.checked) tabOK ftabOK me_4_11 rfl run_4_11
theorem all_4_13 : AllV Tryz.prog mes_4 13 := all_4_12.next (Checked.mixed Tryz.checked) tabOK ftabOK me_4_12 rfl run_4_12
theorem all_4_14 : AllV Tryz.prog mes_4 14 := all_4_13.next (Checked.mixed Tryz.checked) tabOK ftabOK me_4_13 rfl run_4_13
theorem all_4_15 : AllV Tryz.prog mes_4 15 := all_4_14.next (Checked.mixed Tryz.checked) tabOK ftabOK me_4_14 rfl run_4_14
theorem all_4_16 : AllV Tryz.prog mes_4 16 := all_4_15.next (Checked.mixed Tryz.checked) tabOK ftabOK me_4_15 rfl run_4_15
theorem all_4_17 : AllV Tryz.prog mes_4 17 := all_4_16.next (Checked.mixed Tryz.checked) tabOK ftabOK me_4_16 rfl run_4_16
theorem all_4_18 : AllV Tryz.prog mes_4 18 := all_4_17.next (Checked.mixed Tryz.checked) tabOK ftabOK me_4_17 rfl run_4_17
theorem all_4_19 : AllV Tryz.prog mes_4 19 := all_4_18.next (Checked.mixed Tryz.checked) tabOK ftabOK me_4_18 rfl run_4_18
theorem all_4_20 : AllV Tryz.prog mes_4 20 := all_4_19.next (Checked.mixed Tryz.checked) tabOK ftabOK me_4_19 rfl run_4_19
theorem all_4_21 : AllV Tryz.prog mes_4 21 := all_4_20.next (Checked.mixed Tryz.checked) tabOK ftabOK me_4_20 rfl run_4_20
theorem all_4_22 : AllV Tryz.prog mes_4 22 := all_4_21.next (Checked.mixed Tryz.checked) tabOK ftabOK me_4_21 rfl run_4_21
theorem all_4_23 : AllV Tryz.prog mes_4 23 := all_4_22.next (Checked.mixed Tryz.checked) tabOK ftabOK me_4_22 rfl run_4_22
theorem all_4_24 : AllV Tryz.prog mes_4 24 := all_4_23.next (Checked.mixed Tryz.checked) tabOK ftabOK me_4_23 rfl run_4_23
theorem all_4_25 : AllV Tryz.prog mes_4 25 := all_4_24.next (Checked.mixed Tryz.checked) tabOK ftabOK me_4_24 rfl run_4_24
theorem all_4_26 : AllV Tryz.prog mes_4 26 := all_4_25.next (Checked.mixed Tryz.checked) tabOK ftabOK me_4_25 rfl run_4_25
theorem all_4_27 : AllV Tryz.prog mes_4 27 := all_4_26.next (Checked.mixed Tryz.checked) tabOK ftabOK me_4_26 rfl run_4_26
theorem all_4_28 : AllV Tryz.prog mes_4 28 := all_4_27.next (Checked.mixed Tryz.checked) tabOK ftabOK me_4_27 rfl run_4_27
theorem all_4_29 : AllV Tryz.prog mes_4 29 := all_4_28.next (Checked.mixed Tryz.checked) tabOK ftabOK me_4_28 rfl run_4_28
theorem all_4_30 : AllV Tryz.prog mes_4 30 := all_4_29.next (Checked.mixed Tryz.checked) tabOK ftabOK me_4_29 rfl run_4_29
theorem all_4_31 : AllV Tryz.prog mes_4 31 := all_4_30.next (Checked.mixed Tryz.checked) tabOK ftabOK me_4_30 rfl run_4_30
theorem all_4_32 : AllV Tryz.prog mes_4 32 := all_4_31.next (Checked.mixed Tryz.checked) tabOK ftabOK me_4_31 rfl run_4_31
theorem all_4_33 : AllV Tryz.prog mes_4 33 := all_4_32.next (Checked.mixed Tryz.checked) tabOK ftabOK me_4_32 rfl run_4_32
theorem all_4_34 : AllV Tryz.prog mes_4 34 := all_4_33.next (Checked.mixed Tryz.checked) tabOK ftabOK me_4_33 rfl run_4_33
theorem all_4_35 : AllV Tryz.prog mes_4 35 := all_4_34.next (Checked.mixed Tryz.checked) tabOK ftabOK me_4_34 rfl run_4_34
theorem all_4_36 : AllV Tryz.prog mes_4 36 := all_4_35.next (Checked.mixed Tryz.checked) tabOK ftabOK me_4_35 rfl run_4_35
theorem all_4_37 : AllV Tryz.prog mes_4 37 := all_4_36.next (Checked.mixed Tryz.checked) tabOK ftabOK me_4_36 rfl run_4_36
theorem all_4_38 : AllV Tryz.prog mes_4 38 := all_4_37.next (Checked.mixed Tryz.checked) tabOK ftabOK me_4_37 rfl run_4_37
theorem all_4_39 : AllV Tryz.prog mes_4 39 := all_4_38.next (Checked.mixed Tryz.checked) tabOK ftabOK me_4_38 rfl run_4_38
theorem all_4_40 : AllV Tryz.prog mes_4 40 := all_4_39.next (Checked.mixed Tryz.checked) tabOK ftabOK me_4_39 rfl run_4_39
theorem all_4_41 : AllV Tryz.prog mes_4 41 := all_4_40.next (Checked.mixed Tryz.checked) tabOK ftabOK me_4_40 rfl run_4_40
theorem all_4_42 : AllV Tryz.prog mes_4 42 := all_4_41.next (Checked.mixed Tryz.checked) tabOK ftabOK me_4_41 rfl run_4_41
theorem all_4_43 : AllV Tryz.prog mes_4 43 := all_4_42.next (Checked.mixed Tryz.checked) tabOK ftabOK me_4_42 rfl run_4_42
theorem all_4_44 : AllV Tryz.prog mes_4 44 := all_4_43.next (Checked.mixed Tryz.checked) tabOK ftabOK me_4_43 rfl run_4_43
theorem all_4_45 : AllV Tryz.prog mes_4 45 := all_4_44.next (Checked.mixed Tryz.checked) tabOK ftabOK me_4_44 rfl run_4_44
theorem all_4_46 : AllV Tryz.prog mes_4 46 := all_4_45.next (Checked.mixed Tryz.checked) tabOK ftabOK me_4_45 rfl run_4_45
theorem all_4_47 : AllV Tryz.prog mes_4 47 := all_4_46.next (Checked.mixed Tryz.checked) tabOK ftabOK me_4_46 rfl run_4_46
theorem all_4_48 : AllV Tryz.prog mes_4 48 := all_4_47.next (Checked.mixed Tryz.checked) tabOK ftabOK me_4_47 rfl run_4_47
theorem all_4_49 : AllV Tryz.prog mes_4 49 := all_4_48.next (Checked.mixed Tryz.checked) tabOK ftabOK me_4_48 rfl run_4_48
theorem all_4_50 : AllV Tryz.prog mes_4 50 := all_4_49.next (Checked.mixed Tryz.checked) tabOK ftabOK me_4_49 rfl run_4_49
theorem all_4_51 : AllV Tryz.prog mes_4 51 := all_4_50.next (Checked.mixed Tryz.checked) tabOK ftabOK me_4_50 rfl run_4_50
theorem all_4_52 : AllV Tryz.prog mes_4 52 := all_4_51.next (Checked.mixed Tryz.checked) tabOK ftabOK me_4_51 rfl run_4_51
theorem all_4_53 : AllV Tryz.prog mes_4 53 := all_4_52.next (Checked.mixed Tryz.checked) tabOK ftabOK me_4_52 rfl run_4_52
theorem all_4_54 : AllV Tryz.prog mes_4 54 := all_4_53.next (Checked.mixed Tryz.checked) tabOK ftabOK me_4_53 rfl run_4_53
theorem all_4_55 : AllV Tryz.prog mes_4 55 := all_4_54.next (Checked.mixed Tryz.checked) tabOK ftabOK me_4_54 rfl run_4_54
theorem all_4_56 : AllV Tryz.prog mes_4 56 := all_4_55.next (Checked.mixed Tryz.checked) tabOK ftabOK me_4_55 rfl run_4_55
theorem all_4_57 : AllV Tryz.prog mes_4 57 := all_4_56.next (Checked.mixed Tryz.checked) tabOK ftabOK me_4_56 rfl run_4_56
theorem all_4_58 : AllV Tryz.prog mes_4 58 := all_4_57.next (Checked.mixed Tryz.checked) tabOK ftabOK me_4_57 rfl run_4_57
theorem all_4_59 : AllV Tryz.prog mes_4 59 := all_4_58.next (Checked.mixed Tryz.checked) tabOK ftabOK me_4_58 rfl run_4_58
theorem all_4_60 : AllV Tryz.prog mes_4 60 := all_4_59.next (Checked.mixed Tryz.checked) tabOK ftabOK me_4_59 rfl run_4_59
theorem all_4_61 : AllV Tryz.prog mes_4 61 := all_4_60.next (Checked.mixed Tryz.checked) tabOK ftabOK me_4_60 rfl run_4_60
theorem all_4_62 : AllV Tryz.prog mes_4 62 := all_4_61.next (Checked.mixed Tryz.checked) tabOK ftabOK me_4_61 rfl run_4_61
theorem all_4_63 : AllV Tryz.prog mes_4 63 := all_4_62.next (Checked.mixed Tryz.checked) tabOK ftabOK me_4_62 rfl run_4_62
theorem all_4_64 : AllV Tryz.prog mes_4 64 := all_4_63.next (Checked.mixed Tryz.checked) tabOK ftabOK me_4_63 rfl run_4_63
theorem all_4_65 : AllV Tryz.prog mes_4 65 := all_4_64.next (Checked.mixed Tryz.checked) tabOK ftabOK me_4_64 rfl run_4_64
theorem all_4_66 : AllV Tryz.prog mes_4 66 := all_4_65.next (Checked.mixed Tryz.checked) tabOK ftabOK me_4_65 rfl run_4_65
theorem all_4_67 : AllV Tryz.prog mes_4 67 := all_4_66.next (Checked.mixed Tryz.checked) tabOK ftabOK me_4_66 rfl run_4_66
theorem all_4_68 : AllV Tryz.prog mes_4 68 := all_4_67.next (Checked.mixed Tryz.checked) tabOK ftabOK me_4_67 rfl run_4_67
theorem all_4_69 : AllV Tryz.prog mes_4 69 := all_4_68.next (Checked.mixed Tryz.checked) tabOK ftabOK me_4_68 rfl run_4_68
theorem all_4_70 : AllV Tryz.prog mes_4 70 := all_4_69.next (Checked.mixed Tryz.checked) tabOK ftabOK me_4_69 rfl run_4_69
theorem all_4_71 : AllV Tryz.prog mes_4 71 := all_4_70.next (Checked.mixed Tryz.checked) tabOK ftabOK me_4_70 rfl run_4_70
theorem all_4_72 : AllV Tryz.prog mes_4 72 := all_4_71.next (Checked.mixed Tryz.checked) tabOK ftabOK me_4_71 rfl run_4_71
theorem all_4_73 : AllV Tryz.prog mes_4 73 := all_4_72.next (Checked.mixed Tryz.checked) tabOK ftabOK me_4_72 rfl run_4_72
theorem all_4_74 : AllV Tryz.prog mes_4 74 := all_4_73.next (Checked.mixed Tryz.checked) tabOK ftabOK me_4_73 rfl run_4_73
theorem all_4_75 : AllV Tryz.prog mes_4 75 := all_4_74.next (Checked.mixed Tryz.checked) tabOK ftabOK me_4_74 rfl run_4_74
theorem all_4_76 : AllV Tryz.prog mes_4 76 := all_4_75.next (Checked.mixed Tryz.checked) tabOK ftabOK me_4_75 rfl run_4_75
theorem all_4_77 : AllV Tryz.prog mes_4 77 := all_4_76.next (Checked.mixed Tryz.checked) tabOK ftabOK me_4_76 rfl run_4_76
theorem all_4_78 : AllV Tryz.prog mes_4 78 := all_4_77.next (Checked.mixed Tryz.checked) tabOK ftabOK me_4_77 rfl run_4_77
theorem all_4_79 : AllV Tryz.prog mes_4 79 := all_4_78.next (Checked.mixed Tryz.checked) tabOK ftabOK me_4_78 rfl run_4_78
theorem all_4_80 : AllV Tryz.prog mes_4 80 := all_4_79.next (Checked.mixed Tryz.checked) tabOK ftabOK me_4_79 rfl run_4_79
theorem all_4_81 : AllV Tryz.prog mes_4 81 := all_4_80.next (Checked.mixed Tryz.checked) tabOK ftabOK me_4_80 rfl run_4_80
theorem all_4_82 : AllV Tryz.prog mes_4 82 := all_4_81.next (Checked.mixed Tryz.checked) tabOK ftabOK me_4_81 rfl run_4_81
theorem all_4_83 : AllV Tryz.prog mes_4 83 := all_4_82.next (Checked.mixed Tryz.checked) tabOK ftabOK me_4_82 rfl run_4_82
theorem all_4_84 : AllV Tryz.prog mes_4 84 := all_4_83.next (Checked.mixed Tryz.checked) tabOK ftabOK me_4_83 rfl run_4_83
theorem all_4_85 : AllV Tryz.prog mes_4 85 := all_4_84.next (Checked.mixed Tryz.checked) tabOK ftabOK me_4_84 rfl run_4_84
theorem all_4_86 : AllV Tryz.prog mes_4 86 := all_4_85.next (Checked.mixed Tryz.checked) tabOK ftabOK me_4_85 rfl run_4_85
theorem all_4_87 : AllV Tryz.prog mes_4 87 := all_4_86.next (Checked.mixed Tryz.checked) tabOK ftabOK me_4_86 rfl run_4_86
theorem all_4_88 : AllV Tryz.prog mes_4 88 := all_4_87.next (Checked.mixed Tryz.checked) tabOK ftabOK me_4_87 rfl run_4_87
theorem all_4_89 : AllV Tryz.prog mes_4 89 := all_4_88.next (Checked.mixed Tryz.checked) tabOK ftabOK me_4_88 rfl run_4_88
theorem all_4_90 : AllV Tryz.prog mes_4 90 := all_4_89.next (Checked.mixed Tryz.checked) tabOK ftabOK me_4_89 rfl run_4_89
theorem all_4_91 : AllV Tryz.prog mes_4 91 := all_4_90.next (Checked.mixed Tryz.checked) tabOK ftabOK me_4_90 rfl run_4_90
theorem all_4_92 : AllV Tryz.prog mes_4 92 := all_4_91.next (Checked.mixed Tryz.checked) tabOK ftabOK me_4_91 rfl run_4_91
theorem all_4_93 : AllV Tryz.prog mes_4 93 := all_4_92.next (Checked.mixed Tryz.checked) tabOK ftabOK me_4_92 rfl run_4_92
theorem all_4_94 : AllV Tryz.prog mes_4 94 := all_4_93.next (Checked.mixed Tryz.checked) tabOK ftabOK me_4_93 rfl run_4_93
theorem all_4_95 : AllV Tryz.prog mes_4 95 := all_4_94.next (Checked.mixed Tryz.checked) tabOK ftabOK me_4_94 rfl run_4_94
theorem all_4_96 : AllV Tryz.prog mes_4 96 := all_4_95.next (Checked.mixed Tryz.checked) tabOK ftabOK me_4_95 rfl run_4_95
theorem all_4_97 : AllV Tryz.prog mes_4 97 := all_4_96.next (Checked.mixed Tryz.checked) tabOK ftabOK me_4_96 rfl run_4_96
theorem all_4_98 : AllV Tryz.prog mes_4 98 := all_4_97.next (Checked.mixed Tryz.checked) tabOK ftabOK me_4_97 rfl run_4_97
theorem all_4_99 : AllV Tryz.prog mes_4 99 := all_4_98.next (Checked.mixed Tryz.checked) tabOK ftabOK me_4_98 rfl run_4_98
theorem all_4_100 : AllV Tryz.prog mes_4 100 := all_4_99.next (Checked.mixed Tryz.checked) tabOK ftabOK me_4_99 rfl run_4_99
theorem all_4_101 : AllV Tryz.prog mes_4 101 := all_4_100.next (Checked.mixed Tryz.checked) tabOK ftabOK me_4_100 rfl run_4_100
theorem all_4_102 : AllV Tryz.prog mes_4 102 := all_4_101.next (Checked.mixed Tryz.checked) tabOK ftabOK me_4_101 rfl run_4_101
theorem all_4_103 : AllV Tryz.prog mes_4 103 := all_4_102.next (Checked.mixed Tryz.checked) tabOK ftabOK me_4_102 rfl run_4_102
theorem all_5_0 : AllV Tryz.prog mes_5 0 := AllV.zero
theorem all_6_0 : AllV Tryz.prog mes_6 0 := AllV.zero
theorem all_7_0 : AllV Tryz.prog mes_7 0 := AllV.zero
theorem all_8_0 : AllV Tryz.prog mes_8 0 := AllV.zero
theorem law_calls_0 (w : World) : Calls Tryz.prog 3 #[.int .i64 0] w fun e w' => e = .returned (.bool true) ∧ w'.os = w.os ∧ w'.output = w.output ∧ w.heap.size ≤ w'.heap.size ∧ ∀ c, c < w.heap.size → w'.heap[c]? = w.heap[c]? := by
  obtain ⟨H', h⟩ := run_law_0
  exact closed_calls_int (Checked.mixed Tryz.checked) tabOK ftabOK all_0_0 (afn := afn3) (by kernel_rfl) (fgood_ext ok3.2 (by kernel_rfl)) (by kernel_rfl) h w
theorem law_calls_1 (w : World) : Calls Tryz.prog 3 #[.int .i64 1] w fun e w' => e = .returned (.bool true) ∧ w'.os = w.os ∧ w'.output = w.output ∧ w.heap.size ≤ w'.heap.size ∧ ∀ c, c < w.heap.size → w'.heap[c]? = w.heap[c]? := by
  obtain ⟨H', h⟩ := run_law_1
  exact closed_calls_int (Checked.mixed Tryz.checked) tabOK ftabOK all_1_2 (afn := afn3) (by kernel_rfl) (fgood_ext ok3.2 (by kernel_rfl)) (by kernel_rfl) h w
theorem law_calls_2 (w : World) : Calls Tryz.prog 3 #[.int .i64 2] w fun e w' => e = .returned (.bool true) ∧ w'.os = w.os ∧ w'.output = w.output ∧ w.heap.size ≤ w'.heap.size ∧ ∀ c, c < w.heap.size → w'.heap[c]? = w.heap[c]? := by
  obtain ⟨H', h⟩ := run_law_2
  exact closed_calls_int (Checked.mixed Tryz.checked) tabOK ftabOK all_2_7 (afn := afn3) (by kernel_rfl) (fgood_ext ok3.2 (by kernel_rfl)) (by kernel_rfl) h w
theorem law_calls_3 (w : World) : Calls Tryz.prog 3 #[.int .i64 3] w fun e w' => e = .returned (.bool true) ∧ w'.os = w.os ∧ w'.output = w.output ∧ w.heap.size ≤ w'.heap.size ∧ ∀ c, c < w.heap.size → w'.heap[c]? = w.heap[c]? := by
  obtain ⟨H', h⟩ := run_law_3
  exact closed_calls_int (Checked.mixed Tryz.checked) tabOK ftabOK all_3_26 (afn := afn3) (by kernel_rfl) (fgood_ext ok3.2 (by kernel_rfl)) (by kernel_rfl) h w
theorem law_calls_4 (w : World) : Calls Tryz.prog 3 #[.int .i64 4] w fun e w' => e = .returned (.bool true) ∧ w'.os = w.os ∧ w'.output = w.output ∧ w.heap.size ≤ w'.heap.size ∧ ∀ c, c < w.heap.size → w'.heap[c]? = w.heap[c]? := by
  obtain ⟨H', h⟩ := run_law_4
  exact closed_calls_int (Checked.mixed Tryz.checked) tabOK ftabOK all_4_103 (afn := afn3) (by kernel_rfl) (fgood_ext ok3.2 (by kernel_rfl)) (by kernel_rfl) h w
theorem law_calls_5 (w : World) : Calls Tryz.prog 3 #[.int .i64 5] w fun e w' => e = .returned (.bool true) ∧ w'.os = w.os ∧ w'.output = w.output ∧ w.heap.size ≤ w'.heap.size ∧ ∀ c, c < w.heap.size → w'.heap[c]? = w.heap[c]? := by
  obtain ⟨H', h⟩ := run_law_5
  exact closed_calls_int (Checked.mixed Tryz.checked) tabOK ftabOK all_5_0 (afn := afn3) (by kernel_rfl) (fgood_ext ok3.2 (by kernel_rfl)) (by kernel_rfl) h w
theorem law_calls_6 (w : World) : Calls Tryz.prog 3 #[.int .i64 6] w fun e w' => e = .returned (.bool true) ∧ w'.os = w.os ∧ w'.output = w.output ∧ w.heap.size ≤ w'.heap.size ∧ ∀ c, c < w.heap.size → w'.heap[c]? = w.heap[c]? := by
  obtain ⟨H', h⟩ := run_law_6
  exact closed_calls_int (Checked.mixed Tryz.checked) tabOK ftabOK all_6_0 (afn := afn3) (by kernel_rfl) (fgood_ext ok3.2 (by kernel_rfl)) (by kernel_rfl) h w
theorem law_calls_7 (w : World) : Calls Tryz.prog 3 #[.int .i64 7] w fun e w' => e = .returned (.bool true) ∧ w'.os = w.os ∧ w'.output = w.output ∧ w.heap.size ≤ w'.heap.size ∧ ∀ c, c < w.heap.size → w'.heap[c]? = w.heap[c]? := by
  obtain ⟨H', h⟩ := run_law_7
  exact closed_calls_int (Checked.mixed Tryz.checked) tabOK ftabOK all_7_0 (afn := afn3) (by kernel_rfl) (fgood_ext ok3.2 (by kernel_rfl)) (by kernel_rfl) h w
theorem law_calls_8 (w : World) : Calls Tryz.prog 3 #[.int .i64 8] w fun e w' => e = .returned (.bool true) ∧ w'.os = w.os ∧ w'.output = w.output ∧ w.heap.size ≤ w'.heap.size ∧ ∀ c, c < w.heap.size → w'.heap[c]? = w.heap[c]? := by
  obtain ⟨H', h⟩ := run_law_8
  exact closed_calls_int (Checked.mixed Tryz.checked) tabOK ftabOK all_8_0 (afn := afn3) (by kernel_rfl) (fgood_ext ok3.2 (by kernel_rfl)) (by kernel_rfl) h w
end Go.Proofs.YtmchbjommpmlkaaGreat.Ev
