/-
  The law's run, whole.
-/
import Derived.Test.YtihcmbhankddkadGreatR0
import Derived.Test.YtihcmbhankddkadGreatR1
import Derived.Test.YtihcmbhankddkadGreatR2
import Derived.Test.YtihcmbhankddkadGreatR3
import Derived.Test.YtihcmbhankddkadGreatR4
import Derived.Test.YtihcmbhankddkadGreatR5
import Derived.Test.YtihcmbhankddkadGreatR6
import Derived.Test.YtihcmbhankddkadGreatR7
import Derived.Test.YtihcmbhankddkadGreatR8
import Derived.Test.YtihcmbhankddkadGreatRz
import Derived.Test.YtihcmbhankddkadGreatChecked
namespace Go.Proofs.YtihcmbhankddkadGreat.Ev
open Go
set_option maxRecDepth 1000000
set_option linter.all false
theorem all0 : AllV Tryz.prog mes 0 := AllV.zero
theorem all1 : AllV Tryz.prog mes 1 := all0.next (Checked.mixed Tryz.checked) tabOK ftabOK me0 rfl run0
theorem all2 : AllV Tryz.prog mes 2 := all1.next (Checked.mixed Tryz.checked) tabOK ftabOK me1 rfl run1
theorem all3 : AllV Tryz.prog mes 3 := all2.next (Checked.mixed Tryz.checked) tabOK ftabOK me2 rfl run2
theorem all4 : AllV Tryz.prog mes 4 := all3.next (Checked.mixed Tryz.checked) tabOK ftabOK me3 rfl run3
theorem all5 : AllV Tryz.prog mes 5 := all4.next (Checked.mixed Tryz.checked) tabOK ftabOK me4 rfl run4
theorem all6 : AllV Tryz.prog mes 6 := all5.next (Checked.mixed Tryz.checked) tabOK ftabOK me5 rfl run5
theorem all7 : AllV Tryz.prog mes 7 := all6.next (Checked.mixed Tryz.checked) tabOK ftabOK me6 rfl run6
theorem all8 : AllV Tryz.prog mes 8 := all7.next (Checked.mixed Tryz.checked) tabOK ftabOK me7 rfl run7
theorem all9 : AllV Tryz.prog mes 9 := all8.next (Checked.mixed Tryz.checked) tabOK ftabOK me8 rfl run8
theorem all10 : AllV Tryz.prog mes 10 := all9.next (Checked.mixed Tryz.checked) tabOK ftabOK me9 rfl run9
theorem all11 : AllV Tryz.prog mes 11 := all10.next (Checked.mixed Tryz.checked) tabOK ftabOK me10 rfl run10
theorem all12 : AllV Tryz.prog mes 12 := all11.next (Checked.mixed Tryz.checked) tabOK ftabOK me11 rfl run11
theorem all13 : AllV Tryz.prog mes 13 := all12.next (Checked.mixed Tryz.checked) tabOK ftabOK me12 rfl run12
theorem all14 : AllV Tryz.prog mes 14 := all13.next (Checked.mixed Tryz.checked) tabOK ftabOK me13 rfl run13
theorem all15 : AllV Tryz.prog mes 15 := all14.next (Checked.mixed Tryz.checked) tabOK ftabOK me14 rfl run14
theorem all16 : AllV Tryz.prog mes 16 := all15.next (Checked.mixed Tryz.checked) tabOK ftabOK me15 rfl run15
theorem all17 : AllV Tryz.prog mes 17 := all16.next (Checked.mixed Tryz.checked) tabOK ftabOK me16 rfl run16
theorem all18 : AllV Tryz.prog mes 18 := all17.next (Checked.mixed Tryz.checked) tabOK ftabOK me17 rfl run17
theorem all19 : AllV Tryz.prog mes 19 := all18.next (Checked.mixed Tryz.checked) tabOK ftabOK me18 rfl run18
theorem all20 : AllV Tryz.prog mes 20 := all19.next (Checked.mixed Tryz.checked) tabOK ftabOK me19 rfl run19
theorem all21 : AllV Tryz.prog mes 21 := all20.next (Checked.mixed Tryz.checked) tabOK ftabOK me20 rfl run20
theorem all22 : AllV Tryz.prog mes 22 := all21.next (Checked.mixed Tryz.checked) tabOK ftabOK me21 rfl run21
theorem all23 : AllV Tryz.prog mes 23 := all22.next (Checked.mixed Tryz.checked) tabOK ftabOK me22 rfl run22
theorem all24 : AllV Tryz.prog mes 24 := all23.next (Checked.mixed Tryz.checked) tabOK ftabOK me23 rfl run23
theorem all25 : AllV Tryz.prog mes 25 := all24.next (Checked.mixed Tryz.checked) tabOK ftabOK me24 rfl run24
theorem all26 : AllV Tryz.prog mes 26 := all25.next (Checked.mixed Tryz.checked) tabOK ftabOK me25 rfl run25
theorem all27 : AllV Tryz.prog mes 27 := all26.next (Checked.mixed Tryz.checked) tabOK ftabOK me26 rfl run26
theorem all28 : AllV Tryz.prog mes 28 := all27.next (Checked.mixed Tryz.checked) tabOK ftabOK me27 rfl run27
theorem all29 : AllV Tryz.prog mes 29 := all28.next (Checked.mixed Tryz.checked) tabOK ftabOK me28 rfl run28
theorem all30 : AllV Tryz.prog mes 30 := all29.next (Checked.mixed Tryz.checked) tabOK ftabOK me29 rfl run29
theorem all31 : AllV Tryz.prog mes 31 := all30.next (Checked.mixed Tryz.checked) tabOK ftabOK me30 rfl run30
theorem all32 : AllV Tryz.prog mes 32 := all31.next (Checked.mixed Tryz.checked) tabOK ftabOK me31 rfl run31
theorem all33 : AllV Tryz.prog mes 33 := all32.next (Checked.mixed Tryz.checked) tabOK ftabOK me32 rfl run32
theorem all34 : AllV Tryz.prog mes 34 := all33.next (Checked.mixed Tryz.checked) tabOK ftabOK me33 rfl run33
theorem all35 : AllV Tryz.prog mes 35 := all34.next (Checked.mixed Tryz.checked) tabOK ftabOK me34 rfl run34
theorem all36 : AllV Tryz.prog mes 36 := all35.next (Checked.mixed Tryz.checked) tabOK ftabOK me35 rfl run35
theorem all37 : AllV Tryz.prog mes 37 := all36.next (Checked.mixed Tryz.checked) tabOK ftabOK me36 rfl run36
theorem all38 : AllV Tryz.prog mes 38 := all37.next (Checked.mixed Tryz.checked) tabOK ftabOK me37 rfl run37
theorem all39 : AllV Tryz.prog mes 39 := all38.next (Checked.mixed Tryz.checked) tabOK ftabOK me38 rfl run38
theorem all40 : AllV Tryz.prog mes 40 := all39.next (Checked.mixed Tryz.checked) tabOK ftabOK me39 rfl run39
theorem all41 : AllV Tryz.prog mes 41 := all40.next (Checked.mixed Tryz.checked) tabOK ftabOK me40 rfl run40
theorem all42 : AllV Tryz.prog mes 42 := all41.next (Checked.mixed Tryz.checked) tabOK ftabOK me41 rfl run41
theorem all43 : AllV Tryz.prog mes 43 := all42.next (Checked.mixed Tryz.checked) tabOK ftabOK me42 rfl run42
theorem all44 : AllV Tryz.prog mes 44 := all43.next (Checked.mixed Tryz.checked) tabOK ftabOK me43 rfl run43
theorem all45 : AllV Tryz.prog mes 45 := all44.next (Checked.mixed Tryz.checked) tabOK ftabOK me44 rfl run44
theorem all46 : AllV Tryz.prog mes 46 := all45.next (Checked.mixed Tryz.checked) tabOK ftabOK me45 rfl run45
theorem all47 : AllV Tryz.prog mes 47 := all46.next (Checked.mixed Tryz.checked) tabOK ftabOK me46 rfl run46
theorem all48 : AllV Tryz.prog mes 48 := all47.next (Checked.mixed Tryz.checked) tabOK ftabOK me47 rfl run47
theorem all49 : AllV Tryz.prog mes 49 := all48.next (Checked.mixed Tryz.checked) tabOK ftabOK me48 rfl run48
theorem all50 : AllV Tryz.prog mes 50 := all49.next (Checked.mixed Tryz.checked) tabOK ftabOK me49 rfl run49
theorem all51 : AllV Tryz.prog mes 51 := all50.next (Checked.mixed Tryz.checked) tabOK ftabOK me50 rfl run50
theorem all52 : AllV Tryz.prog mes 52 := all51.next (Checked.mixed Tryz.checked) tabOK ftabOK me51 rfl run51
theorem all53 : AllV Tryz.prog mes 53 := all52.next (Checked.mixed Tryz.checked) tabOK ftabOK me52 rfl run52
theorem all54 : AllV Tryz.prog mes 54 := all53.next (Checked.mixed Tryz.checked) tabOK ftabOK me53 rfl run53
theorem all55 : AllV Tryz.prog mes 55 := all54.next (Checked.mixed Tryz.checked) tabOK ftabOK me54 rfl run54
theorem all56 : AllV Tryz.prog mes 56 := all55.next (Checked.mixed Tryz.checked) tabOK ftabOK me55 rfl run55
theorem all57 : AllV Tryz.prog mes 57 := all56.next (Checked.mixed Tryz.checked) tabOK ftabOK me56 rfl run56
theorem all58 : AllV Tryz.prog mes 58 := all57.next (Checked.mixed Tryz.checked) tabOK ftabOK me57 rfl run57
theorem all59 : AllV Tryz.prog mes 59 := all58.next (Checked.mixed Tryz.checked) tabOK ftabOK me58 rfl run58
theorem all60 : AllV Tryz.prog mes 60 := all59.next (Checked.mixed Tryz.checked) tabOK ftabOK me59 rfl run59
theorem all61 : AllV Tryz.prog mes 61 := all60.next (Checked.mixed Tryz.checked) tabOK ftabOK me60 rfl run60
theorem all62 : AllV Tryz.prog mes 62 := all61.next (Checked.mixed Tryz.checked) tabOK ftabOK me61 rfl run61
theorem all63 : AllV Tryz.prog mes 63 := all62.next (Checked.mixed Tryz.checked) tabOK ftabOK me62 rfl run62
theorem all64 : AllV Tryz.prog mes 64 := all63.next (Checked.mixed Tryz.checked) tabOK ftabOK me63 rfl run63
theorem all65 : AllV Tryz.prog mes 65 := all64.next (Checked.mixed Tryz.checked) tabOK ftabOK me64 rfl run64
theorem all66 : AllV Tryz.prog mes 66 := all65.next (Checked.mixed Tryz.checked) tabOK ftabOK me65 rfl run65
theorem all67 : AllV Tryz.prog mes 67 := all66.next (Checked.mixed Tryz.checked) tabOK ftabOK me66 rfl run66
theorem all68 : AllV Tryz.prog mes 68 := all67.next (Checked.mixed Tryz.checked) tabOK ftabOK me67 rfl run67
theorem all69 : AllV Tryz.prog mes 69 := all68.next (Checked.mixed Tryz.checked) tabOK ftabOK me68 rfl run68
theorem all70 : AllV Tryz.prog mes 70 := all69.next (Checked.mixed Tryz.checked) tabOK ftabOK me69 rfl run69
theorem all71 : AllV Tryz.prog mes 71 := all70.next (Checked.mixed Tryz.checked) tabOK ftabOK me70 rfl run70
theorem all72 : AllV Tryz.prog mes 72 := all71.next (Checked.mixed Tryz.checked) tabOK ftabOK me71 rfl run71
theorem all73 : AllV Tryz.prog mes 73 := all72.next (Checked.mixed Tryz.checked) tabOK ftabOK me72 rfl run72
theorem all74 : AllV Tryz.prog mes 74 := all73.next (Checked.mixed Tryz.checked) tabOK ftabOK me73 rfl run73
theorem all75 : AllV Tryz.prog mes 75 := all74.next (Checked.mixed Tryz.checked) tabOK ftabOK me74 rfl run74
theorem all76 : AllV Tryz.prog mes 76 := all75.next (Checked.mixed Tryz.checked) tabOK ftabOK me75 rfl run75
theorem all77 : AllV Tryz.prog mes 77 := all76.next (Checked.mixed Tryz.checked) tabOK ftabOK me76 rfl run76
theorem all78 : AllV Tryz.prog mes 78 := all77.next (Checked.mixed Tryz.checked) tabOK ftabOK me77 rfl run77
theorem all79 : AllV Tryz.prog mes 79 := all78.next (Checked.mixed Tryz.checked) tabOK ftabOK me78 rfl run78
theorem all80 : AllV Tryz.prog mes 80 := all79.next (Checked.mixed Tryz.checked) tabOK ftabOK me79 rfl run79
theorem all81 : AllV Tryz.prog mes 81 := all80.next (Checked.mixed Tryz.checked) tabOK ftabOK me80 rfl run80
theorem all82 : AllV Tryz.prog mes 82 := all81.next (Checked.mixed Tryz.checked) tabOK ftabOK me81 rfl run81
theorem all83 : AllV Tryz.prog mes 83 := all82.next (Checked.mixed Tryz.checked) tabOK ftabOK me82 rfl run82
theorem all84 : AllV Tryz.prog mes 84 := all83.next (Checked.mixed Tryz.checked) tabOK ftabOK me83 rfl run83
theorem all85 : AllV Tryz.prog mes 85 := all84.next (Checked.mixed Tryz.checked) tabOK ftabOK me84 rfl run84
theorem all86 : AllV Tryz.prog mes 86 := all85.next (Checked.mixed Tryz.checked) tabOK ftabOK me85 rfl run85
theorem all87 : AllV Tryz.prog mes 87 := all86.next (Checked.mixed Tryz.checked) tabOK ftabOK me86 rfl run86
theorem all88 : AllV Tryz.prog mes 88 := all87.next (Checked.mixed Tryz.checked) tabOK ftabOK me87 rfl run87
theorem all89 : AllV Tryz.prog mes 89 := all88.next (Checked.mixed Tryz.checked) tabOK ftabOK me88 rfl run88
theorem all90 : AllV Tryz.prog mes 90 := all89.next (Checked.mixed Tryz.checked) tabOK ftabOK me89 rfl run89
theorem all91 : AllV Tryz.prog mes 91 := all90.next (Checked.mixed Tryz.checked) tabOK ftabOK me90 rfl run90
theorem all92 : AllV Tryz.prog mes 92 := all91.next (Checked.mixed Tryz.checked) tabOK ftabOK me91 rfl run91
theorem all93 : AllV Tryz.prog mes 93 := all92.next (Checked.mixed Tryz.checked) tabOK ftabOK me92 rfl run92
theorem all94 : AllV Tryz.prog mes 94 := all93.next (Checked.mixed Tryz.checked) tabOK ftabOK me93 rfl run93
theorem all95 : AllV Tryz.prog mes 95 := all94.next (Checked.mixed Tryz.checked) tabOK ftabOK me94 rfl run94
theorem all96 : AllV Tryz.prog mes 96 := all95.next (Checked.mixed Tryz.checked) tabOK ftabOK me95 rfl run95
theorem all97 : AllV Tryz.prog mes 97 := all96.next (Checked.mixed Tryz.checked) tabOK ftabOK me96 rfl run96
theorem all98 : AllV Tryz.prog mes 98 := all97.next (Checked.mixed Tryz.checked) tabOK ftabOK me97 rfl run97
theorem all99 : AllV Tryz.prog mes 99 := all98.next (Checked.mixed Tryz.checked) tabOK ftabOK me98 rfl run98
theorem all100 : AllV Tryz.prog mes 100 := all99.next (Checked.mixed Tryz.checked) tabOK ftabOK me99 rfl run99
theorem all101 : AllV Tryz.prog mes 101 := all100.next (Checked.mixed Tryz.checked) tabOK ftabOK me100 rfl run100
theorem all102 : AllV Tryz.prog mes 102 := all101.next (Checked.mixed Tryz.checked) tabOK ftabOK me101 rfl run101
theorem all103 : AllV Tryz.prog mes 103 := all102.next (Checked.mixed Tryz.checked) tabOK ftabOK me102 rfl run102
theorem all104 : AllV Tryz.prog mes 104 := all103.next (Checked.mixed Tryz.checked) tabOK ftabOK me103 rfl run103
theorem all105 : AllV Tryz.prog mes 105 := all104.next (Checked.mixed Tryz.checked) tabOK ftabOK me104 rfl run104
theorem all106 : AllV Tryz.prog mes 106 := all105.next (Checked.mixed Tryz.checked) tabOK ftabOK me105 rfl run105
theorem all107 : AllV Tryz.prog mes 107 := all106.next (Checked.mixed Tryz.checked) tabOK ftabOK me106 rfl run106
theorem all108 : AllV Tryz.prog mes 108 := all107.next (Checked.mixed Tryz.checked) tabOK ftabOK me107 rfl run107
theorem all109 : AllV Tryz.prog mes 109 := all108.next (Checked.mixed Tryz.checked) tabOK ftabOK me108 rfl run108
theorem all110 : AllV Tryz.prog mes 110 := all109.next (Checked.mixed Tryz.checked) tabOK ftabOK me109 rfl run109
theorem all111 : AllV Tryz.prog mes 111 := all110.next (Checked.mixed Tryz.checked) tabOK ftabOK me110 rfl run110
theorem all112 : AllV Tryz.prog mes 112 := all111.next (Checked.mixed Tryz.checked) tabOK ftabOK me111 rfl run111
theorem all113 : AllV Tryz.prog mes 113 := all112.next (Checked.mixed Tryz.checked) tabOK ftabOK me112 rfl run112
theorem all114 : AllV Tryz.prog mes 114 := all113.next (Checked.mixed Tryz.checked) tabOK ftabOK me113 rfl run113
theorem all115 : AllV Tryz.prog mes 115 := all114.next (Checked.mixed Tryz.checked) tabOK ftabOK me114 rfl run114
theorem all116 : AllV Tryz.prog mes 116 := all115.next (Checked.mixed Tryz.checked) tabOK ftabOK me115 rfl run115
theorem all117 : AllV Tryz.prog mes 117 := all116.next (Checked.mixed Tryz.checked) tabOK ftabOK me116 rfl run116
theorem all118 : AllV Tryz.prog mes 118 := all117.next (Checked.mixed Tryz.checked) tabOK ftabOK me117 rfl run117
theorem all119 : AllV Tryz.prog mes 119 := all118.next (Checked.mixed Tryz.checked) tabOK ftabOK me118 rfl run118
theorem all120 : AllV Tryz.prog mes 120 := all119.next (Checked.mixed Tryz.checked) tabOK ftabOK me119 rfl run119
theorem all121 : AllV Tryz.prog mes 121 := all120.next (Checked.mixed Tryz.checked) tabOK ftabOK me120 rfl run120
theorem all122 : AllV Tryz.prog mes 122 := all121.next (Checked.mixed Tryz.checked) tabOK ftabOK me121 rfl run121
theorem all123 : AllV Tryz.prog mes 123 := all122.next (Checked.mixed Tryz.checked) tabOK ftabOK me122 rfl run122
theorem all124 : AllV Tryz.prog mes 124 := all123.next (Checked.mixed Tryz.checked) tabOK ftabOK me123 rfl run123
theorem all125 : AllV Tryz.prog mes 125 := all124.next (Checked.mixed Tryz.checked) tabOK ftabOK me124 rfl run124
theorem all126 : AllV Tryz.prog mes 126 := all125.next (Checked.mixed Tryz.checked) tabOK ftabOK me125 rfl run125
theorem all127 : AllV Tryz.prog mes 127 := all126.next (Checked.mixed Tryz.checked) tabOK ftabOK me126 rfl run126
theorem all128 : AllV Tryz.prog mes 128 := all127.next (Checked.mixed Tryz.checked) tabOK ftabOK me127 rfl run127
theorem all129 : AllV Tryz.prog mes 129 := all128.next (Checked.mixed Tryz.checked) tabOK ftabOK me128 rfl run128
theorem all130 : AllV Tryz.prog mes 130 := all129.next (Checked.mixed Tryz.checked) tabOK ftabOK me129 rfl run129
theorem law_calls (w : World) : Calls Tryz.prog 3 #[] w fun e w' => e = .returned (.bool true) ∧ w'.os = w.os ∧ w'.output = w.output ∧ w.heap.size ≤ w'.heap.size ∧ ∀ c, c < w.heap.size → w'.heap[c]? = w.heap[c]? := by
  obtain ⟨H', h⟩ := run_law
  exact closed_calls_memo (Checked.mixed Tryz.checked) tabOK ftabOK all130 (afn := afn3) (by kernel_rfl) (fgood_ext ok3.2 (by kernel_rfl)) (by kernel_rfl) h w
end Go.Proofs.YtihcmbhankddkadGreat.Ev
