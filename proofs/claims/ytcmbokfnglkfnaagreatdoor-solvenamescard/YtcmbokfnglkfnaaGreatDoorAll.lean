/-
  The law's run, whole.
-/
import Derived.Test.YtcmbokfnglkfnaaGreatDoorR0
import Derived.Test.YtcmbokfnglkfnaaGreatDoorR1
import Derived.Test.YtcmbokfnglkfnaaGreatDoorR2
import Derived.Test.YtcmbokfnglkfnaaGreatDoorR3
import Derived.Test.YtcmbokfnglkfnaaGreatDoorRz
import Derived.Test.YtcmbokfnglkfnaaGreatDoorChecked
namespace Go.Proofs.YtcmbokfnglkfnaaGreatDoor.Ev
open Go
set_option maxRecDepth 1000000
set_option linter.all false
theorem all0 : AllV Tryz.prog mes 0 := AllV.zero
theorem all1 : AllV Tryz.prog mes 1 := all0.next globPlain (Checked.mixed Tryz.checked) tabOK ftabOK me0 rfl rfl run0
theorem all2 : AllV Tryz.prog mes 2 := all1.next globPlain (Checked.mixed Tryz.checked) tabOK ftabOK me1 rfl rfl run1
theorem all3 : AllV Tryz.prog mes 3 := all2.next globPlain (Checked.mixed Tryz.checked) tabOK ftabOK me2 rfl rfl run2
theorem all4 : AllV Tryz.prog mes 4 := all3.next globPlain (Checked.mixed Tryz.checked) tabOK ftabOK me3 rfl rfl run3
theorem all5 : AllV Tryz.prog mes 5 := all4.next globPlain (Checked.mixed Tryz.checked) tabOK ftabOK me4 rfl rfl run4
theorem all6 : AllV Tryz.prog mes 6 := all5.next globPlain (Checked.mixed Tryz.checked) tabOK ftabOK me5 rfl rfl run5
theorem all7 : AllV Tryz.prog mes 7 := all6.next globPlain (Checked.mixed Tryz.checked) tabOK ftabOK me6 rfl rfl run6
theorem all8 : AllV Tryz.prog mes 8 := all7.next globPlain (Checked.mixed Tryz.checked) tabOK ftabOK me7 rfl rfl run7
theorem all9 : AllV Tryz.prog mes 9 := all8.next globPlain (Checked.mixed Tryz.checked) tabOK ftabOK me8 rfl rfl run8
theorem all10 : AllV Tryz.prog mes 10 := all9.next globPlain (Checked.mixed Tryz.checked) tabOK ftabOK me9 rfl rfl run9
theorem all11 : AllV Tryz.prog mes 11 := all10.next globPlain (Checked.mixed Tryz.checked) tabOK ftabOK me10 rfl rfl run10
theorem all12 : AllV Tryz.prog mes 12 := all11.next globPlain (Checked.mixed Tryz.checked) tabOK ftabOK me11 rfl rfl run11
theorem all13 : AllV Tryz.prog mes 13 := all12.next globPlain (Checked.mixed Tryz.checked) tabOK ftabOK me12 rfl rfl run12
theorem all14 : AllV Tryz.prog mes 14 := all13.next globPlain (Checked.mixed Tryz.checked) tabOK ftabOK me13 rfl rfl run13
theorem all15 : AllV Tryz.prog mes 15 := all14.next globPlain (Checked.mixed Tryz.checked) tabOK ftabOK me14 rfl rfl run14
theorem all16 : AllV Tryz.prog mes 16 := all15.nextP globPlain (Checked.mixed Tryz.checked) tabOK ftabOK me15 rfl rfl run15
theorem all17 : AllV Tryz.prog mes 17 := all16.nextP globPlain (Checked.mixed Tryz.checked) tabOK ftabOK me16 rfl rfl run16
theorem all18 : AllV Tryz.prog mes 18 := all17.nextP globPlain (Checked.mixed Tryz.checked) tabOK ftabOK me17 rfl rfl run17
theorem all19 : AllV Tryz.prog mes 19 := all18.next globPlain (Checked.mixed Tryz.checked) tabOK ftabOK me18 rfl rfl run18
theorem all20 : AllV Tryz.prog mes 20 := all19.next globPlain (Checked.mixed Tryz.checked) tabOK ftabOK me19 rfl rfl run19
theorem all21 : AllV Tryz.prog mes 21 := all20.next globPlain (Checked.mixed Tryz.checked) tabOK ftabOK me20 rfl rfl run20
theorem all22 : AllV Tryz.prog mes 22 := all21.next globPlain (Checked.mixed Tryz.checked) tabOK ftabOK me21 rfl rfl run21
theorem all23 : AllV Tryz.prog mes 23 := all22.next globPlain (Checked.mixed Tryz.checked) tabOK ftabOK me22 rfl rfl run22
theorem all24 : AllV Tryz.prog mes 24 := all23.next globPlain (Checked.mixed Tryz.checked) tabOK ftabOK me23 rfl rfl run23
theorem all25 : AllV Tryz.prog mes 25 := all24.next globPlain (Checked.mixed Tryz.checked) tabOK ftabOK me24 rfl rfl run24
theorem all26 : AllV Tryz.prog mes 26 := all25.next globPlain (Checked.mixed Tryz.checked) tabOK ftabOK me25 rfl rfl run25
theorem all27 : AllV Tryz.prog mes 27 := all26.next globPlain (Checked.mixed Tryz.checked) tabOK ftabOK me26 rfl rfl run26
theorem all28 : AllV Tryz.prog mes 28 := all27.next globPlain (Checked.mixed Tryz.checked) tabOK ftabOK me27 rfl rfl run27
theorem all29 : AllV Tryz.prog mes 29 := all28.next globPlain (Checked.mixed Tryz.checked) tabOK ftabOK me28 rfl rfl run28
theorem all30 : AllV Tryz.prog mes 30 := all29.next globPlain (Checked.mixed Tryz.checked) tabOK ftabOK me29 rfl rfl run29
theorem all31 : AllV Tryz.prog mes 31 := all30.next globPlain (Checked.mixed Tryz.checked) tabOK ftabOK me30 rfl rfl run30
theorem all32 : AllV Tryz.prog mes 32 := all31.next globPlain (Checked.mixed Tryz.checked) tabOK ftabOK me31 rfl rfl run31
theorem all33 : AllV Tryz.prog mes 33 := all32.next globPlain (Checked.mixed Tryz.checked) tabOK ftabOK me32 rfl rfl run32
theorem all34 : AllV Tryz.prog mes 34 := all33.next globPlain (Checked.mixed Tryz.checked) tabOK ftabOK me33 rfl rfl run33
theorem all35 : AllV Tryz.prog mes 35 := all34.next globPlain (Checked.mixed Tryz.checked) tabOK ftabOK me34 rfl rfl run34
theorem all36 : AllV Tryz.prog mes 36 := all35.next globPlain (Checked.mixed Tryz.checked) tabOK ftabOK me35 rfl rfl run35
theorem all37 : AllV Tryz.prog mes 37 := all36.next globPlain (Checked.mixed Tryz.checked) tabOK ftabOK me36 rfl rfl run36
theorem all38 : AllV Tryz.prog mes 38 := all37.next globPlain (Checked.mixed Tryz.checked) tabOK ftabOK me37 rfl rfl run37
theorem all39 : AllV Tryz.prog mes 39 := all38.next globPlain (Checked.mixed Tryz.checked) tabOK ftabOK me38 rfl rfl run38
theorem all40 : AllV Tryz.prog mes 40 := all39.next globPlain (Checked.mixed Tryz.checked) tabOK ftabOK me39 rfl rfl run39
theorem all41 : AllV Tryz.prog mes 41 := all40.next globPlain (Checked.mixed Tryz.checked) tabOK ftabOK me40 rfl rfl run40
theorem all42 : AllV Tryz.prog mes 42 := all41.next globPlain (Checked.mixed Tryz.checked) tabOK ftabOK me41 rfl rfl run41
theorem all43 : AllV Tryz.prog mes 43 := all42.next globPlain (Checked.mixed Tryz.checked) tabOK ftabOK me42 rfl rfl run42
theorem all44 : AllV Tryz.prog mes 44 := all43.next globPlain (Checked.mixed Tryz.checked) tabOK ftabOK me43 rfl rfl run43
theorem all45 : AllV Tryz.prog mes 45 := all44.next globPlain (Checked.mixed Tryz.checked) tabOK ftabOK me44 rfl rfl run44
theorem all46 : AllV Tryz.prog mes 46 := all45.next globPlain (Checked.mixed Tryz.checked) tabOK ftabOK me45 rfl rfl run45
theorem all47 : AllV Tryz.prog mes 47 := all46.next globPlain (Checked.mixed Tryz.checked) tabOK ftabOK me46 rfl rfl run46
theorem all48 : AllV Tryz.prog mes 48 := all47.next globPlain (Checked.mixed Tryz.checked) tabOK ftabOK me47 rfl rfl run47
theorem all49 : AllV Tryz.prog mes 49 := all48.next globPlain (Checked.mixed Tryz.checked) tabOK ftabOK me48 rfl rfl run48
theorem all50 : AllV Tryz.prog mes 50 := all49.next globPlain (Checked.mixed Tryz.checked) tabOK ftabOK me49 rfl rfl run49
theorem all51 : AllV Tryz.prog mes 51 := all50.next globPlain (Checked.mixed Tryz.checked) tabOK ftabOK me50 rfl rfl run50
theorem all52 : AllV Tryz.prog mes 52 := all51.next globPlain (Checked.mixed Tryz.checked) tabOK ftabOK me51 rfl rfl run51
theorem all53 : AllV Tryz.prog mes 53 := all52.next globPlain (Checked.mixed Tryz.checked) tabOK ftabOK me52 rfl rfl run52
theorem all54 : AllV Tryz.prog mes 54 := all53.next globPlain (Checked.mixed Tryz.checked) tabOK ftabOK me53 rfl rfl run53
theorem all55 : AllV Tryz.prog mes 55 := all54.next globPlain (Checked.mixed Tryz.checked) tabOK ftabOK me54 rfl rfl run54
theorem all56 : AllV Tryz.prog mes 56 := all55.next globPlain (Checked.mixed Tryz.checked) tabOK ftabOK me55 rfl rfl run55
theorem all57 : AllV Tryz.prog mes 57 := all56.next globPlain (Checked.mixed Tryz.checked) tabOK ftabOK me56 rfl rfl run56
theorem all58 : AllV Tryz.prog mes 58 := all57.next globPlain (Checked.mixed Tryz.checked) tabOK ftabOK me57 rfl rfl run57
theorem all59 : AllV Tryz.prog mes 59 := all58.next globPlain (Checked.mixed Tryz.checked) tabOK ftabOK me58 rfl rfl run58
theorem all60 : AllV Tryz.prog mes 60 := all59.next globPlain (Checked.mixed Tryz.checked) tabOK ftabOK me59 rfl rfl run59
theorem all61 : AllV Tryz.prog mes 61 := all60.next globPlain (Checked.mixed Tryz.checked) tabOK ftabOK me60 rfl rfl run60
theorem all62 : AllV Tryz.prog mes 62 := all61.next globPlain (Checked.mixed Tryz.checked) tabOK ftabOK me61 rfl rfl run61
theorem all63 : AllV Tryz.prog mes 63 := all62.next globPlain (Checked.mixed Tryz.checked) tabOK ftabOK me62 rfl rfl run62
theorem all64 : AllV Tryz.prog mes 64 := all63.next globPlain (Checked.mixed Tryz.checked) tabOK ftabOK me63 rfl rfl run63
theorem all65 : AllV Tryz.prog mes 65 := all64.next globPlain (Checked.mixed Tryz.checked) tabOK ftabOK me64 rfl rfl run64
theorem all66 : AllV Tryz.prog mes 66 := all65.next globPlain (Checked.mixed Tryz.checked) tabOK ftabOK me65 rfl rfl run65
theorem all67 : AllV Tryz.prog mes 67 := all66.next globPlain (Checked.mixed Tryz.checked) tabOK ftabOK me66 rfl rfl run66
theorem all68 : AllV Tryz.prog mes 68 := all67.next globPlain (Checked.mixed Tryz.checked) tabOK ftabOK me67 rfl rfl run67
theorem all69 : AllV Tryz.prog mes 69 := all68.next globPlain (Checked.mixed Tryz.checked) tabOK ftabOK me68 rfl rfl run68
theorem all70 : AllV Tryz.prog mes 70 := all69.next globPlain (Checked.mixed Tryz.checked) tabOK ftabOK me69 rfl rfl run69
theorem all71 : AllV Tryz.prog mes 71 := all70.next globPlain (Checked.mixed Tryz.checked) tabOK ftabOK me70 rfl rfl run70
theorem all72 : AllV Tryz.prog mes 72 := all71.next globPlain (Checked.mixed Tryz.checked) tabOK ftabOK me71 rfl rfl run71
theorem all73 : AllV Tryz.prog mes 73 := all72.next globPlain (Checked.mixed Tryz.checked) tabOK ftabOK me72 rfl rfl run72
theorem all74 : AllV Tryz.prog mes 74 := all73.next globPlain (Checked.mixed Tryz.checked) tabOK ftabOK me73 rfl rfl run73
theorem all75 : AllV Tryz.prog mes 75 := all74.next globPlain (Checked.mixed Tryz.checked) tabOK ftabOK me74 rfl rfl run74
theorem law_calls (w : World) (hG : GlobW w) : Calls Tryz.prog 3 #[] w fun e w' => e = .returned (.bool true) ∧ w'.os = w.os ∧ w'.output = w.output ∧ w.heap.size ≤ w'.heap.size ∧ ∀ c, c < w.heap.size → w'.heap[c]? = w.heap[c]? := by
  obtain ⟨H', h⟩ := run_law
  exact aeo globPlain (Checked.mixed Tryz.checked) tabOK ftabOK all75 (afn := afn3) (by kernel_rfl) (aoj ok3.2 (by kernel_rfl)) (by kernel_rfl) h w hG
end Go.Proofs.YtcmbokfnglkfnaaGreatDoor.Ev
