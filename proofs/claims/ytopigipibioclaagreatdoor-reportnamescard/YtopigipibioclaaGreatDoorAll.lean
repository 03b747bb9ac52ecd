/-
  The law's run, whole.
-/
import Derived.Test.YtopigipibioclaaGreatDoorR0
import Derived.Test.YtopigipibioclaaGreatDoorR1
import Derived.Test.YtopigipibioclaaGreatDoorR2
import Derived.Test.YtopigipibioclaaGreatDoorR3
import Derived.Test.YtopigipibioclaaGreatDoorR4
import Derived.Test.YtopigipibioclaaGreatDoorR5
import Derived.Test.YtopigipibioclaaGreatDoorR6
import Derived.Test.YtopigipibioclaaGreatDoorRz
import Derived.Test.YtopigipibioclaaGreatDoorChecked
namespace Go.Proofs.YtopigipibioclaaGreatDoor.Ev
open Go
set_option maxRecDepth 1000000
set_option linter.all false
theorem all0 : AllV Tryz.prog cZ 0 := AllV.zero
theorem all1 : AllV Tryz.prog cZ 1 := all0.next ag (Checked.mixed Tryz.checked) aU am me0 rfl rfl run0
theorem all2 : AllV Tryz.prog cZ 2 := all1.nextP ag (Checked.mixed Tryz.checked) aU am me1 rfl rfl run1
theorem all3 : AllV Tryz.prog cZ 3 := all2.nextP ag (Checked.mixed Tryz.checked) aU am me2 rfl rfl run2
theorem all4 : AllV Tryz.prog cZ 4 := all3.nextP ag (Checked.mixed Tryz.checked) aU am me3 rfl rfl run3
theorem all5 : AllV Tryz.prog cZ 5 := all4.nextP ag (Checked.mixed Tryz.checked) aU am me4 rfl rfl run4
theorem all6 : AllV Tryz.prog cZ 6 := all5.nextP ag (Checked.mixed Tryz.checked) aU am me5 rfl rfl run5
theorem all7 : AllV Tryz.prog cZ 7 := all6.nextP ag (Checked.mixed Tryz.checked) aU am me6 rfl rfl run6
theorem all8 : AllV Tryz.prog cZ 8 := all7.nextP ag (Checked.mixed Tryz.checked) aU am me7 rfl rfl run7
theorem all9 : AllV Tryz.prog cZ 9 := all8.next ag (Checked.mixed Tryz.checked) aU am me8 rfl rfl run8
theorem all10 : AllV Tryz.prog cZ 10 := all9.next ag (Checked.mixed Tryz.checked) aU am me9 rfl rfl run9
theorem all11 : AllV Tryz.prog cZ 11 := all10.next ag (Checked.mixed Tryz.checked) aU am me10 rfl rfl MC
theorem all12 : AllV Tryz.prog cZ 12 := all11.next ag (Checked.mixed Tryz.checked) aU am me11 rfl rfl MB
theorem all13 : AllV Tryz.prog cZ 13 := all12.next ag (Checked.mixed Tryz.checked) aU am me12 rfl rfl MA
theorem all14 : AllV Tryz.prog cZ 14 := all13.next ag (Checked.mixed Tryz.checked) aU am me13 rfl rfl Mz
theorem all15 : AllV Tryz.prog cZ 15 := all14.next ag (Checked.mixed Tryz.checked) aU am me14 rfl rfl My
theorem all16 : AllV Tryz.prog cZ 16 := all15.next ag (Checked.mixed Tryz.checked) aU am me15 rfl rfl Mx
theorem all17 : AllV Tryz.prog cZ 17 := all16.next ag (Checked.mixed Tryz.checked) aU am me16 rfl rfl Mw
theorem all18 : AllV Tryz.prog cZ 18 := all17.next ag (Checked.mixed Tryz.checked) aU am me17 rfl rfl Mv
theorem all19 : AllV Tryz.prog cZ 19 := all18.next ag (Checked.mixed Tryz.checked) aU am me18 rfl rfl Mt
theorem all20 : AllV Tryz.prog cZ 20 := all19.next ag (Checked.mixed Tryz.checked) aU am me19 rfl rfl Ms
theorem all21 : AllV Tryz.prog cZ 21 := all20.next ag (Checked.mixed Tryz.checked) aU am me20 rfl rfl Mr
theorem all22 : AllV Tryz.prog cZ 22 := all21.next ag (Checked.mixed Tryz.checked) aU am me21 rfl rfl Mq
theorem all23 : AllV Tryz.prog cZ 23 := all22.next ag (Checked.mixed Tryz.checked) aU am me22 rfl rfl Mp
theorem all24 : AllV Tryz.prog cZ 24 := all23.next ag (Checked.mixed Tryz.checked) aU am me23 rfl rfl Mo
theorem all25 : AllV Tryz.prog cZ 25 := all24.next ag (Checked.mixed Tryz.checked) aU am me24 rfl rfl Mn
theorem all26 : AllV Tryz.prog cZ 26 := all25.next ag (Checked.mixed Tryz.checked) aU am me25 rfl rfl Mm
theorem all27 : AllV Tryz.prog cZ 27 := all26.next ag (Checked.mixed Tryz.checked) aU am me26 rfl rfl Ml
theorem all28 : AllV Tryz.prog cZ 28 := all27.next ag (Checked.mixed Tryz.checked) aU am me27 rfl rfl Mk
theorem all29 : AllV Tryz.prog cZ 29 := all28.next ag (Checked.mixed Tryz.checked) aU am me28 rfl rfl Mj
theorem all30 : AllV Tryz.prog cZ 30 := all29.next ag (Checked.mixed Tryz.checked) aU am me29 rfl rfl Mi
theorem all31 : AllV Tryz.prog cZ 31 := all30.next ag (Checked.mixed Tryz.checked) aU am me30 rfl rfl Mh
theorem all32 : AllV Tryz.prog cZ 32 := all31.next ag (Checked.mixed Tryz.checked) aU am me31 rfl rfl Mg
theorem all33 : AllV Tryz.prog cZ 33 := all32.next ag (Checked.mixed Tryz.checked) aU am me32 rfl rfl Mf
theorem all34 : AllV Tryz.prog cZ 34 := all33.next ag (Checked.mixed Tryz.checked) aU am me33 rfl rfl Me
theorem all35 : AllV Tryz.prog cZ 35 := all34.next ag (Checked.mixed Tryz.checked) aU am me34 rfl rfl Md
theorem all36 : AllV Tryz.prog cZ 36 := all35.next ag (Checked.mixed Tryz.checked) aU am me35 rfl rfl Mc
theorem all37 : AllV Tryz.prog cZ 37 := all36.next ag (Checked.mixed Tryz.checked) aU am me36 rfl rfl Mb
theorem all38 : AllV Tryz.prog cZ 38 := all37.next ag (Checked.mixed Tryz.checked) aU am me37 rfl rfl Ma
theorem all39 : AllV Tryz.prog cZ 39 := all38.next ag (Checked.mixed Tryz.checked) aU am me38 rfl rfl L9
theorem all40 : AllV Tryz.prog cZ 40 := all39.next ag (Checked.mixed Tryz.checked) aU am me39 rfl rfl L8
theorem all41 : AllV Tryz.prog cZ 41 := all40.next ag (Checked.mixed Tryz.checked) aU am me40 rfl rfl L7
theorem all42 : AllV Tryz.prog cZ 42 := all41.next ag (Checked.mixed Tryz.checked) aU am me41 rfl rfl L6
theorem all43 : AllV Tryz.prog cZ 43 := all42.next ag (Checked.mixed Tryz.checked) aU am me42 rfl rfl L5
theorem all44 : AllV Tryz.prog cZ 44 := all43.next ag (Checked.mixed Tryz.checked) aU am me43 rfl rfl L4
theorem all45 : AllV Tryz.prog cZ 45 := all44.next ag (Checked.mixed Tryz.checked) aU am me44 rfl rfl L3
theorem all46 : AllV Tryz.prog cZ 46 := all45.next ag (Checked.mixed Tryz.checked) aU am me45 rfl rfl LZ
theorem all47 : AllV Tryz.prog cZ 47 := all46.next ag (Checked.mixed Tryz.checked) aU am me46 rfl rfl LY
theorem all48 : AllV Tryz.prog cZ 48 := all47.next ag (Checked.mixed Tryz.checked) aU am me47 rfl rfl LX
theorem all49 : AllV Tryz.prog cZ 49 := all48.next ag (Checked.mixed Tryz.checked) aU am me48 rfl rfl LW
theorem all50 : AllV Tryz.prog cZ 50 := all49.next ag (Checked.mixed Tryz.checked) aU am me49 rfl rfl LV
theorem all51 : AllV Tryz.prog cZ 51 := all50.next ag (Checked.mixed Tryz.checked) aU am me50 rfl rfl LU
theorem all52 : AllV Tryz.prog cZ 52 := all51.next ag (Checked.mixed Tryz.checked) aU am me51 rfl rfl LT
theorem all53 : AllV Tryz.prog cZ 53 := all52.next ag (Checked.mixed Tryz.checked) aU am me52 rfl rfl LS
theorem all54 : AllV Tryz.prog cZ 54 := all53.next ag (Checked.mixed Tryz.checked) aU am me53 rfl rfl LQ
theorem all55 : AllV Tryz.prog cZ 55 := all54.next ag (Checked.mixed Tryz.checked) aU am me54 rfl rfl LP
theorem all56 : AllV Tryz.prog cZ 56 := all55.next ag (Checked.mixed Tryz.checked) aU am me55 rfl rfl LO
theorem all57 : AllV Tryz.prog cZ 57 := all56.next ag (Checked.mixed Tryz.checked) aU am me56 rfl rfl LN
theorem all58 : AllV Tryz.prog cZ 58 := all57.next ag (Checked.mixed Tryz.checked) aU am me57 rfl rfl LM
theorem all59 : AllV Tryz.prog cZ 59 := all58.next ag (Checked.mixed Tryz.checked) aU am me58 rfl rfl LL
theorem all60 : AllV Tryz.prog cZ 60 := all59.next ag (Checked.mixed Tryz.checked) aU am me59 rfl rfl LK
theorem all61 : AllV Tryz.prog cZ 61 := all60.next ag (Checked.mixed Tryz.checked) aU am me60 rfl rfl LJ
theorem all62 : AllV Tryz.prog cZ 62 := all61.next ag (Checked.mixed Tryz.checked) aU am me61 rfl rfl LI
theorem all63 : AllV Tryz.prog cZ 63 := all62.next ag (Checked.mixed Tryz.checked) aU am me62 rfl rfl LH
theorem all64 : AllV Tryz.prog cZ 64 := all63.next ag (Checked.mixed Tryz.checked) aU am me63 rfl rfl LG
theorem all65 : AllV Tryz.prog cZ 65 := all64.next ag (Checked.mixed Tryz.checked) aU am me64 rfl rfl LF
theorem all66 : AllV Tryz.prog cZ 66 := all65.next ag (Checked.mixed Tryz.checked) aU am me65 rfl rfl LE
theorem all67 : AllV Tryz.prog cZ 67 := all66.next ag (Checked.mixed Tryz.checked) aU am me66 rfl rfl LD
theorem all68 : AllV Tryz.prog cZ 68 := all67.next ag (Checked.mixed Tryz.checked) aU am me67 rfl rfl LC
theorem all69 : AllV Tryz.prog cZ 69 := all68.next ag (Checked.mixed Tryz.checked) aU am me68 rfl rfl LB
theorem all70 : AllV Tryz.prog cZ 70 := all69.next ag (Checked.mixed Tryz.checked) aU am me69 rfl rfl LA
theorem all71 : AllV Tryz.prog cZ 71 := all70.next ag (Checked.mixed Tryz.checked) aU am me70 rfl rfl Ly
theorem all72 : AllV Tryz.prog cZ 72 := all71.next ag (Checked.mixed Tryz.checked) aU am me71 rfl rfl Lx
theorem all73 : AllV Tryz.prog cZ 73 := all72.next ag (Checked.mixed Tryz.checked) aU am me72 rfl rfl Lw
theorem all74 : AllV Tryz.prog cZ 74 := all73.next ag (Checked.mixed Tryz.checked) aU am me73 rfl rfl Lv
theorem all75 : AllV Tryz.prog cZ 75 := all74.next ag (Checked.mixed Tryz.checked) aU am me74 rfl rfl Lu
theorem all76 : AllV Tryz.prog cZ 76 := all75.next ag (Checked.mixed Tryz.checked) aU am me75 rfl rfl Lt
theorem all77 : AllV Tryz.prog cZ 77 := all76.next ag (Checked.mixed Tryz.checked) aU am me76 rfl rfl Ls
theorem all78 : AllV Tryz.prog cZ 78 := all77.next ag (Checked.mixed Tryz.checked) aU am me77 rfl rfl Lr
theorem all79 : AllV Tryz.prog cZ 79 := all78.next ag (Checked.mixed Tryz.checked) aU am me78 rfl rfl Lq
theorem all80 : AllV Tryz.prog cZ 80 := all79.next ag (Checked.mixed Tryz.checked) aU am me79 rfl rfl Lp
theorem all81 : AllV Tryz.prog cZ 81 := all80.next ag (Checked.mixed Tryz.checked) aU am me80 rfl rfl Lo
theorem all82 : AllV Tryz.prog cZ 82 := all81.next ag (Checked.mixed Tryz.checked) aU am me81 rfl rfl Ln
theorem all83 : AllV Tryz.prog cZ 83 := all82.next ag (Checked.mixed Tryz.checked) aU am me82 rfl rfl Ll
theorem all84 : AllV Tryz.prog cZ 84 := all83.next ag (Checked.mixed Tryz.checked) aU am me83 rfl rfl Lk
theorem all85 : AllV Tryz.prog cZ 85 := all84.next ag (Checked.mixed Tryz.checked) aU am me84 rfl rfl Lj
theorem all86 : AllV Tryz.prog cZ 86 := all85.next ag (Checked.mixed Tryz.checked) aU am me85 rfl rfl Li
theorem all87 : AllV Tryz.prog cZ 87 := all86.next ag (Checked.mixed Tryz.checked) aU am me86 rfl rfl Lh
theorem all88 : AllV Tryz.prog cZ 88 := all87.next ag (Checked.mixed Tryz.checked) aU am me87 rfl rfl Lg
theorem all89 : AllV Tryz.prog cZ 89 := all88.next ag (Checked.mixed Tryz.checked) aU am me88 rfl rfl Lf
theorem all90 : AllV Tryz.prog cZ 90 := all89.next ag (Checked.mixed Tryz.checked) aU am me89 rfl rfl Ld
theorem all91 : AllV Tryz.prog cZ 91 := all90.next ag (Checked.mixed Tryz.checked) aU am me90 rfl rfl Lc
theorem all92 : AllV Tryz.prog cZ 92 := all91.next ag (Checked.mixed Tryz.checked) aU am me91 rfl rfl Lb
theorem all93 : AllV Tryz.prog cZ 93 := all92.next ag (Checked.mixed Tryz.checked) aU am me92 rfl rfl La
theorem all94 : AllV Tryz.prog cZ 94 := all93.next ag (Checked.mixed Tryz.checked) aU am me93 rfl rfl K9
theorem all95 : AllV Tryz.prog cZ 95 := all94.next ag (Checked.mixed Tryz.checked) aU am me94 rfl rfl K8
theorem all96 : AllV Tryz.prog cZ 96 := all95.next ag (Checked.mixed Tryz.checked) aU am me95 rfl rfl K7
theorem all97 : AllV Tryz.prog cZ 97 := all96.next ag (Checked.mixed Tryz.checked) aU am me96 rfl rfl K6
theorem all98 : AllV Tryz.prog cZ 98 := all97.next ag (Checked.mixed Tryz.checked) aU am me97 rfl rfl K5
theorem all99 : AllV Tryz.prog cZ 99 := all98.next ag (Checked.mixed Tryz.checked) aU am me98 rfl rfl K4
theorem all100 : AllV Tryz.prog cZ 100 := all99.next ag (Checked.mixed Tryz.checked) aU am me99 rfl rfl K3
theorem all101 : AllV Tryz.prog cZ 101 := all100.next ag (Checked.mixed Tryz.checked) aU am me100 rfl rfl zn
theorem all102 : AllV Tryz.prog cZ 102 := all101.next ag (Checked.mixed Tryz.checked) aU am me101 rfl rfl zm
theorem all103 : AllV Tryz.prog cZ 103 := all102.next ag (Checked.mixed Tryz.checked) aU am me102 rfl rfl zl
theorem all104 : AllV Tryz.prog cZ 104 := all103.next ag (Checked.mixed Tryz.checked) aU am me103 rfl rfl zk
theorem all105 : AllV Tryz.prog cZ 105 := all104.next ag (Checked.mixed Tryz.checked) aU am me104 rfl rfl zj
theorem all106 : AllV Tryz.prog cZ 106 := all105.next ag (Checked.mixed Tryz.checked) aU am me105 rfl rfl zi
theorem all107 : AllV Tryz.prog cZ 107 := all106.next ag (Checked.mixed Tryz.checked) aU am me106 rfl rfl zh
theorem all108 : AllV Tryz.prog cZ 108 := all107.next ag (Checked.mixed Tryz.checked) aU am me107 rfl rfl zg
theorem all109 : AllV Tryz.prog cZ 109 := all108.next ag (Checked.mixed Tryz.checked) aU am me108 rfl rfl zf
theorem all110 : AllV Tryz.prog cZ 110 := all109.next ag (Checked.mixed Tryz.checked) aU am me109 rfl rfl ze
theorem all111 : AllV Tryz.prog cZ 111 := all110.next ag (Checked.mixed Tryz.checked) aU am me110 rfl rfl zd
theorem all112 : AllV Tryz.prog cZ 112 := all111.next ag (Checked.mixed Tryz.checked) aU am me111 rfl rfl zb
theorem all113 : AllV Tryz.prog cZ 113 := all112.next ag (Checked.mixed Tryz.checked) aU am me112 rfl rfl za
theorem all114 : AllV Tryz.prog cZ 114 := all113.next ag (Checked.mixed Tryz.checked) aU am me113 rfl rfl y2
theorem all115 : AllV Tryz.prog cZ 115 := all114.next ag (Checked.mixed Tryz.checked) aU am me114 rfl rfl y1
theorem all116 : AllV Tryz.prog cZ 116 := all115.next ag (Checked.mixed Tryz.checked) aU am me115 rfl rfl y0
theorem all117 : AllV Tryz.prog cZ 117 := all116.next ag (Checked.mixed Tryz.checked) aU am me116 rfl rfl yZ
theorem all118 : AllV Tryz.prog cZ 118 := all117.next ag (Checked.mixed Tryz.checked) aU am me117 rfl rfl yY
theorem B8 : AllV Tryz.prog cZ 119 := all118.next ag (Checked.mixed Tryz.checked) aU am me118 rfl rfl yX
theorem law_calls (w : World) (hG : nG w) : Calls Tryz.prog 3 #[] w fun e w' => e = .returned (.bool true) ∧ w'.os = w.os ∧ w'.output = w.output ∧ w.heap.size ≤ w'.heap.size ∧ ∀ c, c < w.heap.size → w'.heap[c]? = w.heap[c]? := by
  obtain ⟨H', h⟩ := ve
  exact aem ag (Checked.mixed Tryz.checked) aU am B8 (afn := y3) (by kernel_rfl) (aok ok3.2 (by kernel_rfl)) (by kernel_rfl) h w hG
end Go.Proofs.YtopigipibioclaaGreatDoor.Ev
