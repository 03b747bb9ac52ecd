/-
  slices.Sorted over the keys of a map, at this program: by the library's contracts, laid here.
-/
import Derived.Test.YtcmbokfnglkfnaaGreatDoorEvKeys
import Derived.Test.YtcmbokfnglkfnaaGreatDoorProg
import Derived.KernelRfl
import Derived.Shelf.SlIterI.Nil
import Derived.Shelf.SortM.Plain
import Derived.Shelf.SortM.SortNone
import Derived.Ground.GgzProg
import Derived.Ground.SlgmProg
namespace Go.Proofs.YtcmbokfnglkfnaaGreatDoor.Ev.Ky60
open Go Go.RowKit Go.Maps Go.Sort Go.Shelf Go.Proofs.YtcmbokfnglkfnaaGreatDoor.Ev
set_option linter.all false
set_option maxRecDepth 100000

def keysL_ren : Go.Shelf.Ren := ⟨fun | 7 => 61 | 10 => 121 | n => n, fun | 23 => 148 | 26 => 3 | 3 => 4 | 28 => 153 | 0 => 0 | 27 => 152 | 33 => 127 | 4 => 4 | n => n, fun | n => n⟩
theorem keysL : Go.Proofs.SlLaysZI.n7 Tryz.prog keysL_ren := {
  mixed := by kernel_rfl
  f7 := ⟨Tryz.f61.name, by decide, Tryz.func61.trans (congrArg some (by kernel_rfl))⟩
  f10 := ⟨Tryz.f121.name, by decide, Tryz.func121.trans (congrArg some (by kernel_rfl))⟩
  t0 := Tryz.underlying0
  a0 := Tryz.isAgg0
  z0 := Tryz.sizeOf0
  v0 := Tryz.zeroValue0
  t4 := Tryz.underlying4
  a4 := Tryz.isAgg4
  z4 := Tryz.sizeOf4
  v4 := Tryz.zeroValue4
  t23 := Tryz.underlying148
  a23 := Tryz.isAgg148
  z23 := Tryz.sizeOf148
  v23 := Tryz.zeroValue148
  t26 := Tryz.underlying3
  a26 := Tryz.isAgg3
  z26 := Tryz.sizeOf3
  v26 := Tryz.zeroValue3
  t27 := Tryz.underlying152
  a27 := Tryz.isAgg152
  z27 := Tryz.sizeOf152
  v27 := Tryz.zeroValue152
  t28 := Tryz.underlying153
  a28 := Tryz.isAgg153
  z28 := Tryz.sizeOf153
  v28 := Tryz.zeroValue153
  t33 := Tryz.underlying127
  a33 := Tryz.isAgg127
  z33 := Tryz.sizeOf127
  v33 := Tryz.zeroValue127 }
def sortedL_ren : Go.Shelf.Ren := ⟨fun | 6 => 60 | 8 => 120 | 9 => 55 | 11 => 196 | 13 => 114 | 12 => 113 | 23 => 187 | 24 => 188 | 14 => 178 | 15 => 179 | 16 => 180 | 17 => 181 | 18 => 182 | 19 => 183 | 20 => 184 | 21 => 185 | 22 => 186 | 25 => 269 | 26 => 270 | 27 => 271 | 28 => 272 | 29 => 273 | 30 => 274 | 31 => 372 | n => n, fun | 26 => 3 | 28 => 153 | 24 => 26 | 0 => 0 | 3 => 3 | 37 => 82 | 48 => 155 | 50 => 158 | 4 => 4 | 40 => 310 | 39 => 309 | 45 => 314 | 5 => 5 | 9 => 9 | 51 => 393 | 55 => 397 | 57 => 478 | 58 => 479 | 33 => 127 | n => n, fun | n => n⟩
theorem sortedL : Go.Proofs.SlLaysZI.n6 Tryz.prog sortedL_ren := {
  mixed := by kernel_rfl
  f6 := ⟨Tryz.f60.name, by decide, Tryz.func60.trans (congrArg some (by kernel_rfl))⟩
  f8 := ⟨Tryz.f120.name, by decide, Tryz.func120.trans (congrArg some (by kernel_rfl))⟩
  f11 := ⟨Tryz.f196.name, by decide, Tryz.func196.trans (congrArg some (by kernel_rfl))⟩
  t0 := Tryz.underlying0
  a0 := Tryz.isAgg0
  z0 := Tryz.sizeOf0
  v0 := Tryz.zeroValue0
  t24 := Tryz.underlying26
  a24 := Tryz.isAgg26
  z24 := Tryz.sizeOf26
  v24 := Tryz.zeroValue26
  t26 := Tryz.underlying3
  a26 := Tryz.isAgg3
  z26 := Tryz.sizeOf3
  v26 := Tryz.zeroValue3
  t28 := Tryz.underlying153
  a28 := Tryz.isAgg153
  z28 := Tryz.sizeOf153
  v28 := Tryz.zeroValue153
  i26 := by kernel_rfl }
def sortL_ren : Go.Shelf.Ren := ⟨fun | 5 => 55 | 8 => 114 | 7 => 113 | 19 => 187 | 20 => 188 | 10 => 178 | 11 => 179 | 12 => 180 | 13 => 181 | 14 => 182 | 15 => 183 | 16 => 184 | 17 => 185 | 18 => 186 | 30 => 269 | 31 => 270 | 32 => 271 | 33 => 272 | 34 => 273 | 35 => 274 | 40 => 372 | n => n, fun | 23 => 26 | 25 => 3 | 3 => 3 | 32 => 82 | 22 => 26 | 0 => 0 | 44 => 155 | 46 => 158 | 4 => 4 | 36 => 310 | 35 => 309 | 41 => 314 | 5 => 5 | 9 => 9 | 53 => 393 | 57 => 397 | 63 => 478 | 64 => 479 | n => n, fun | n => n⟩
theorem sortL : Go.Proofs.SlLaysM.n5 Tryz.prog sortL_ren := {
  mixed := by kernel_rfl
  f5 := ⟨Tryz.f55.name, by decide, Tryz.func55.trans (congrArg some (by kernel_rfl))⟩
  f7 := ⟨Tryz.f113.name, by decide, Tryz.func113.trans (congrArg some (by kernel_rfl))⟩
  f8 := Tryz.func114.trans (congrArg some (by kernel_rfl))
  f10 := ⟨Tryz.f178.name, by decide, Tryz.func178.trans (congrArg some (by kernel_rfl))⟩
  f11 := ⟨Tryz.f179.name, by decide, Tryz.func179.trans (congrArg some (by kernel_rfl))⟩
  f12 := ⟨Tryz.f180.name, by decide, Tryz.func180.trans (congrArg some (by kernel_rfl))⟩
  f13 := ⟨Tryz.f181.name, by decide, Tryz.func181.trans (congrArg some (by kernel_rfl))⟩
  f14 := ⟨Tryz.f182.name, by decide, Tryz.func182.trans (congrArg some (by kernel_rfl))⟩
  f15 := ⟨Tryz.f183.name, by decide, Tryz.func183.trans (congrArg some (by kernel_rfl))⟩
  f16 := ⟨Tryz.f184.name, by decide, Tryz.func184.trans (congrArg some (by kernel_rfl))⟩
  f17 := ⟨Tryz.f185.name, by decide, Tryz.func185.trans (congrArg some (by kernel_rfl))⟩
  f18 := ⟨Tryz.f186.name, by decide, Tryz.func186.trans (congrArg some (by kernel_rfl))⟩
  f19 := Tryz.func187.trans (congrArg some (by kernel_rfl))
  f20 := Tryz.func188.trans (congrArg some (by kernel_rfl))
  f30 := ⟨Tryz.f269.name, by decide, Tryz.func269.trans (congrArg some (by kernel_rfl))⟩
  f31 := Tryz.func270.trans (congrArg some (by kernel_rfl))
  f32 := Tryz.func271.trans (congrArg some (by kernel_rfl))
  f33 := ⟨Tryz.f272.name, by decide, Tryz.func272.trans (congrArg some (by kernel_rfl))⟩
  f34 := ⟨Tryz.f273.name, by decide, Tryz.func273.trans (congrArg some (by kernel_rfl))⟩
  f35 := ⟨Tryz.f274.name, by decide, Tryz.func274.trans (congrArg some (by kernel_rfl))⟩
  f40 := ⟨Tryz.f372.name, by decide, Tryz.func372.trans (congrArg some (by kernel_rfl))⟩
  t0 := Tryz.underlying0
  a0 := Tryz.isAgg0
  z0 := Tryz.sizeOf0
  v0 := Tryz.zeroValue0
  t3 := Tryz.underlying3
  a3 := Tryz.isAgg3
  z3 := Tryz.sizeOf3
  v3 := Tryz.zeroValue3
  t4 := Tryz.underlying4
  a4 := Tryz.isAgg4
  z4 := Tryz.sizeOf4
  v4 := Tryz.zeroValue4
  t5 := Tryz.underlying5
  a5 := Tryz.isAgg5
  z5 := Tryz.sizeOf5
  v5 := Tryz.zeroValue5
  t9 := Tryz.underlying9
  a9 := Tryz.isAgg9
  z9 := Tryz.sizeOf9
  v9 := Tryz.zeroValue9
  t22 := Tryz.underlying26
  a22 := Tryz.isAgg26
  z22 := Tryz.sizeOf26
  v22 := Tryz.zeroValue26
  t23 := Tryz.underlying26
  a23 := Tryz.isAgg26
  z23 := Tryz.sizeOf26
  v23 := Tryz.zeroValue26
  t25 := Tryz.underlying3
  a25 := Tryz.isAgg3
  z25 := Tryz.sizeOf3
  v25 := Tryz.zeroValue3
  t32 := Tryz.underlying82
  a32 := Tryz.isAgg82
  z32 := Tryz.sizeOf82
  v32 := Tryz.zeroValue82
  t35 := Tryz.underlying309
  a35 := Tryz.isAgg309
  z35 := Tryz.sizeOf309
  v35 := Tryz.zeroValue309
  t36 := Tryz.underlying310
  a36 := Tryz.isAgg310
  z36 := Tryz.sizeOf310
  v36 := Tryz.zeroValue310
  t41 := Tryz.underlying314
  a41 := Tryz.isAgg314
  z41 := Tryz.sizeOf314
  v41 := Tryz.zeroValue314
  t44 := Tryz.underlying155
  a44 := Tryz.isAgg155
  z44 := Tryz.sizeOf155
  v44 := Tryz.zeroValue155
  t46 := Tryz.underlying158
  a46 := Tryz.isAgg158
  z46 := Tryz.sizeOf158
  v46 := Tryz.zeroValue158
  t53 := Tryz.underlying393
  a53 := Tryz.isAgg393
  z53 := Tryz.sizeOf393
  v53 := Tryz.zeroValue393
  t57 := Tryz.underlying397
  a57 := Tryz.isAgg397
  z57 := Tryz.sizeOf397
  v57 := Tryz.zeroValue397
  t63 := Tryz.underlying478
  a63 := Tryz.isAgg478
  z63 := Tryz.sizeOf478
  v63 := Tryz.zeroValue478
  t64 := Tryz.underlying479
  a64 := Tryz.isAgg479
  z64 := Tryz.sizeOf479
  v64 := Tryz.zeroValue479 }


/-- slices.Sort's two contracts, at the fence that asks nothing. -/
theorem sorts (m : Nat) : AnyZI.SortsIn Tryz.prog sortedL_ren Fence.wide m :=
  ⟨fun blk off cap ss W hH hblk hsz => callsIn_wide.2 (AnyM.slices_Sort_int sortL blk off cap ss W hH hblk hsz),
   fun p cap W => callsIn_wide.2 (AnyM.slices_Sort_int_none sortL p cap W)⟩

set_option maxHeartbeats 1000000 in
theorem sorted121 : afq Tryz.prog 60 121 3 8 encZ (fun x y => decide (x ≤ y)) intKeys := by
  intro Bm b nn D0 w hBm hm hown hmax hbytes
  have hseq : SeqGives Fence.wide 2 Tryz.prog 121 #[.pointer (some ⟨Bm, 0, none⟩)] encZ (fun ss => ss.Perm (intKeys D0)) (Maps.size D0) w :=
    AnyZI.keys_gives (ρ := keysL_ren) { keysL with } Fence.wide _ trivial rfl (by omega) Bm b nn D0 w hBm hm hown
  have cS := AnyZI.sorted_in sortedL Fence.wide 5 trivial trivial trivial trivial rfl (by omega) (sorts _) (enters_of Tryz.func55 (by kernel_rfl) rfl) 121 #[.pointer (some ⟨Bm, 0, none⟩)] trivial (enters_of Tryz.func121 (by kernel_rfl) rfl) _ _ hmax hbytes w hseq
  change CallsIn _ _ Tryz.prog 60 _ _ _ at cS
  exact callsIn_wide.1 cS

theorem extOK : ExtOK Tryz.prog 60 (.keys false [121] 3) :=
  agv (fn := Tryz.f60) Tryz.func60 (by kernel_rfl) (by decide +kernel) (by kernel_rfl) (by kernel_rfl) fun g hg => by
    obtain rfl := List.mem_singleton.1 hg
    exact sorted121

end Go.Proofs.YtcmbokfnglkfnaaGreatDoor.Ev.Ky60
