/-
  slices.Sorted zo the keys of a map, at this program: by the library's contracts, laid here.
-/
import Derived.Test.YtopigipibioclaaGreatDoorEvKeys
import Derived.Test.YtopigipibioclaaGreatDoorProg
import Derived.KernelRfl
import Derived.Shelf.SlIterI.Nil
import Derived.Shelf.SortM.Plain
import Derived.Shelf.SortM.SortNone
import Derived.Ground.GgzProg
import Derived.Ground.SlgmProg
namespace Go.Proofs.YtopigipibioclaaGreatDoor.Ev.Ky176
open Go Go.RowKit Go.Maps Go.Sort Go.Shelf Go.Proofs.YtopigipibioclaaGreatDoor.Ev
set_option linter.all false
set_option maxRecDepth 100000

def l2 : Go.Shelf.Ren := ⟨fun | 7 => 177 | 10 => 244 | n => n, fun | 23 => 293 | 26 => 3 | 3 => 4 | 28 => 111 | 0 => 0 | 27 => 110 | 33 => 176 | 4 => 4 | n => n, fun | n => n⟩
theorem MO : Go.Proofs.SlLaysZI.n7 Tryz.prog l2 := {
  mixed := by kernel_rfl
  f7 := ⟨Tryz.f177.name, by decide, Tryz.func177.trans (congrArg some (by kernel_rfl))⟩
  f10 := ⟨Tryz.f244.name, by decide, Tryz.func244.trans (congrArg some (by kernel_rfl))⟩
  t0 := Tryz.underlying0
  a0 := Tryz.isAgg0
  z0 := Tryz.sizeOf0
  v0 := Tryz.zeroValue0
  t4 := Tryz.underlying4
  a4 := Tryz.isAgg4
  z4 := Tryz.sizeOf4
  v4 := Tryz.zeroValue4
  t23 := Tryz.underlying293
  a23 := Tryz.isAgg293
  z23 := Tryz.sizeOf293
  v23 := Tryz.zeroValue293
  t26 := Tryz.underlying3
  a26 := Tryz.isAgg3
  z26 := Tryz.sizeOf3
  v26 := Tryz.zeroValue3
  t27 := Tryz.underlying110
  a27 := Tryz.isAgg110
  z27 := Tryz.sizeOf110
  v27 := Tryz.zeroValue110
  t28 := Tryz.underlying111
  a28 := Tryz.isAgg111
  z28 := Tryz.sizeOf111
  v28 := Tryz.zeroValue111
  t33 := Tryz.underlying176
  a33 := Tryz.isAgg176
  z33 := Tryz.sizeOf176
  v33 := Tryz.zeroValue176 }
def kh : Go.Shelf.Ren := ⟨fun | 6 => 176 | 8 => 243 | 9 => 35 | 11 => 319 | 13 => 94 | 12 => 93 | 23 => 168 | 24 => 169 | 14 => 159 | 15 => 160 | 16 => 161 | 17 => 162 | 18 => 163 | 19 => 164 | 20 => 165 | 21 => 166 | 22 => 167 | 25 => 230 | 26 => 231 | 27 => 232 | 28 => 233 | 29 => 234 | 30 => 235 | 31 => 311 | n => n, fun | 26 => 3 | 28 => 111 | 24 => 40 | 0 => 0 | 3 => 3 | 37 => 188 | 48 => 276 | 50 => 278 | 4 => 4 | 40 => 269 | 39 => 268 | 45 => 273 | 5 => 5 | 9 => 9 | 51 => 352 | 55 => 356 | 57 => 424 | 58 => 425 | 33 => 176 | n => n, fun | n => n⟩
theorem u6 : Go.Proofs.SlLaysZI.n6 Tryz.prog kh := {
  mixed := by kernel_rfl
  f6 := ⟨Tryz.f176.name, by decide, Tryz.func176.trans (congrArg some (by kernel_rfl))⟩
  f8 := ⟨Tryz.f243.name, by decide, Tryz.func243.trans (congrArg some (by kernel_rfl))⟩
  f11 := ⟨Tryz.f319.name, by decide, Tryz.func319.trans (congrArg some (by kernel_rfl))⟩
  t0 := Tryz.underlying0
  a0 := Tryz.isAgg0
  z0 := Tryz.sizeOf0
  v0 := Tryz.zeroValue0
  t24 := Tryz.underlying40
  a24 := Tryz.isAgg40
  z24 := Tryz.sizeOf40
  v24 := Tryz.zeroValue40
  t26 := Tryz.underlying3
  a26 := Tryz.isAgg3
  z26 := Tryz.sizeOf3
  v26 := Tryz.zeroValue3
  t28 := Tryz.underlying111
  a28 := Tryz.isAgg111
  z28 := Tryz.sizeOf111
  v28 := Tryz.zeroValue111
  i26 := by kernel_rfl }
def pH : Go.Shelf.Ren := ⟨fun | 5 => 35 | 8 => 94 | 7 => 93 | 19 => 168 | 20 => 169 | 10 => 159 | 11 => 160 | 12 => 161 | 13 => 162 | 14 => 163 | 15 => 164 | 16 => 165 | 17 => 166 | 18 => 167 | 30 => 230 | 31 => 231 | 32 => 232 | 33 => 233 | 34 => 234 | 35 => 235 | 40 => 311 | n => n, fun | 23 => 40 | 25 => 3 | 3 => 3 | 32 => 188 | 22 => 40 | 0 => 0 | 44 => 276 | 46 => 278 | 4 => 4 | 36 => 269 | 35 => 268 | 41 => 273 | 5 => 5 | 9 => 9 | 53 => 352 | 57 => 356 | 63 => 424 | 64 => 425 | n => n, fun | n => n⟩
theorem xX : Go.Proofs.SlLaysM.n5 Tryz.prog pH := {
  mixed := by kernel_rfl
  f5 := ⟨Tryz.f35.name, by decide, Tryz.func35.trans (congrArg some (by kernel_rfl))⟩
  f7 := ⟨Tryz.f93.name, by decide, Tryz.func93.trans (congrArg some (by kernel_rfl))⟩
  f8 := Tryz.func94.trans (congrArg some (by kernel_rfl))
  f10 := ⟨Tryz.f159.name, by decide, Tryz.func159.trans (congrArg some (by kernel_rfl))⟩
  f11 := ⟨Tryz.f160.name, by decide, Tryz.func160.trans (congrArg some (by kernel_rfl))⟩
  f12 := ⟨Tryz.f161.name, by decide, Tryz.func161.trans (congrArg some (by kernel_rfl))⟩
  f13 := ⟨Tryz.f162.name, by decide, Tryz.func162.trans (congrArg some (by kernel_rfl))⟩
  f14 := ⟨Tryz.f163.name, by decide, Tryz.func163.trans (congrArg some (by kernel_rfl))⟩
  f15 := ⟨Tryz.f164.name, by decide, Tryz.func164.trans (congrArg some (by kernel_rfl))⟩
  f16 := ⟨Tryz.f165.name, by decide, Tryz.func165.trans (congrArg some (by kernel_rfl))⟩
  f17 := ⟨Tryz.f166.name, by decide, Tryz.func166.trans (congrArg some (by kernel_rfl))⟩
  f18 := ⟨Tryz.f167.name, by decide, Tryz.func167.trans (congrArg some (by kernel_rfl))⟩
  f19 := Tryz.func168.trans (congrArg some (by kernel_rfl))
  f20 := Tryz.func169.trans (congrArg some (by kernel_rfl))
  f30 := ⟨Tryz.f230.name, by decide, Tryz.func230.trans (congrArg some (by kernel_rfl))⟩
  f31 := Tryz.func231.trans (congrArg some (by kernel_rfl))
  f32 := Tryz.func232.trans (congrArg some (by kernel_rfl))
  f33 := ⟨Tryz.f233.name, by decide, Tryz.func233.trans (congrArg some (by kernel_rfl))⟩
  f34 := ⟨Tryz.f234.name, by decide, Tryz.func234.trans (congrArg some (by kernel_rfl))⟩
  f35 := ⟨Tryz.f235.name, by decide, Tryz.func235.trans (congrArg some (by kernel_rfl))⟩
  f40 := ⟨Tryz.f311.name, by decide, Tryz.func311.trans (congrArg some (by kernel_rfl))⟩
  t0 := Tryz.underlying0
  a0 := Tryz.isAgg0
  z0 := Tryz.sizeOf0
  v0 := Tryz.zeroValue0
  t3 := Tryz.underlying3
  a3 := Tryz.isAgg3
  z3 := Tryz.sizeOf3
  v3 := Tryz.zeroValue3
  t4 := Tryz.underlying4
  a4 := Tryz.isAgg4
  z4 := Tryz.sizeOf4
  v4 := Tryz.zeroValue4
  t5 := Tryz.underlying5
  a5 := Tryz.isAgg5
  z5 := Tryz.sizeOf5
  v5 := Tryz.zeroValue5
  t9 := Tryz.underlying9
  a9 := Tryz.isAgg9
  z9 := Tryz.sizeOf9
  v9 := Tryz.zeroValue9
  t22 := Tryz.underlying40
  a22 := Tryz.isAgg40
  z22 := Tryz.sizeOf40
  v22 := Tryz.zeroValue40
  t23 := Tryz.underlying40
  a23 := Tryz.isAgg40
  z23 := Tryz.sizeOf40
  v23 := Tryz.zeroValue40
  t25 := Tryz.underlying3
  a25 := Tryz.isAgg3
  z25 := Tryz.sizeOf3
  v25 := Tryz.zeroValue3
  t32 := Tryz.underlying188
  a32 := Tryz.isAgg188
  z32 := Tryz.sizeOf188
  v32 := Tryz.zeroValue188
  t35 := Tryz.underlying268
  a35 := Tryz.isAgg268
  z35 := Tryz.sizeOf268
  v35 := Tryz.zeroValue268
  t36 := Tryz.underlying269
  a36 := Tryz.isAgg269
  z36 := Tryz.sizeOf269
  v36 := Tryz.zeroValue269
  t41 := Tryz.underlying273
  a41 := Tryz.isAgg273
  z41 := Tryz.sizeOf273
  v41 := Tryz.zeroValue273
  t44 := Tryz.underlying276
  a44 := Tryz.isAgg276
  z44 := Tryz.sizeOf276
  v44 := Tryz.zeroValue276
  t46 := Tryz.underlying278
  a46 := Tryz.isAgg278
  z46 := Tryz.sizeOf278
  v46 := Tryz.zeroValue278
  t53 := Tryz.underlying352
  a53 := Tryz.isAgg352
  z53 := Tryz.sizeOf352
  v53 := Tryz.zeroValue352
  t57 := Tryz.underlying356
  a57 := Tryz.isAgg356
  z57 := Tryz.sizeOf356
  v57 := Tryz.zeroValue356
  t63 := Tryz.underlying424
  a63 := Tryz.isAgg424
  z63 := Tryz.sizeOf424
  v63 := Tryz.zeroValue424
  t64 := Tryz.underlying425
  a64 := Tryz.isAgg425
  z64 := Tryz.sizeOf425
  v64 := Tryz.zeroValue425 }


/-- slices.Sort's two contracts, at the fence that asks nothing. -/
theorem KX (m : Nat) : AnyZI.SortsIn Tryz.prog kh Fence.wide m :=
  ⟨fun blk off cap ss W hH hblk hsz => callsIn_wide.2 (AnyM.slices_Sort_int xX blk off cap ss W hH hblk hsz),
   fun p cap W => callsIn_wide.2 (AnyM.slices_Sort_int_none xX p cap W)⟩

set_option maxHeartbeats 1000000 in
theorem pG : afw Tryz.prog 176 244 3 8 encZ (fun x y => decide (x ≤ y)) intKeys := by
  intro Bm b nn D0 w hBm hm hown hmax hbytes
  have hseq : SeqGives Fence.wide 2 Tryz.prog 244 #[.pointer (some ⟨Bm, 0, none⟩)] encZ (fun ss => ss.Perm (intKeys D0)) (Maps.size D0) w :=
    AnyZI.keys_gives (ρ := l2) { MO with } Fence.wide _ trivial rfl (by omega) Bm b nn D0 w hBm hm hown
  have cS := AnyZI.sorted_in u6 Fence.wide 5 trivial trivial trivial trivial rfl (by omega) (KX _) (enters_of Tryz.func35 (by kernel_rfl) rfl) 244 #[.pointer (some ⟨Bm, 0, none⟩)] trivial (enters_of Tryz.func244 (by kernel_rfl) rfl) _ _ hmax hbytes w hseq
  change CallsIn _ _ Tryz.prog 176 _ _ _ at cS
  exact callsIn_wide.1 cS

theorem extOK : iB Tryz.prog 176 (.keys false [244] 3) :=
  agu (fn := Tryz.f176) Tryz.func176 (by kernel_rfl) (by decide +kernel) (by kernel_rfl) (by kernel_rfl) fun g hg => by
    obtain rfl := List.mem_singleton.1 hg
    exact pG

end Go.Proofs.YtopigipibioclaaGreatDoor.Ev.Ky176
