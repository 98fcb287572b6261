/- A part of the proof of the law ReplayDiffers. CONDITIONS: those that each theorem names. -/
import Derived.Shelf.Bytes.SlCountOne
import Derived.Shelf.Bytes.SlIndexAt
import Derived.Test.YtfhgiadogeephaaGreatDoorPartC
import Derived.Test.YtfhgiadogeephaaGreatDoorPartA
/-! bytes.Count and bytes.Index at one byte, off the shelf. -/
namespace Go.Proofs.YtfhgiadogeephaaGreatDoor
open Go Go.Ai
set_option maxRecDepth 100000
def layCnt_ren : Go.Shelf.Ren := ⟨fun | 13 => 159 | 24 => 218 | 25 => 219 | 12 => 160 | 31 => 290 | 19 => 220 | 20 => 22 | 21 => 221 | 22 => 222 | 23 => 223 | 29 => 291 | 30 => 292 | n => n, fun | 22 => 22 | 3 => 3 | 4 => 4 | 0 => 0 | 5 => 5 | 9 => 9 | 33 => 336 | 40 => 405 | 39 => 345 | n => n, fun | 0 => 2 | n => n⟩
theorem layCnt : Go.Proofs.SlLaysB.n13 Tryz.prog layCnt_ren := {
  mixed := by kernel_rfl
  f13 := Tryz.func159.trans (congrArg some (by kernel_rfl))
  f25 := Tryz.func219.trans (congrArg some (by kernel_rfl))
  t0 := Tryz.underlying0
  a0 := Tryz.isAgg0
  z0 := Tryz.sizeOf0
  v0 := Tryz.zeroValue0
  t3 := Tryz.underlying3
  a3 := Tryz.isAgg3
  z3 := Tryz.sizeOf3
  v3 := Tryz.zeroValue3
  t4 := Tryz.underlying4
  a4 := Tryz.isAgg4
  z4 := Tryz.sizeOf4
  v4 := Tryz.zeroValue4
  t5 := Tryz.underlying5
  a5 := Tryz.isAgg5
  z5 := Tryz.sizeOf5
  v5 := Tryz.zeroValue5
  t22 := Tryz.underlying22
  a22 := Tryz.isAgg22
  z22 := Tryz.sizeOf22
  v22 := Tryz.zeroValue22 }
def layIx_ren : Go.Shelf.Ren := ⟨fun | 185 => 160 | 187 => 220 | 115 => 22 | 253 => 221 | 224 => 222 | 254 => 223 | 255 => 291 | 291 => 292 | n => n, fun | 37 => 22 | 3 => 3 | 4 => 4 | 0 => 0 | 5 => 5 | 46 => 336 | 9 => 9 | 146 => 405 | 51 => 345 | n => n, fun | 1 => 2 | n => n⟩
theorem layIx : Go.Proofs.Lays.n185 Tryz.prog layIx_ren := {
  mixed := by kernel_rfl
  f115 := Tryz.func22.trans (congrArg some (by kernel_rfl))
  f185 := Tryz.func160.trans (congrArg some (by kernel_rfl))
  f187 := Tryz.func220.trans (congrArg some (by kernel_rfl))
  f224 := Tryz.func222.trans (congrArg some (by kernel_rfl))
  f253 := Tryz.func221.trans (congrArg some (by kernel_rfl))
  f254 := Tryz.func223.trans (congrArg some (by kernel_rfl))
  f255 := Tryz.func291.trans (congrArg some (by kernel_rfl))
  f291 := Tryz.func292.trans (congrArg some (by kernel_rfl))
  t0 := Tryz.underlying0
  a0 := Tryz.isAgg0
  z0 := Tryz.sizeOf0
  v0 := Tryz.zeroValue0
  t3 := Tryz.underlying3
  a3 := Tryz.isAgg3
  z3 := Tryz.sizeOf3
  v3 := Tryz.zeroValue3
  t4 := Tryz.underlying4
  a4 := Tryz.isAgg4
  z4 := Tryz.sizeOf4
  v4 := Tryz.zeroValue4
  t5 := Tryz.underlying5
  a5 := Tryz.isAgg5
  z5 := Tryz.sizeOf5
  v5 := Tryz.zeroValue5
  t9 := Tryz.underlying9
  a9 := Tryz.isAgg9
  z9 := Tryz.sizeOf9
  v9 := Tryz.zeroValue9
  t37 := Tryz.underlying22
  a37 := Tryz.isAgg22
  z37 := Tryz.sizeOf22
  v37 := Tryz.zeroValue22
  t46 := Tryz.underlying336
  a46 := Tryz.isAgg336
  z46 := Tryz.sizeOf336
  v46 := Tryz.zeroValue336
  t51 := Tryz.underlying345
  a51 := Tryz.isAgg345
  z51 := Tryz.sizeOf345
  v51 := Tryz.zeroValue345
  t146 := Tryz.underlying405
  a146 := Tryz.isAgg405
  z146 := Tryz.sizeOf405
  v146 := Tryz.zeroValue405
  g1 := by kernel_rfl }
theorem cntC : CntC Tryz.prog 159 (fun t c => (Lib.countByte t c : Int)) := by
  rintro p n c b2 o2 d xs cv w hx (⟨rfl, rfl, rfl⟩ | ⟨a, rfl, hc⟩) h2
  · obtain rfl := List.length_eq_zero_iff.1 hx
    exact Any.bytes_Count_one_nil layCnt b2 o2 d cv w h2
  · exact Any.bytes_Count_one_at layCnt a n c b2 o2 d xs cv w hx hc h2
theorem ixC : CntC Tryz.prog 160 Lib.indexByte := by
  rintro p n c b2 o2 d xs cv w hx (⟨rfl, rfl, rfl⟩ | ⟨a, rfl, hc⟩) h2
  · obtain rfl := List.length_eq_zero_iff.1 hx
    exact Any.bytes_Index_one_nil layIx b2 o2 d cv w h2
  · exact Any.bytes_Index_one_at layIx a n c b2 o2 d xs cv w hx hc h2
end Go.Proofs.YtfhgiadogeephaaGreatDoor

