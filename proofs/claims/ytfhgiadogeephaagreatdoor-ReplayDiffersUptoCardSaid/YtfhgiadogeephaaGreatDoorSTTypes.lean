/- A part of the proof of the law ReplayDiffers. CONDITIONS: those that each theorem names. -/
import Derived.Test.YtfhgiadogeephaaGreatDoorPartA
namespace Go.Proofs.YtfhgiadogeephaaGreatDoor
open Go Go.Ai
set_option maxRecDepth 100000
theorem sz2 : sizeT Tryz.prog 2 = some 1 := by kernel_rfl
theorem ag2 : isAggT Tryz.prog 2 = some false := by kernel_rfl
theorem sz3 : sizeT Tryz.prog 3 = some 1 := by kernel_rfl
theorem ag3 : isAggT Tryz.prog 3 = some false := by kernel_rfl
theorem sz5 : sizeT Tryz.prog 5 = some 1 := by kernel_rfl
theorem ag5 : isAggT Tryz.prog 5 = some false := by kernel_rfl
theorem zr5 : zeroT Tryz.prog 5 = some (.int .u8 0) := by kernel_rfl
theorem sz9 : sizeT Tryz.prog 9 = some 1 := by kernel_rfl
theorem ag9 : isAggT Tryz.prog 9 = some false := by kernel_rfl
theorem zr9 : zeroT Tryz.prog 9 = some (.str []) := by kernel_rfl
theorem sz22 : sizeT Tryz.prog 22 = some 1 := by kernel_rfl
theorem ag22 : isAggT Tryz.prog 22 = some false := by kernel_rfl
theorem zr22 : zeroT Tryz.prog 22 = some (.nils) := by kernel_rfl
theorem sz23 : sizeT Tryz.prog 23 = some 1 := by kernel_rfl
theorem ag23 : isAggT Tryz.prog 23 = some false := by kernel_rfl
theorem sz25 : sizeT Tryz.prog 25 = some 4 := by kernel_rfl
theorem ag25 : isAggT Tryz.prog 25 = some true := by kernel_rfl
theorem sz26 : sizeT Tryz.prog 26 = some 1 := by kernel_rfl
theorem ag26 : isAggT Tryz.prog 26 = some false := by kernel_rfl
theorem sz28 : sizeT Tryz.prog 28 = some 5 := by kernel_rfl
theorem ag28 : isAggT Tryz.prog 28 = some true := by kernel_rfl
theorem tg28 : tagS Tryz.prog 28 = 0 := by kernel_rfl
theorem zr28 : zeroT Tryz.prog 28 = some (.agg [.int .i64 0, .int .i64 0, .int .i64 0, .int .i64 0, .nils]) := by kernel_rfl
theorem sz31 : sizeT Tryz.prog 31 = some 3 := by kernel_rfl
theorem ag31 : isAggT Tryz.prog 31 = some true := by kernel_rfl
theorem tg31 : tagS Tryz.prog 31 = 0 := by kernel_rfl
theorem zr31 : zeroT Tryz.prog 31 = some (.agg [.int .i64 0, .int .i64 0, .int .i64 0]) := by kernel_rfl
theorem tg139 : tagS Tryz.prog 139 = 140 := by kernel_rfl
theorem zr139 : zeroT Tryz.prog 139 = some (.agg [.nilp, .nils]) := by kernel_rfl
theorem sz217 : sizeT Tryz.prog 217 = some 3 := by kernel_rfl
theorem ag217 : isAggT Tryz.prog 217 = some true := by kernel_rfl
theorem tg217 : tagS Tryz.prog 217 = 0 := by kernel_rfl
theorem zr217 : zeroT Tryz.prog 217 = some (.agg [.int .i64 0, .int .i64 0, .str []]) := by kernel_rfl
end Go.Proofs.YtfhgiadogeephaaGreatDoor

