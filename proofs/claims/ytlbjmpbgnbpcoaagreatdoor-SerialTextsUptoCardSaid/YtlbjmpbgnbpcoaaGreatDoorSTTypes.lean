/- A part of the proof of the law SerialTexts. CONDITIONS: those that each theorem names. -/
import Derived.Test.YtlbjmpbgnbpcoaaGreatDoorPartA
namespace Go.Proofs.YtlbjmpbgnbpcoaaGreatDoor
open Go Go.Ai
set_option maxRecDepth 100000
theorem sz2 : sizeT Tryz.prog 2 = some 1 := by kernel_rfl
theorem ag2 : isAggT Tryz.prog 2 = some false := by kernel_rfl
theorem tg2 : tagS Tryz.prog 2 = 0 := by kernel_rfl
theorem zr2 : zeroT Tryz.prog 2 = some (.int .i64 0) := by kernel_rfl
theorem sz3 : sizeT Tryz.prog 3 = some 1 := by kernel_rfl
theorem ag3 : isAggT Tryz.prog 3 = some false := by kernel_rfl
theorem tg3 : tagS Tryz.prog 3 = 0 := by kernel_rfl
theorem zr3 : zeroT Tryz.prog 3 = some (.int .i64 0) := by kernel_rfl
theorem sz5 : sizeT Tryz.prog 5 = some 1 := by kernel_rfl
theorem ag5 : isAggT Tryz.prog 5 = some false := by kernel_rfl
theorem tg5 : tagS Tryz.prog 5 = 0 := by kernel_rfl
theorem zr5 : zeroT Tryz.prog 5 = some (.int .u8 0) := by kernel_rfl
theorem sz9 : sizeT Tryz.prog 9 = some 1 := by kernel_rfl
theorem ag9 : isAggT Tryz.prog 9 = some false := by kernel_rfl
theorem tg9 : tagS Tryz.prog 9 = 0 := by kernel_rfl
theorem zr9 : zeroT Tryz.prog 9 = some (.str []) := by kernel_rfl
theorem sz22 : sizeT Tryz.prog 22 = some 1 := by kernel_rfl
theorem ag22 : isAggT Tryz.prog 22 = some false := by kernel_rfl
theorem tg22 : tagS Tryz.prog 22 = 0 := by kernel_rfl
theorem zr22 : zeroT Tryz.prog 22 = some (.nils) := by kernel_rfl
theorem sz23 : sizeT Tryz.prog 23 = some 1 := by kernel_rfl
theorem ag23 : isAggT Tryz.prog 23 = some false := by kernel_rfl
theorem tg23 : tagS Tryz.prog 23 = 0 := by kernel_rfl
theorem zr23 : zeroT Tryz.prog 23 = some (.nils) := by kernel_rfl
theorem sz25 : sizeT Tryz.prog 25 = some 5 := by kernel_rfl
theorem ag25 : isAggT Tryz.prog 25 = some true := by kernel_rfl
theorem tg25 : tagS Tryz.prog 25 = 0 := by kernel_rfl
theorem zr25 : zeroT Tryz.prog 25 = some (.agg [.int .i64 0, .int .i64 0, .int .i64 0, .int .i64 0, .nils]) := by kernel_rfl
theorem sz36 : sizeT Tryz.prog 36 = some 1 := by kernel_rfl
theorem ag36 : isAggT Tryz.prog 36 = some false := by kernel_rfl
theorem tg36 : tagS Tryz.prog 36 = 0 := by kernel_rfl
theorem zr36 : zeroT Tryz.prog 36 = some (.nils) := by kernel_rfl
theorem sz79 : sizeT Tryz.prog 79 = some 3 := by kernel_rfl
theorem ag79 : isAggT Tryz.prog 79 = some true := by kernel_rfl
theorem tg79 : tagS Tryz.prog 79 = 0 := by kernel_rfl
theorem zr79 : zeroT Tryz.prog 79 = some (.agg [.int .i64 0, .int .i64 0, .str []]) := by kernel_rfl
theorem sz95 : sizeT Tryz.prog 95 = some 1 := by kernel_rfl
theorem ag95 : isAggT Tryz.prog 95 = some false := by kernel_rfl
theorem tg95 : tagS Tryz.prog 95 = 0 := by kernel_rfl
theorem zr95 : zeroT Tryz.prog 95 = some (.nilp) := by kernel_rfl
theorem sz96 : sizeT Tryz.prog 96 = some 1 := by kernel_rfl
theorem ag96 : isAggT Tryz.prog 96 = some false := by kernel_rfl
theorem tg96 : tagS Tryz.prog 96 = 0 := by kernel_rfl
theorem zr96 : zeroT Tryz.prog 96 = some (.nils) := by kernel_rfl
theorem sz98 : sizeT Tryz.prog 98 = some 2 := by kernel_rfl
theorem ag98 : isAggT Tryz.prog 98 = some true := by kernel_rfl
theorem tg98 : tagS Tryz.prog 98 = 99 := by kernel_rfl
theorem zr98 : zeroT Tryz.prog 98 = some (.agg [.nilp, .nils]) := by kernel_rfl
theorem sz149 : sizeT Tryz.prog 149 = some 1 := by kernel_rfl
theorem ag149 : isAggT Tryz.prog 149 = some false := by kernel_rfl
theorem tg149 : tagS Tryz.prog 149 = 0 := by kernel_rfl
theorem zr149 : zeroT Tryz.prog 149 = some (.nilp) := by kernel_rfl
end Go.Proofs.YtlbjmpbgnbpcoaaGreatDoor

