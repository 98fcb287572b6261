/- A part of the proof of the law ShardParts. CONDITIONS: those that each theorem names. -/
import Derived.Test.YtdcindnnbmilaaaGreatDoorSPB
namespace Go.Proofs.YtdcindnnbmilaaaGreatDoor
open Go.ChangeShapes Go.WideShapes Go.ChangeAt Go.RowKit Go.Ai
set_option maxRecDepth 100000
theorem card_by : Rows.shardPartsRow.wfByText (OpenSpec.ofChange Rows.shardPartsSpec) = true := by kernel_rfl
theorem card_main : Tryz.pinned.checked.prog.mainIs = some (true, "8d5a3c521f33c3d6eb9a9e28e8d9a6d212360584719366d8c1fa5a23b43eaebe".toList) := by kernel_rfl
theorem card_looks : true = Tryz.pinned.checked.prog.looks [] := by kernel_rfl
end Go.Proofs.YtdcindnnbmilaaaGreatDoor
