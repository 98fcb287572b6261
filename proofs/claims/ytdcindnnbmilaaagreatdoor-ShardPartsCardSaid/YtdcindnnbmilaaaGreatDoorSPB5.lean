/- A part of the proof of the law ShardParts. CONDITIONS: those that each theorem names. -/
import Derived.Test.YtdcindnnbmilaaaGreatDoorSPB4
namespace Go.Proofs.YtdcindnnbmilaaaGreatDoor
open Go.ChangeShapes Go.WideShapes Go.ChangeAt Go.RowKit Go.Ai
set_option maxRecDepth 100000
theorem law_named : Tryz.prog.funcNamed Rows.shardPartsRow.func = some 3 := by kernel_rfl
theorem closed5 : (Rows.shardPartsRow.wf (OpenSpec.ofChange Rows.shardPartsSpec) && laidOutB Tryz.prog && mapsRowed Tryz.prog) = true := by kernel_rfl
theorem closed6 : (Tryz.f3.params.all (Tryz.prog.readableRec ·) && namedTie Tryz.prog Rows.shardPartsRow.named Rows.shardPartsSpec.vars) = true := by kernel_rfl
theorem closed7 : ((Rows.shardPartsRow.stops == []) && (Tryz.prog.stops == []) && (Rows.shardPartsRow.knobs == []) && (Tryz.prog.stopKnobs == [])) = true := by kernel_rfl
end Go.Proofs.YtdcindnnbmilaaaGreatDoor
