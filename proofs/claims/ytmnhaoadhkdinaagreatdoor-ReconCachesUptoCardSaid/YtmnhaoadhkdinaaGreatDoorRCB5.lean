/- A part of the proof of the law ReconCaches. CONDITIONS: those that each theorem names. -/
import Derived.Test.YtmnhaoadhkdinaaGreatDoorRCB4
namespace Go.Proofs.YtmnhaoadhkdinaaGreatDoor
open Go.ChangeShapes Go.WideShapes Go.ChangeAt Go.RowKit Go.Ai
set_option maxRecDepth 100000
theorem law_named : Tryz.prog.funcNamed Rows.reconCachesUptoRow.func = some 3 := by kernel_rfl
theorem closed5 : (Rows.reconCachesUptoRow.wf (OpenSpec.ofChange (Rows.OpenSpec.upto Rows.reconCachesSpec).bare) && laidOutB Tryz.prog && mapsRowed Tryz.prog) = true := by kernel_rfl
theorem closed6 : (Tryz.f3.params.all (Tryz.prog.readableRec ·) && namedTie Tryz.prog Rows.reconCachesUptoRow.named (Rows.OpenSpec.upto Rows.reconCachesSpec).bare.vars) = true := by kernel_rfl
theorem closed7 : ((Rows.reconCachesUptoRow.stops == []) && (Tryz.prog.stops == []) && (Rows.reconCachesUptoRow.knobs == []) && (Tryz.prog.stopKnobs == [])) = true := by kernel_rfl
end Go.Proofs.YtmnhaoadhkdinaaGreatDoor

