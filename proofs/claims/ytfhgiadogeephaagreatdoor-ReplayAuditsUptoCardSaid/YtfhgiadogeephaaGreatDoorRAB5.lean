/- A part of the proof of the law ReplayAudits. CONDITIONS: those that each theorem names. -/
import Derived.Test.YtfhgiadogeephaaGreatDoorRAB4
namespace Go.Proofs.YtfhgiadogeephaaGreatDoor
open Go.ChangeShapes Go.WideShapes Go.ChangeAt Go.RowKit Go.Ai
set_option maxRecDepth 100000
theorem law_named : Tryz.prog.funcNamed Rows.replayAuditsUptoRow.func = some 4 := by kernel_rfl
theorem closed5 : (Rows.replayAuditsUptoRow.wf (OpenSpec.ofChange (Rows.OpenSpec.upto Rows.replayAuditsSpec).bare) && laidOutB Tryz.prog && mapsRowed Tryz.prog) = true := by kernel_rfl
theorem closed6 : (Tryz.f4.params.all (Tryz.prog.readableRec ·) && namedTie Tryz.prog Rows.replayAuditsUptoRow.named (Rows.OpenSpec.upto Rows.replayAuditsSpec).bare.vars) = true := by kernel_rfl
theorem closed7 : ((Rows.replayAuditsUptoRow.stops == []) && (Tryz.prog.stops == []) && (Rows.replayAuditsUptoRow.knobs == []) && (Tryz.prog.stopKnobs == [])) = true := by kernel_rfl
end Go.Proofs.YtfhgiadogeephaaGreatDoor

