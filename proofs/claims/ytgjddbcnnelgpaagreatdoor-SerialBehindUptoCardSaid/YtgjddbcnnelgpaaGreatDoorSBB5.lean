/- A part of the proof of the law SerialBehind. CONDITIONS: those that each theorem names. -/
import Derived.Test.YtgjddbcnnelgpaaGreatDoorSBB4
namespace Go.Proofs.YtgjddbcnnelgpaaGreatDoor
open Go.ChangeShapes Go.WideShapes Go.ChangeAt Go.RowKit Go.Ai
set_option maxRecDepth 100000
theorem law_named : Tryz.prog.funcNamed Rows.serialBehindUptoRow.func = some 3 := by kernel_rfl
theorem closed5 : (Rows.serialBehindUptoRow.wf (OpenSpec.ofChange (Rows.OpenSpec.upto Rows.serialBehindSpec).bare) && laidOutB Tryz.prog && mapsRowed Tryz.prog) = true := by kernel_rfl
theorem closed6 : (Tryz.f3.params.all (Tryz.prog.readableRec ·) && namedTie Tryz.prog Rows.serialBehindUptoRow.named (Rows.OpenSpec.upto Rows.serialBehindSpec).bare.vars) = true := by kernel_rfl
theorem closed7 : ((Rows.serialBehindUptoRow.stops == []) && (Tryz.prog.stops == []) && (Rows.serialBehindUptoRow.knobs == []) && (Tryz.prog.stopKnobs == [])) = true := by kernel_rfl
end Go.Proofs.YtgjddbcnnelgpaaGreatDoor
