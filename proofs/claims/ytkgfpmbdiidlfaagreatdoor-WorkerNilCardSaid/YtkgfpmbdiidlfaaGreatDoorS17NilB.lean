/- A part of the proof of the law WorkerNil. CONDITIONS: those that each theorem names. -/
import Derived.Test.YtkgfpmbdiidlfaaGreatDoorS17NilA
namespace Go.Proofs.YtkgfpmbdiidlfaaGreatDoor
open Go.ChangeShapes Go.WideShapes Go.ChangeAt Go.RowKit Go.Ai
set_option maxRecDepth 100000
theorem law_named : Tryz.prog.funcNamed Rows.workerNilRow.func = some 4 := by kernel_rfl
theorem law_closed : joinedFacts Tryz.prog 4 Tryz.f4 Rows.workerNilSpec Rows.workerNilRow = true := by kernel_rfl
end Go.Proofs.YtkgfpmbdiidlfaaGreatDoor
