/- A part of the proof of the law WorkerNames. CONDITIONS: those that each theorem names. -/
import Derived.Test.YtkgfpmbdiidlfaaGreatDoorS17NamesLawA
namespace Go.Proofs.YtkgfpmbdiidlfaaGreatDoor
open Go.ChangeShapes Go.WideShapes Go.ChangeAt Go.RowKit Go.Ai
set_option maxRecDepth 100000
theorem law_named : Tryz.prog.funcNamed Rows.workerNamesRow.func = some 3 := by kernel_rfl
theorem law_closed : joinedFacts Tryz.prog 3 Tryz.f3 Rows.workerNamesSpec Rows.workerNamesRow = true := by kernel_rfl
end Go.Proofs.YtkgfpmbdiidlfaaGreatDoor
