/- A part of the proof of the law ExecNil. CONDITIONS: those that each theorem names. -/
import Derived.Test.YtcjflpibkaemhaaGreatDoorS18LawA
namespace Go.Proofs.YtcjflpibkaemhaaGreatDoor
open Go.ChangeShapes Go.WideShapes Go.ChangeAt Go.RowKit Go.Ai
set_option maxRecDepth 100000
theorem law_named : Tryz.prog.funcNamed Rows.execNilRow.func = some 3 := by kernel_rfl
theorem law_closed : joinedFacts Tryz.prog 3 Tryz.f3 Rows.execNilSpec Rows.execNilRow = true := by kernel_rfl
end Go.Proofs.YtcjflpibkaemhaaGreatDoor
