/- A part of the proof of the law ReconNil: the closed run and what the row wants of it. CONDITIONS: none. -/
import Derived.Test.YtneoghpfbgjaiaaGreatDoorSeat16LawA
namespace Go.Proofs.YtneoghpfbgjaiaaGreatDoor
open Go.ChangeShapes Go.WideShapes Go.ChangeAt Go.RowKit Go.Ai
set_option maxRecDepth 100000
theorem nil_named : Tryz.prog.funcNamed Rows.reconNilRow.func = some 8 := by kernel_rfl
theorem nil_closed : joinedFacts Tryz.prog 8 Tryz.f8 Rows.reconNilSpec Rows.reconNilRow = true := by kernel_rfl
end Go.Proofs.YtneoghpfbgjaiaaGreatDoor
