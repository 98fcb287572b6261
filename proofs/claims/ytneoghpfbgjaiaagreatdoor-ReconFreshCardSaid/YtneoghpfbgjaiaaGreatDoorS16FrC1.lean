/- A part of the proof of the law ReconFresh. CONDITIONS: those that each theorem names. -/
import Derived.Test.YtneoghpfbgjaiaaGreatDoorS16FrB
namespace Go.Proofs.YtneoghpfbgjaiaaGreatDoor
open Go.ChangeShapes Go.WideShapes Go.ChangeAt Go.RowKit Go.Ai
set_option maxRecDepth 100000
theorem card_by : Rows.reconFreshRow.wfByText (OpenSpec.ofChange Rows.reconFreshSpec) = true := by kernel_rfl
theorem card_main : Tryz.pinned.checked.prog.mainIs = some (true, "80b4b99179f145ad263222eed095838d9d70283aa7e16bbbe2b49efc812f7afc".toList) := by kernel_rfl
theorem card_looks : true = Tryz.pinned.checked.prog.looks [] := by kernel_rfl
end Go.Proofs.YtneoghpfbgjaiaaGreatDoor
