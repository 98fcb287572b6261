/- A part of the proof of the law ReconFresh. CONDITIONS: those that each theorem names. -/
import Derived.Test.YtneoghpfbgjaiaaGreatDoorS16FrB4
namespace Go.Proofs.YtneoghpfbgjaiaaGreatDoor
open Go.ChangeShapes Go.WideShapes Go.ChangeAt Go.RowKit Go.Ai
set_option maxRecDepth 100000
theorem law_named : Tryz.prog.funcNamed Rows.reconFreshRow.func = some 4 := by kernel_rfl
theorem closed5 : (Rows.reconFreshRow.wf (OpenSpec.ofChange Rows.reconFreshSpec) && laidOutB Tryz.prog && mapsRowed Tryz.prog) = true := by kernel_rfl
theorem closed6 : (Tryz.f4.params.all (Tryz.prog.readableRec ·) && namedTie Tryz.prog Rows.reconFreshRow.named Rows.reconFreshSpec.vars) = true := by kernel_rfl
theorem closed7 : ((Rows.reconFreshRow.stops == []) && (Tryz.prog.stops == []) && (Rows.reconFreshRow.knobs == []) && (Tryz.prog.stopKnobs == [])) = true := by kernel_rfl
end Go.Proofs.YtneoghpfbgjaiaaGreatDoor
