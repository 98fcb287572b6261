/- A part of the proof of the law SerialTexts. CONDITIONS: those that each theorem names. -/
import Derived.Test.YtlbjmpbgnbpcoaaGreatDoorSTB
namespace Go.Proofs.YtlbjmpbgnbpcoaaGreatDoor
open Go.ChangeShapes Go.WideShapes Go.ChangeAt Go.RowKit Go.Ai
set_option maxRecDepth 100000
theorem card_by : Rows.serialTextsUptoRow.wfByText (Rows.OpenSpec.upto Rows.serialTextsSpec) = true := by kernel_rfl
theorem card_main : Tryz.pinned.checked.prog.mainIs = some (true, "76543c6bc57adc9582653af8f7346f151a3fd3c2c4d33fdff14a5feb1a893b38".toList) := by kernel_rfl
theorem card_looks : true = Tryz.pinned.checked.prog.looks [] := by kernel_rfl
end Go.Proofs.YtlbjmpbgnbpcoaaGreatDoor

