/- A part of the proof of the law SerialTexts. CONDITIONS: those that each theorem names. -/
import Derived.Test.YtlbjmpbgnbpcoaaGreatDoorSTB3
namespace Go.Proofs.YtlbjmpbgnbpcoaaGreatDoor
open Go.ChangeShapes Go.WideShapes Go.ChangeAt Go.RowKit Go.Ai
set_option maxRecDepth 100000
theorem closed4 : (Rows.serialTextsUptoRow.named == Tryz.prog.varsNamed 3) = true := by kernel_rfl
end Go.Proofs.YtlbjmpbgnbpcoaaGreatDoor

