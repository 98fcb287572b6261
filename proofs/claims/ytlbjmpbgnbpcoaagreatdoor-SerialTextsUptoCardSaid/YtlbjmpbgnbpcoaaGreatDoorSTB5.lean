/- A part of the proof of the law SerialTexts. CONDITIONS: those that each theorem names. -/
import Derived.Test.YtlbjmpbgnbpcoaaGreatDoorSTB4
namespace Go.Proofs.YtlbjmpbgnbpcoaaGreatDoor
open Go.ChangeShapes Go.WideShapes Go.ChangeAt Go.RowKit Go.Ai
set_option maxRecDepth 100000
theorem law_named : Tryz.prog.funcNamed Rows.serialTextsUptoRow.func = some 3 := by kernel_rfl
theorem closed5 : (Rows.serialTextsUptoRow.wf (OpenSpec.ofChange (Rows.OpenSpec.upto Rows.serialTextsSpec).bare) && laidOutB Tryz.prog && mapsRowed Tryz.prog) = true := by kernel_rfl
theorem closed6 : (Tryz.f3.params.all (Tryz.prog.readableRec ·) && namedTie Tryz.prog Rows.serialTextsUptoRow.named (Rows.OpenSpec.upto Rows.serialTextsSpec).bare.vars) = true := by kernel_rfl
theorem closed7 : ((Rows.serialTextsUptoRow.stops == []) && (Tryz.prog.stops == []) && (Rows.serialTextsUptoRow.knobs == []) && (Tryz.prog.stopKnobs == [])) = true := by kernel_rfl
end Go.Proofs.YtlbjmpbgnbpcoaaGreatDoor

