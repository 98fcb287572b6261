/- A part of the proof of the law ReplayDiffers. CONDITIONS: those that each theorem names. -/
import Derived.Test.YtfhgiadogeephaaGreatDoorRDB5
namespace Go.Proofs.YtfhgiadogeephaaGreatDoor
open Go.ChangeShapes Go.WideShapes Go.ChangeAt Go.RowKit Go.Ai
set_option maxRecDepth 100000
theorem closed8 : ((Rows.replayDiffersUptoRow.maps == (Tryz.f3.params.toList ++ (Rows.OpenSpec.upto Rows.replayDiffersSpec).bare.plain.varTypes Tryz.prog).any (Tryz.prog.mapsRec ·)) && (Rows.replayDiffersUptoRow.ifaces == (Tryz.f3.params.toList ++ (Rows.OpenSpec.upto Rows.replayDiffersSpec).bare.plain.varTypes Tryz.prog).any (Tryz.prog.ifacesRec ·)) && (Rows.replayDiffersUptoRow.mapsOut == Tryz.prog.mapsAmong Tryz.f3.resultTypes.toList) && (Rows.replayDiffersUptoRow.loops == (Tryz.f3.params.toList ++ (Rows.OpenSpec.upto Rows.replayDiffersSpec).bare.plain.varTypes Tryz.prog).any (Tryz.prog.loopsFrom ·)) && (Rows.replayDiffersUptoRow.wideKeys == (Tryz.f3.params.toList ++ (Rows.OpenSpec.upto Rows.replayDiffersSpec).bare.plain.varTypes Tryz.prog ++ Tryz.f3.resultTypes.toList).any (Tryz.prog.wideKeysFrom ·))) = true := by kernel_rfl
theorem closed9 : ((Rows.OpenSpec.upto Rows.replayDiffersSpec).bare.vars.all (Tryz.prog.varReadable ·) && Tryz.f3.resultTypes.all (fun t => Tryz.prog.readableRec t && decide (t < Tryz.prog.types.size)) && (Rows.replayDiffersUptoRow.ifacesOut == Tryz.f3.resultTypes.toList.any (Tryz.prog.ifacesRec ·)) && (Rows.replayDiffersUptoRow.loopsOut == Tryz.f3.resultTypes.toList.any (Tryz.prog.loopsFrom ·))) = true := by kernel_rfl
theorem closed10 : (Rows.replayDiffersUptoRow.plainKeys == Tryz.prog.plainKeys) = true := by kernel_rfl
theorem closed11 : (Rows.replayDiffersUptoRow.shortTexts.isNone && Tryz.prog.stopsHeard) = true := by kernel_rfl
theorem closed12 : Tryz.prog.mayEnter = true := by kernel_rfl
theorem closed13 : (Rows.replayDiffersUptoRow.lifted == Tryz.prog.liftsFinal) = true := by kernel_rfl
theorem closed14 : ((Tryz.prog.make == some Rows.replayDiffersUptoRow.make) && (Rows.replayDiffersUptoRow.kinds == (if Rows.replayDiffersUptoRow.domain.isEmpty then [] else Tryz.f3.params.toList.map fun t => match Tryz.prog.underlying t with | some (.int k) => some k | _ => none)) && (Rows.replayDiffersUptoRow.pinned == Rows.replayDiffersUptoRow.pinnedBy)) = true := by kernel_rfl
theorem closed15 : ((Rows.replayDiffersUptoRow.veiled == (Tryz.f3.params.toList ++ (Rows.OpenSpec.upto Rows.replayDiffersSpec).bare.plain.varTypes Tryz.prog ++ Tryz.f3.resultTypes.toList).any (Tryz.prog.veiledRec ·)) && Rows.replayDiffersUptoRow.veiledFits Tryz.prog Tryz.f3.params.toList (Tryz.f3.params.toList ++ (Rows.OpenSpec.upto Rows.replayDiffersSpec).bare.plain.varTypes Tryz.prog ++ Tryz.f3.resultTypes.toList)) = true := by kernel_rfl
end Go.Proofs.YtfhgiadogeephaaGreatDoor

