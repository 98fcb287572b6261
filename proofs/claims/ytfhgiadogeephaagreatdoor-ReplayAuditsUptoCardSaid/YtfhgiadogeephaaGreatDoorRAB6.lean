/- A part of the proof of the law ReplayAudits. CONDITIONS: those that each theorem names. -/
import Derived.Test.YtfhgiadogeephaaGreatDoorRAB5
namespace Go.Proofs.YtfhgiadogeephaaGreatDoor
open Go.ChangeShapes Go.WideShapes Go.ChangeAt Go.RowKit Go.Ai
set_option maxRecDepth 100000
theorem closed8 : ((Rows.replayAuditsUptoRow.maps == (Tryz.f4.params.toList ++ (Rows.OpenSpec.upto Rows.replayAuditsSpec).bare.plain.varTypes Tryz.prog).any (Tryz.prog.mapsRec ·)) && (Rows.replayAuditsUptoRow.ifaces == (Tryz.f4.params.toList ++ (Rows.OpenSpec.upto Rows.replayAuditsSpec).bare.plain.varTypes Tryz.prog).any (Tryz.prog.ifacesRec ·)) && (Rows.replayAuditsUptoRow.mapsOut == Tryz.prog.mapsAmong Tryz.f4.resultTypes.toList) && (Rows.replayAuditsUptoRow.loops == (Tryz.f4.params.toList ++ (Rows.OpenSpec.upto Rows.replayAuditsSpec).bare.plain.varTypes Tryz.prog).any (Tryz.prog.loopsFrom ·)) && (Rows.replayAuditsUptoRow.wideKeys == (Tryz.f4.params.toList ++ (Rows.OpenSpec.upto Rows.replayAuditsSpec).bare.plain.varTypes Tryz.prog ++ Tryz.f4.resultTypes.toList).any (Tryz.prog.wideKeysFrom ·))) = true := by kernel_rfl
theorem closed9 : ((Rows.OpenSpec.upto Rows.replayAuditsSpec).bare.vars.all (Tryz.prog.varReadable ·) && Tryz.f4.resultTypes.all (fun t => Tryz.prog.readableRec t && decide (t < Tryz.prog.types.size)) && (Rows.replayAuditsUptoRow.ifacesOut == Tryz.f4.resultTypes.toList.any (Tryz.prog.ifacesRec ·)) && (Rows.replayAuditsUptoRow.loopsOut == Tryz.f4.resultTypes.toList.any (Tryz.prog.loopsFrom ·))) = true := by kernel_rfl
theorem closed10 : (Rows.replayAuditsUptoRow.plainKeys == Tryz.prog.plainKeys) = true := by kernel_rfl
theorem closed11 : (Rows.replayAuditsUptoRow.shortTexts.isNone && Tryz.prog.stopsHeard) = true := by kernel_rfl
theorem closed12 : Tryz.prog.mayEnter = true := by kernel_rfl
theorem closed13 : (Rows.replayAuditsUptoRow.lifted == Tryz.prog.liftsFinal) = true := by kernel_rfl
theorem closed14 : ((Tryz.prog.make == some Rows.replayAuditsUptoRow.make) && (Rows.replayAuditsUptoRow.kinds == (if Rows.replayAuditsUptoRow.domain.isEmpty then [] else Tryz.f4.params.toList.map fun t => match Tryz.prog.underlying t with | some (.int k) => some k | _ => none)) && (Rows.replayAuditsUptoRow.pinned == Rows.replayAuditsUptoRow.pinnedBy)) = true := by kernel_rfl
theorem closed15 : ((Rows.replayAuditsUptoRow.veiled == (Tryz.f4.params.toList ++ (Rows.OpenSpec.upto Rows.replayAuditsSpec).bare.plain.varTypes Tryz.prog ++ Tryz.f4.resultTypes.toList).any (Tryz.prog.veiledRec ·)) && Rows.replayAuditsUptoRow.veiledFits Tryz.prog Tryz.f4.params.toList (Tryz.f4.params.toList ++ (Rows.OpenSpec.upto Rows.replayAuditsSpec).bare.plain.varTypes Tryz.prog ++ Tryz.f4.resultTypes.toList)) = true := by kernel_rfl
end Go.Proofs.YtfhgiadogeephaaGreatDoor

