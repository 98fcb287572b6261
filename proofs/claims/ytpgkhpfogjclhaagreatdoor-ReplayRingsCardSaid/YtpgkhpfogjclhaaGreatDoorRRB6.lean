/- A part of the proof of the law ReplayRings. CONDITIONS: those that each theorem names. -/
import Derived.Test.YtpgkhpfogjclhaaGreatDoorRRB5
namespace Go.Proofs.YtpgkhpfogjclhaaGreatDoor
open Go.ChangeShapes Go.WideShapes Go.ChangeAt Go.RowKit Go.Ai
set_option maxRecDepth 100000
theorem closed8 : ((Rows.replayRingsRow.maps == (Tryz.f4.params.toList ++ Rows.replayRingsSpec.plain.varTypes Tryz.prog).any (Tryz.prog.mapsRec ·)) && (Rows.replayRingsRow.ifaces == (Tryz.f4.params.toList ++ Rows.replayRingsSpec.plain.varTypes Tryz.prog).any (Tryz.prog.ifacesRec ·)) && (Rows.replayRingsRow.mapsOut == Tryz.prog.mapsAmong Tryz.f4.resultTypes.toList) && (Rows.replayRingsRow.loops == (Tryz.f4.params.toList ++ Rows.replayRingsSpec.plain.varTypes Tryz.prog).any (Tryz.prog.loopsFrom ·)) && (Rows.replayRingsRow.wideKeys == (Tryz.f4.params.toList ++ Rows.replayRingsSpec.plain.varTypes Tryz.prog ++ Tryz.f4.resultTypes.toList).any (Tryz.prog.wideKeysFrom ·))) = true := by kernel_rfl
theorem closed9 : (Rows.replayRingsSpec.vars.all (Tryz.prog.varReadable ·) && Tryz.f4.resultTypes.all (fun t => Tryz.prog.readableRec t && decide (t < Tryz.prog.types.size)) && (Rows.replayRingsRow.ifacesOut == Tryz.f4.resultTypes.toList.any (Tryz.prog.ifacesRec ·)) && (Rows.replayRingsRow.loopsOut == Tryz.f4.resultTypes.toList.any (Tryz.prog.loopsFrom ·))) = true := by kernel_rfl
theorem closed10 : (Rows.replayRingsRow.plainKeys == Tryz.prog.plainKeys) = true := by kernel_rfl
theorem closed11 : (Rows.replayRingsRow.shortTexts.isNone && Tryz.prog.stopsHeard) = true := by kernel_rfl
theorem closed12 : Tryz.prog.mayEnter = true := by kernel_rfl
theorem closed13 : (Rows.replayRingsRow.lifted == Tryz.prog.liftsFinal) = true := by kernel_rfl
theorem closed14 : ((Tryz.prog.make == some Rows.replayRingsRow.make) && (Rows.replayRingsRow.kinds == (if Rows.replayRingsRow.domain.isEmpty then [] else Tryz.f4.params.toList.map fun t => match Tryz.prog.underlying t with | some (.int k) => some k | _ => none)) && (Rows.replayRingsRow.pinned == Rows.replayRingsRow.pinnedBy)) = true := by kernel_rfl
theorem closed15 : ((Rows.replayRingsRow.veiled == (Tryz.f4.params.toList ++ Rows.replayRingsSpec.plain.varTypes Tryz.prog ++ Tryz.f4.resultTypes.toList).any (Tryz.prog.veiledRec ·)) && Rows.replayRingsRow.veiledFits Tryz.prog Tryz.f4.params.toList (Tryz.f4.params.toList ++ Rows.replayRingsSpec.plain.varTypes Tryz.prog ++ Tryz.f4.resultTypes.toList)) = true := by kernel_rfl
end Go.Proofs.YtpgkhpfogjclhaaGreatDoor
