/- A part of the proof of the law SerialBehind. CONDITIONS: those that each theorem names. -/
import Derived.Test.YtgjddbcnnelgpaaGreatDoorSBB5
namespace Go.Proofs.YtgjddbcnnelgpaaGreatDoor
open Go.ChangeShapes Go.WideShapes Go.ChangeAt Go.RowKit Go.Ai
set_option maxRecDepth 100000
theorem closed8 : ((Rows.serialBehindUptoRow.maps == (Tryz.f3.params.toList ++ (Rows.OpenSpec.upto Rows.serialBehindSpec).bare.plain.varTypes Tryz.prog).any (Tryz.prog.mapsRec ·)) && (Rows.serialBehindUptoRow.ifaces == (Tryz.f3.params.toList ++ (Rows.OpenSpec.upto Rows.serialBehindSpec).bare.plain.varTypes Tryz.prog).any (Tryz.prog.ifacesRec ·)) && (Rows.serialBehindUptoRow.mapsOut == Tryz.prog.mapsAmong Tryz.f3.resultTypes.toList) && (Rows.serialBehindUptoRow.loops == (Tryz.f3.params.toList ++ (Rows.OpenSpec.upto Rows.serialBehindSpec).bare.plain.varTypes Tryz.prog).any (Tryz.prog.loopsFrom ·)) && (Rows.serialBehindUptoRow.wideKeys == (Tryz.f3.params.toList ++ (Rows.OpenSpec.upto Rows.serialBehindSpec).bare.plain.varTypes Tryz.prog ++ Tryz.f3.resultTypes.toList).any (Tryz.prog.wideKeysFrom ·))) = true := by kernel_rfl
theorem closed9 : ((Rows.OpenSpec.upto Rows.serialBehindSpec).bare.vars.all (Tryz.prog.varReadable ·) && Tryz.f3.resultTypes.all (fun t => Tryz.prog.readableRec t && decide (t < Tryz.prog.types.size)) && (Rows.serialBehindUptoRow.ifacesOut == Tryz.f3.resultTypes.toList.any (Tryz.prog.ifacesRec ·)) && (Rows.serialBehindUptoRow.loopsOut == Tryz.f3.resultTypes.toList.any (Tryz.prog.loopsFrom ·))) = true := by kernel_rfl
theorem closed10 : (Rows.serialBehindUptoRow.plainKeys == Tryz.prog.plainKeys) = true := by kernel_rfl
theorem closed11 : (Rows.serialBehindUptoRow.shortTexts.isNone && Tryz.prog.stopsHeard) = true := by kernel_rfl
theorem closed12 : Tryz.prog.mayEnter = true := by kernel_rfl
theorem closed13 : (Rows.serialBehindUptoRow.lifted == Tryz.prog.liftsFinal) = true := by kernel_rfl
theorem closed14 : ((Tryz.prog.make == some Rows.serialBehindUptoRow.make) && (Rows.serialBehindUptoRow.kinds == (if Rows.serialBehindUptoRow.domain.isEmpty then [] else Tryz.f3.params.toList.map fun t => match Tryz.prog.underlying t with | some (.int k) => some k | _ => none)) && (Rows.serialBehindUptoRow.pinned == Rows.serialBehindUptoRow.pinnedBy)) = true := by kernel_rfl
theorem closed15 : ((Rows.serialBehindUptoRow.veiled == (Tryz.f3.params.toList ++ (Rows.OpenSpec.upto Rows.serialBehindSpec).bare.plain.varTypes Tryz.prog ++ Tryz.f3.resultTypes.toList).any (Tryz.prog.veiledRec ·)) && Rows.serialBehindUptoRow.veiledFits Tryz.prog Tryz.f3.params.toList (Tryz.f3.params.toList ++ (Rows.OpenSpec.upto Rows.serialBehindSpec).bare.plain.varTypes Tryz.prog ++ Tryz.f3.resultTypes.toList)) = true := by kernel_rfl
end Go.Proofs.YtgjddbcnnelgpaaGreatDoor
