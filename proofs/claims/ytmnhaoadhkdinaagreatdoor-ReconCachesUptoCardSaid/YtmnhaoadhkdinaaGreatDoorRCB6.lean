/- A part of the proof of the law ReconCaches. CONDITIONS: those that each theorem names. -/
import Derived.Test.YtmnhaoadhkdinaaGreatDoorRCB5
namespace Go.Proofs.YtmnhaoadhkdinaaGreatDoor
open Go.ChangeShapes Go.WideShapes Go.ChangeAt Go.RowKit Go.Ai
set_option maxRecDepth 100000
theorem closed8 : ((Rows.reconCachesUptoRow.maps == (Tryz.f3.params.toList ++ (Rows.OpenSpec.upto Rows.reconCachesSpec).bare.plain.varTypes Tryz.prog).any (Tryz.prog.mapsRec ·)) && (Rows.reconCachesUptoRow.ifaces == (Tryz.f3.params.toList ++ (Rows.OpenSpec.upto Rows.reconCachesSpec).bare.plain.varTypes Tryz.prog).any (Tryz.prog.ifacesRec ·)) && (Rows.reconCachesUptoRow.mapsOut == Tryz.prog.mapsAmong Tryz.f3.resultTypes.toList) && (Rows.reconCachesUptoRow.loops == (Tryz.f3.params.toList ++ (Rows.OpenSpec.upto Rows.reconCachesSpec).bare.plain.varTypes Tryz.prog).any (Tryz.prog.loopsFrom ·)) && (Rows.reconCachesUptoRow.wideKeys == (Tryz.f3.params.toList ++ (Rows.OpenSpec.upto Rows.reconCachesSpec).bare.plain.varTypes Tryz.prog ++ Tryz.f3.resultTypes.toList).any (Tryz.prog.wideKeysFrom ·))) = true := by kernel_rfl
theorem closed9 : ((Rows.OpenSpec.upto Rows.reconCachesSpec).bare.vars.all (Tryz.prog.varReadable ·) && Tryz.f3.resultTypes.all (fun t => Tryz.prog.readableRec t && decide (t < Tryz.prog.types.size)) && (Rows.reconCachesUptoRow.ifacesOut == Tryz.f3.resultTypes.toList.any (Tryz.prog.ifacesRec ·)) && (Rows.reconCachesUptoRow.loopsOut == Tryz.f3.resultTypes.toList.any (Tryz.prog.loopsFrom ·))) = true := by kernel_rfl
theorem closed10 : (Rows.reconCachesUptoRow.plainKeys == Tryz.prog.plainKeys) = true := by kernel_rfl
theorem closed11 : (Rows.reconCachesUptoRow.shortTexts.isNone && Tryz.prog.stopsHeard) = true := by kernel_rfl
theorem closed12 : Tryz.prog.mayEnter = true := by kernel_rfl
theorem closed13 : (Rows.reconCachesUptoRow.lifted == Tryz.prog.liftsFinal) = true := by kernel_rfl
theorem closed14 : ((Tryz.prog.make == some Rows.reconCachesUptoRow.make) && (Rows.reconCachesUptoRow.kinds == (if Rows.reconCachesUptoRow.domain.isEmpty then [] else Tryz.f3.params.toList.map fun t => match Tryz.prog.underlying t with | some (.int k) => some k | _ => none)) && (Rows.reconCachesUptoRow.pinned == Rows.reconCachesUptoRow.pinnedBy)) = true := by kernel_rfl
theorem closed15 : ((Rows.reconCachesUptoRow.veiled == (Tryz.f3.params.toList ++ (Rows.OpenSpec.upto Rows.reconCachesSpec).bare.plain.varTypes Tryz.prog ++ Tryz.f3.resultTypes.toList).any (Tryz.prog.veiledRec ·)) && Rows.reconCachesUptoRow.veiledFits Tryz.prog Tryz.f3.params.toList (Tryz.f3.params.toList ++ (Rows.OpenSpec.upto Rows.reconCachesSpec).bare.plain.varTypes Tryz.prog ++ Tryz.f3.resultTypes.toList)) = true := by kernel_rfl
end Go.Proofs.YtmnhaoadhkdinaaGreatDoor

