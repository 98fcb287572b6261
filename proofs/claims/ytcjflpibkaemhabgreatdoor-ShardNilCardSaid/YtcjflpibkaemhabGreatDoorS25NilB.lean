/- A part of the proof of the law ShardNil. CONDITIONS: those that each theorem names. -/
import Derived.Test.YtcjflpibkaemhabGreatDoorS25NilA
namespace Go.Proofs.YtcjflpibkaemhabGreatDoor
open Go.ChangeShapes Go.WideShapes Go.ChangeAt Go.RowKit Go.Ai
set_option maxRecDepth 100000
theorem law_named : Tryz.prog.funcNamed Rows.shardNilRow.func = some 3 := by kernel_rfl
theorem law_closed : joinedFacts Tryz.prog 3 Tryz.f3 Rows.shardNilSpec Rows.shardNilRow = true := by kernel_rfl
end Go.Proofs.YtcjflpibkaemhabGreatDoor
