/- A part of the proof of the law ShardNil. CONDITIONS: those that each theorem names. -/
import Derived.Test.YtcjflpibkaemhabGreatDoorS25
namespace Go.Proofs.YtcjflpibkaemhabGreatDoor
open Go Go.Ai
set_option maxRecDepth 100000
theorem run17 : saysTrue (call Tryz.prog [] X2 2000 200 17 [] ⟨.e, 0⟩) = true := by kernel_rfl
theorem body17 : ∃ c, Tryz.f17.body = some c := Option.isSome_iff_exists.1 (by kernel_rfl)
end Go.Proofs.YtcjflpibkaemhabGreatDoor
