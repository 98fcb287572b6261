/- A part of the proof of the law ReconFresh. CONDITIONS: those that each theorem names. -/
import Derived.Test.YtneoghpfbgjaiaaGreatDoorS16Types
import Derived.Test.YtneoghpfbgjaiaaGreatDoorS16Live
import Derived.Test.YtneoghpfbgjaiaaGreatDoorRFRules
import Derived.Test.YtneoghpfbgjaiaaGreatDoorRFPoint
import Derived.Test.YtneoghpfbgjaiaaGreatDoorRFSpec
namespace Go.Proofs.YtneoghpfbgjaiaaGreatDoor
open Go Go.Ai
set_option maxRecDepth 100000
/-- a loop's end, whichever way -/
theorem out_t {p : Prop} {s : St} (hp : p) : Out.val (.bool true) s = Out.val (.bool (dec p)) s := by rw [dec_t hp]
theorem out_f {p : Prop} {s : St} (hp : ¬ p) : Out.val (.bool false) s = Out.val (.bool (dec p)) s := by rw [dec_f hp]
theorem out_b {p : Prop} {b : Bool} {s : St} (hp : b = true ↔ p) : Out.val (.bool b) s = Out.val (.bool (dec p)) s := by rw [bool_dec hp]
theorem natOf_c (k : IntKind) (i : Nat) : natOf (.int k (i : Int)) = some i := rfl
theorem lc_ne1 {lc k j : Nat} (h : 10 ≤ lc) (hk : k < 10) : (k = lc + j) = False := by apply propext; constructor; omega; exact False.elim
end Go.Proofs.YtneoghpfbgjaiaaGreatDoor
