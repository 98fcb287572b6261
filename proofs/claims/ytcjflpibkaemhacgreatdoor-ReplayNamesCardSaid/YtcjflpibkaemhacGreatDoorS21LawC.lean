/- PROVED HERE: the law ReplayNames returns true and leaves its memory as it was. CONDITIONS: none beyond those that the given card bears. -/
import Derived.Test.YtcjflpibkaemhacGreatDoorS21LawC2
namespace Go.Proofs.YtcjflpibkaemhacGreatDoor
open Go.ChangeShapes Go.WideShapes Go.ChangeAt Go.RowKit Go.Ai
set_option maxRecDepth 100000
theorem law_inst : Tryz.f3.isInstance Tryz.prog Rows.replayNamesRow.origin Rows.replayNamesRow.targs := of_decide_eq_true (by kernel_rfl)
theorem law_wrap : Tryz.f3.isWrapper Tryz.prog Rows.replayNamesRow.wrapper Rows.replayNamesRow.mainSum := by unfold Func.isWrapper; first | (rw [if_pos (by decide +kernel)]; kernel_rfl) | (rw [if_neg (by decide +kernel)]; exact ⟨rfl, rfl⟩)
theorem replayNames_row : Rows.ReplayNamesSaid :=
  OpenClaim.holds_of_wide 3 Tryz.f3 rfl rfl rfl rfl rfl rfl rfl ⟨rfl, rfl, rfl, rfl, rfl⟩ rfl rfl rfl rfl rfl law_named Tryz.func3 law_closed
    law_inst law_wrap (fun os started H enc _ => lifted os started H enc)
theorem replayNames_holds : Rows.ReplayNamesCardSaid :=
  Claim7.holds_tied_plain_at .later [] [.data, .data, .data, .data, .sentinel, .sentinel, .sentinel, .data, .pinned] true (true, "6e558759661c0bd46dabc960cd5febc1106f0ed6227296bb771b4292a63359b7") true
    replayNames_row (fun _ h => by cases h) card_by (fun _ h => by cases h) replayNames_row_tie rfl ⟨rfl, rfl⟩ card_main rfl
    (fun f fn hf hfn => by
      obtain rfl : f = 3 := Option.some.inj (law_named.symm.trans hf) |>.symm
      obtain rfl : fn = Tryz.f3 := (Option.some.inj (Tryz.func3.symm.trans hfn)).symm
      exact ⟨card_looks, fun j t ht => by
        rw [Tryz.params3] at ht
        simp at ht⟩)
    card_goes
end Go.Proofs.YtcjflpibkaemhacGreatDoor
