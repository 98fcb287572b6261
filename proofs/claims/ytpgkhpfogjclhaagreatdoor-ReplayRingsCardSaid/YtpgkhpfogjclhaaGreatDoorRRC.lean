/- PROVED HERE: the law ReplayRings returns true, whatever its arguments, and leaves its memory as it was. CONDITIONS: none beyond those that the given card bears. -/
import Derived.Test.YtpgkhpfogjclhaaGreatDoorRRC2
namespace Go.Proofs.YtpgkhpfogjclhaaGreatDoor
open Go.ChangeShapes Go.WideShapes Go.ChangeAt Go.RowKit Go.Ai
set_option maxRecDepth 100000
theorem law_inst : Tryz.f4.isInstance Tryz.prog Rows.replayRingsRow.origin Rows.replayRingsRow.targs := of_decide_eq_true (by kernel_rfl)
theorem law_wrap : Tryz.f4.isWrapper Tryz.prog Rows.replayRingsRow.wrapper Rows.replayRingsRow.mainSum := by unfold Func.isWrapper; first | (rw [if_pos (by decide +kernel)]; kernel_rfl) | (rw [if_neg (by decide +kernel)]; exact ⟨rfl, rfl⟩)
theorem replayRings_row : Rows.ReplayRingsSaid :=
  OpenClaim.holds_of_wide 4 Tryz.f4 rfl rfl rfl rfl rfl rfl rfl ⟨rfl, rfl, rfl, rfl, rfl⟩ rfl rfl rfl rfl rfl law_named Tryz.func4 law_closed
    law_inst law_wrap (fun os started H enc _ => lifted os started H enc)
theorem replayRings_holds : Rows.ReplayRingsCardSaid :=
  Claim7.holds_tied_plain_at .later [] [.data, .data, .data, .data, .sentinel, .sentinel, .sentinel, .data, .pinned] true (true, "b97ef83d1ebc82d5d00aaccc41f270844e66da5155dff8213e55a1b52fc08343") true
    replayRings_row (fun _ h => by cases h) card_by (fun _ h => by cases h) replayRings_row_tie rfl ⟨rfl, rfl⟩ card_main rfl
    (fun f fn hf hfn => by
      obtain rfl : f = 4 := Option.some.inj (law_named.symm.trans hf) |>.symm
      obtain rfl : fn = Tryz.f4 := (Option.some.inj (Tryz.func4.symm.trans hfn)).symm
      exact ⟨card_looks, fun j t ht => by
        rw [Tryz.params4] at ht
        rcases j with _ | _ | j <;> simp at ht <;> subst ht <;> kernel_rfl⟩)
    card_goes
end Go.Proofs.YtpgkhpfogjclhaaGreatDoor
