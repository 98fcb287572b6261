/- PROVED HERE: the law ReplayAudits returns true, whatever its arguments of no more bulk than the given bound, and leaves its memory as it was. CONDITIONS: none beyond those that the given card bears. -/
import Derived.Test.YtfhgiadogeephaaGreatDoorRAC2
namespace Go.Proofs.YtfhgiadogeephaaGreatDoor
open Go.ChangeShapes Go.WideShapes Go.ChangeAt Go.RowKit Go.Ai
set_option maxRecDepth 100000
theorem law_inst : Tryz.f4.isInstance Tryz.prog Rows.replayAuditsUptoRow.origin Rows.replayAuditsUptoRow.targs := of_decide_eq_true (by kernel_rfl)
theorem law_wrap : Tryz.f4.isWrapper Tryz.prog Rows.replayAuditsUptoRow.wrapper Rows.replayAuditsUptoRow.mainSum := by unfold Func.isWrapper; first | (rw [if_pos (by decide +kernel)]; kernel_rfl) | (rw [if_neg (by decide +kernel)]; exact ⟨rfl, rfl⟩)
theorem replayAudits_row : Rows.ReplayAuditsUptoSaid :=
  OpenClaim.holds_of_cond 4 Tryz.f4 rfl rfl rfl rfl rfl rfl rfl ⟨rfl, rfl, rfl, rfl, rfl⟩ rfl rfl rfl rfl rfl law_named Tryz.func4 law_closed
    law_inst law_wrap (fun os started H enc _ F => by rw [OpenClaim.pre_eq_preRow]; exact lifted os started H enc F)
theorem replayAudits_holds : Rows.ReplayAuditsUptoCardSaid :=
  Claim7.holds_tied_plain_at .later [] [.data, .data, .data, .data, .sentinel, .sentinel, .sentinel, .data, .pinned] true (true, "5f504bcc530f562c3817e94d8884b89570d2f449da6aa160c842fad5b9364a51") true
    replayAudits_row (fun _ h => by cases h) card_by (fun _ h => by cases h) replayAuditsUpto_row_tie rfl ⟨rfl, rfl⟩ card_main rfl
    (fun f fn hf hfn => by
      obtain rfl : f = 4 := Option.some.inj (law_named.symm.trans hf) |>.symm
      obtain rfl : fn = Tryz.f4 := (Option.some.inj (Tryz.func4.symm.trans hfn)).symm
      exact ⟨card_looks, fun j t ht => by
        rw [Tryz.params4] at ht
        rcases j with _ | j <;> simp at ht <;> subst ht <;> kernel_rfl⟩)
    card_goes
end Go.Proofs.YtfhgiadogeephaaGreatDoor

