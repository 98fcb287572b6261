/- PROVED HERE: the law ShardParts returns true, whatever its arguments, and leaves its memory as it was. CONDITIONS: none beyond those that the given card bears. -/
import Derived.Test.YtdcindnnbmilaaaGreatDoorSPC2
namespace Go.Proofs.YtdcindnnbmilaaaGreatDoor
open Go.ChangeShapes Go.WideShapes Go.ChangeAt Go.RowKit Go.Ai
set_option maxRecDepth 100000
theorem law_inst : Tryz.f3.isInstance Tryz.prog Rows.shardPartsRow.origin Rows.shardPartsRow.targs := of_decide_eq_true (by kernel_rfl)
theorem law_wrap : Tryz.f3.isWrapper Tryz.prog Rows.shardPartsRow.wrapper Rows.shardPartsRow.mainSum := by unfold Func.isWrapper; first | (rw [if_pos (by decide +kernel)]; kernel_rfl) | (rw [if_neg (by decide +kernel)]; exact ⟨rfl, rfl⟩)
theorem shardParts_row : Rows.ShardPartsSaid :=
  OpenClaim.holds_of_wide 3 Tryz.f3 rfl rfl rfl rfl rfl rfl rfl ⟨rfl, rfl, rfl, rfl, rfl⟩ rfl rfl rfl rfl rfl law_named Tryz.func3 law_closed
    law_inst law_wrap (fun os started H enc _ => lifted os started H enc)
theorem shardParts_holds : Rows.ShardPartsCardSaid :=
  Claim7.holds_tied_plain_at .later [] [.data, .data, .data, .sentinel, .sentinel] true (true, "8d5a3c521f33c3d6eb9a9e28e8d9a6d212360584719366d8c1fa5a23b43eaebe") true
    shardParts_row (fun _ h => by cases h) card_by (fun _ h => by cases h) shardParts_row_tie rfl ⟨rfl, rfl⟩ card_main rfl
    (fun f fn hf hfn => by
      obtain rfl : f = 3 := Option.some.inj (law_named.symm.trans hf) |>.symm
      obtain rfl : fn = Tryz.f3 := (Option.some.inj (Tryz.func3.symm.trans hfn)).symm
      exact ⟨card_looks, fun j t ht => by
        rw [Tryz.params3] at ht
        rcases j with _ | _ | j <;> simp at ht <;> subst ht <;> kernel_rfl⟩)
    card_goes
end Go.Proofs.YtdcindnnbmilaaaGreatDoor
