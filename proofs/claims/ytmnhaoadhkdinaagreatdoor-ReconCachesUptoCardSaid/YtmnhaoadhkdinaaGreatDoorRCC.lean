/- PROVED HERE: the law ReconCaches returns true, whatever its arguments of no more bulk than the given bound, and leaves its memory as it was. CONDITIONS: none beyond those that the given card bears. -/
import Derived.Test.YtmnhaoadhkdinaaGreatDoorRCC2
namespace Go.Proofs.YtmnhaoadhkdinaaGreatDoor
open Go.ChangeShapes Go.WideShapes Go.ChangeAt Go.RowKit Go.Ai
set_option maxRecDepth 100000
theorem law_inst : Tryz.f3.isInstance Tryz.prog Rows.reconCachesUptoRow.origin Rows.reconCachesUptoRow.targs := of_decide_eq_true (by kernel_rfl)
theorem law_wrap : Tryz.f3.isWrapper Tryz.prog Rows.reconCachesUptoRow.wrapper Rows.reconCachesUptoRow.mainSum := by unfold Func.isWrapper; first | (rw [if_pos (by decide +kernel)]; kernel_rfl) | (rw [if_neg (by decide +kernel)]; exact ⟨rfl, rfl⟩)
theorem reconCaches_row : Rows.ReconCachesUptoSaid :=
  OpenClaim.holds_of_cond 3 Tryz.f3 rfl rfl rfl rfl rfl rfl rfl ⟨rfl, rfl, rfl, rfl, rfl⟩ rfl rfl rfl rfl rfl law_named Tryz.func3 law_closed
    law_inst law_wrap (fun os started H enc _ F => by rw [OpenClaim.pre_eq_preRow]; exact lifted os started H enc F)
theorem reconCaches_holds : Rows.ReconCachesUptoCardSaid :=
  Claim7.holds_tied_plain_at .later [] [.data, .data, .data, .sentinel, .sentinel] true (true, "d25c06df65bc3982dbbc588a879d5753d0a53667a1d8d4cbc1098afe61a4b3ea") true
    reconCaches_row (fun _ h => by cases h) card_by (fun _ h => by cases h) reconCachesUpto_row_tie rfl ⟨rfl, rfl⟩ card_main rfl
    (fun f fn hf hfn => by
      obtain rfl : f = 3 := Option.some.inj (law_named.symm.trans hf) |>.symm
      obtain rfl : fn = Tryz.f3 := (Option.some.inj (Tryz.func3.symm.trans hfn)).symm
      exact ⟨card_looks, fun j t ht => by
        rw [Tryz.params3] at ht
        rcases j with _ | _ | j <;> simp at ht <;> subst ht <;> kernel_rfl⟩)
    card_goes
end Go.Proofs.YtmnhaoadhkdinaaGreatDoor

