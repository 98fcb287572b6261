/- PROVED HERE: the law ReconNil of the package tranchelaw16 returns true and leaves its memory as it was. CONDITIONS: none beyond those that the given card bears. -/
import Derived.Test.YtneoghpfbgjaiaaGreatDoorSeat16LawB
namespace Go.Proofs.YtneoghpfbgjaiaaGreatDoor
open Go.ChangeShapes Go.WideShapes Go.ChangeAt Go.RowKit Go.Ai
set_option maxRecDepth 100000
theorem nil_inst : Tryz.f8.isInstance Tryz.prog Rows.reconNilRow.origin Rows.reconNilRow.targs := of_decide_eq_true (by kernel_rfl)
theorem nil_wrap : Tryz.f8.isWrapper Tryz.prog Rows.reconNilRow.wrapper Rows.reconNilRow.mainSum := by unfold Func.isWrapper; first | (rw [if_pos (by decide +kernel)]; kernel_rfl) | (rw [if_neg (by decide +kernel)]; exact ⟨rfl, rfl⟩)
theorem reconNil_row : Rows.ReconNilSaid :=
  OpenClaim.holds_of_wide 8 Tryz.f8 rfl rfl rfl rfl rfl rfl rfl ⟨rfl, rfl, rfl, rfl, rfl⟩ rfl rfl rfl rfl rfl nil_named Tryz.func8 nil_closed
    nil_inst nil_wrap (fun os started H enc _ => nil_lifted os started H enc)
theorem reconNil_holds : Rows.ReconNilCardSaid :=
  Claim7.holds_tied_plain_at .later [] [.data, .data, .data, .sentinel, .sentinel] true (true, "80b4b99179f145ad263222eed095838d9d70283aa7e16bbbe2b49efc812f7afc") true
    reconNil_row (fun _ h => by cases h) (by kernel_rfl) (fun _ h => by cases h) reconNil_row_tie rfl ⟨rfl, rfl⟩ (by kernel_rfl) rfl
    (fun f fn hf hfn => by
      obtain rfl : f = 8 := Option.some.inj ((show Tryz.prog.funcNamed Rows.reconNilRow.func = some 8 by kernel_rfl).symm.trans hf) |>.symm
      obtain rfl : fn = Tryz.f8 := (Option.some.inj (Tryz.func8.symm.trans hfn)).symm
      exact ⟨by kernel_rfl, fun j t ht => by
        rw [Tryz.params8] at ht
        simp at ht⟩)
    (by kernel_rfl)
end Go.Proofs.YtneoghpfbgjaiaaGreatDoor
