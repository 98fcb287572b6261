/- PROVED HERE: the law WorkerNames returns true and leaves its memory as it was. CONDITIONS: none beyond those that the given card bears. -/
import Derived.Test.YtkgfpmbdiidlfaaGreatDoorS17NamesLawB
namespace Go.Proofs.YtkgfpmbdiidlfaaGreatDoor
open Go.ChangeShapes Go.WideShapes Go.ChangeAt Go.RowKit Go.Ai
set_option maxRecDepth 100000
theorem law_inst : Tryz.f3.isInstance Tryz.prog Rows.workerNamesRow.origin Rows.workerNamesRow.targs := of_decide_eq_true (by kernel_rfl)
theorem law_wrap : Tryz.f3.isWrapper Tryz.prog Rows.workerNamesRow.wrapper Rows.workerNamesRow.mainSum := by unfold Func.isWrapper; first | (rw [if_pos (by decide +kernel)]; kernel_rfl) | (rw [if_neg (by decide +kernel)]; exact ⟨rfl, rfl⟩)
theorem workerNames_row : Rows.WorkerNamesSaid :=
  OpenClaim.holds_of_wide 3 Tryz.f3 rfl rfl rfl rfl rfl rfl rfl ⟨rfl, rfl, rfl, rfl, rfl⟩ rfl rfl rfl rfl rfl law_named Tryz.func3 law_closed
    law_inst law_wrap (fun os started H enc _ => lifted os started H enc)
theorem workerNames_holds : Rows.WorkerNamesCardSaid :=
  Claim7.holds_tied_plain_at .later [] [.data, .data, .data, .sentinel, .sentinel] true (true, "aff0fe2018a4034931ec8333966d9360db4c43ff4b80fc5e02f10cbc4b6ff1eb") true
    workerNames_row (fun _ h => by cases h) (by kernel_rfl) (fun _ h => by cases h) workerNames_row_tie rfl ⟨rfl, rfl⟩ (by kernel_rfl) rfl
    (fun f fn hf hfn => by
      obtain rfl : f = 3 := Option.some.inj ((show Tryz.prog.funcNamed Rows.workerNamesRow.func = some 3 by kernel_rfl).symm.trans hf) |>.symm
      obtain rfl : fn = Tryz.f3 := (Option.some.inj (Tryz.func3.symm.trans hfn)).symm
      exact ⟨by kernel_rfl, fun j t ht => by
        rw [Tryz.params3] at ht
        simp at ht⟩)
    (by kernel_rfl)
end Go.Proofs.YtkgfpmbdiidlfaaGreatDoor
