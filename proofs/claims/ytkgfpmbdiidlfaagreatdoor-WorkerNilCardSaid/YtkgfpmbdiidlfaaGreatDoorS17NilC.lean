/- PROVED HERE: the law WorkerNil returns true, whatever its arguments, and leaves its memory as it was. CONDITIONS: none beyond those that the given card bears. -/
import Derived.Test.YtkgfpmbdiidlfaaGreatDoorS17NilB
namespace Go.Proofs.YtkgfpmbdiidlfaaGreatDoor
open Go.ChangeShapes Go.WideShapes Go.ChangeAt Go.RowKit Go.Ai
set_option maxRecDepth 100000
theorem law_inst : Tryz.f4.isInstance Tryz.prog Rows.workerNilRow.origin Rows.workerNilRow.targs := of_decide_eq_true (by kernel_rfl)
theorem law_wrap : Tryz.f4.isWrapper Tryz.prog Rows.workerNilRow.wrapper Rows.workerNilRow.mainSum := by unfold Func.isWrapper; first | (rw [if_pos (by decide +kernel)]; kernel_rfl) | (rw [if_neg (by decide +kernel)]; exact ⟨rfl, rfl⟩)
theorem workerNil_row : Rows.WorkerNilSaid :=
  OpenClaim.holds_of_wide 4 Tryz.f4 rfl rfl rfl rfl rfl rfl rfl ⟨rfl, rfl, rfl, rfl, rfl⟩ rfl rfl rfl rfl rfl law_named Tryz.func4 law_closed
    law_inst law_wrap (fun os started H enc _ => lifted os started H enc)
theorem workerNil_holds : Rows.WorkerNilCardSaid :=
  Claim7.holds_tied_plain_at .later [] [.data, .data, .data, .sentinel, .sentinel] true (true, "aff0fe2018a4034931ec8333966d9360db4c43ff4b80fc5e02f10cbc4b6ff1eb") true
    workerNil_row (fun _ h => by cases h) (by kernel_rfl) (fun _ h => by cases h) workerNil_row_tie rfl ⟨rfl, rfl⟩ (by kernel_rfl) rfl
    (fun f fn hf hfn => by
      obtain rfl : f = 4 := Option.some.inj ((show Tryz.prog.funcNamed Rows.workerNilRow.func = some 4 by kernel_rfl).symm.trans hf) |>.symm
      obtain rfl : fn = Tryz.f4 := (Option.some.inj (Tryz.func4.symm.trans hfn)).symm
      exact ⟨by kernel_rfl, fun j t ht => by
        rw [Tryz.params4] at ht
        rcases j with _ | _ | j <;> simp at ht <;> subst ht <;> kernel_rfl⟩)
    (by kernel_rfl)
end Go.Proofs.YtkgfpmbdiidlfaaGreatDoor
