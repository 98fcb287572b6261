/- PROVED HERE: the law ShardNil returns true, whatever its arguments, and leaves its memory as it was. CONDITIONS: none beyond those that the given card bears. -/
import Derived.Test.YtcjflpibkaemhabGreatDoorS25NilB
namespace Go.Proofs.YtcjflpibkaemhabGreatDoor
open Go.ChangeShapes Go.WideShapes Go.ChangeAt Go.RowKit Go.Ai
set_option maxRecDepth 100000
theorem law_inst : Tryz.f3.isInstance Tryz.prog Rows.shardNilRow.origin Rows.shardNilRow.targs := of_decide_eq_true (by kernel_rfl)
theorem law_wrap : Tryz.f3.isWrapper Tryz.prog Rows.shardNilRow.wrapper Rows.shardNilRow.mainSum := by unfold Func.isWrapper; first | (rw [if_pos (by decide +kernel)]; kernel_rfl) | (rw [if_neg (by decide +kernel)]; exact ⟨rfl, rfl⟩)
theorem shardNil_row : Rows.ShardNilSaid :=
  OpenClaim.holds_of_wide 3 Tryz.f3 rfl rfl rfl rfl rfl rfl rfl ⟨rfl, rfl, rfl, rfl, rfl⟩ rfl rfl rfl rfl rfl law_named Tryz.func3 law_closed
    law_inst law_wrap (fun os started H enc _ => lifted os started H enc)
theorem shardNil_holds : Rows.ShardNilCardSaid :=
  Claim7.holds_tied_plain_at .later [] [.data, .data, .data, .sentinel, .sentinel, .sentinel] true (true, "5d06fbbc96ae78ffec8c1b13aaf1f7c68fe0b89e9072430ca972a06007ec754c") true
    shardNil_row (fun _ h => by cases h) (by kernel_rfl) (fun _ h => by cases h) shardNil_row_tie rfl ⟨rfl, rfl⟩ (by kernel_rfl) rfl
    (fun f fn hf hfn => by
      obtain rfl : f = 3 := Option.some.inj ((show Tryz.prog.funcNamed Rows.shardNilRow.func = some 3 by kernel_rfl).symm.trans hf) |>.symm
      obtain rfl : fn = Tryz.f3 := (Option.some.inj (Tryz.func3.symm.trans hfn)).symm
      exact ⟨by kernel_rfl, fun j t ht => by
        rw [Tryz.params3] at ht
        rcases j with _ | _ | j <;> simp at ht <;> subst ht <;> kernel_rfl⟩)
    (by kernel_rfl)
end Go.Proofs.YtcjflpibkaemhabGreatDoor
