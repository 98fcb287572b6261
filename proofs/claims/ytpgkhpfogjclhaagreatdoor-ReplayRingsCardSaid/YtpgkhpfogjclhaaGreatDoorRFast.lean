/- A part of the proof of the law ReplayRings. CONDITIONS: those that each theorem names. -/
import Derived.Test.YtpgkhpfogjclhaaGreatDoorRFRules
/-! Rules for the operations that are met most. -/
namespace Go.Ai
open Go
variable {P : Program} {G : Glob} {K : CallF} {Q : Ex → Fr → St → Prop} {ops : Array Oper} {rest : List Oper} {i F lc n : Nat} {t : T AV} {df : List (AV × List AV)} {rc : Rc} {s : St} {ty : TypeId} {pos : String} {after : Array Edge} {x d : Nat} {v : AV}
theorem r_move (hv : t.get x = some v) (hd : d < n) (hk : WR (textOps P G K ops rest (i + 1) ⟨F, lc, n, t.set d v, df, rc⟩ s) Q) : WR (textOps P G K ops (⟨some d, .move (.tmp x), ty, pos, after, none⟩ :: rest) i ⟨F, lc, n, t, df, rc⟩ s) Q := by
  refine r_step (fr' := ⟨F, lc, n, t.set d v, df, rc⟩) (s' := s) ?_ hk
  show stV ⟨F, lc, n, t, df, rc⟩ (some d) s (pureOp P ⟨F, lc, n, t, df, rc⟩ (.move (.tmp x))) = _
  have : pureOp P ⟨F, lc, n, t, df, rc⟩ (.move (.tmp x)) = some v := by
    simp only [pureOp, ev_tmp, hv]
  rw [this, stV_mk, put_mk, if_pos hd]
theorem r_assign (hv : t.get x = some v) (hd : d < n) (hk : WR (textOps P G K ops rest (i + 1) ⟨F, lc, n, t.set d v, df, rc⟩ s) Q) : WR (textOps P G K ops (⟨some d, .assign (.tmp x), ty, pos, after, none⟩ :: rest) i ⟨F, lc, n, t, df, rc⟩ s) Q := by
  refine r_step (fr' := ⟨F, lc, n, t.set d v, df, rc⟩) (s' := s) ?_ hk
  show stV ⟨F, lc, n, t, df, rc⟩ (some d) s (pureOp P ⟨F, lc, n, t, df, rc⟩ (.assign (.tmp x))) = _
  have : pureOp P ⟨F, lc, n, t, df, rc⟩ (.assign (.tmp x)) = some v := by
    simp only [pureOp, ev_tmp, hv]
  rw [this, stV_mk, put_mk, if_pos hd]
theorem r_condT {c : Nat} {b : Bool} {a1 a2 : Code} {m : Nat} (hv : t.get c = some (.bool b)) (h : ifQ b (WR (code P G K m a1 ⟨F, lc, n, t, df, rc⟩ s) Q) (WR (code P G K m a2 ⟨F, lc, n, t, df, rc⟩ s) Q)) : WR (code P G K m (.cond (.tmp c) a1 a2) ⟨F, lc, n, t, df, rc⟩ s) Q := by
  refine r_cond (b := b) ?_ h
  rw [ev_tmp, hv]
end Go.Ai
