/- A part of the proof of the law ReplayRings. CONDITIONS: those that each theorem names. -/
import Derived.Test.YtpgkhpfogjclhaaGreatDoorEngineD
/-! One rule for an operation, guarded or not. -/
namespace Go.Ai
open Go
variable {P : Program} {G : Glob} {K : CallF} {m : Nat} {Q : Ex → Fr → St → Prop}
noncomputable def stepAny (P : Program) (G : Glob) (K : CallF) (ops : Array Oper) (o : Oper) (i : Nat) (fr : Fr) (s : St) : Option (Fr × St) :=
  match wantedA fr ops o with
  | true => stepOp P G K o.dst o.op i fr s
  | false => match fr.put o.dst .undef with
    | some fr' => some (fr', s)
    | none => none
theorem wantedA_none (fr : Fr) (ops : Array Oper) (dst : Option Tmp) (op : Op) (ty : TypeId) (pos : String) (after : Array Edge) : wantedA fr ops ⟨dst, op, ty, pos, after, none⟩ = true := rfl
section
variable {l : List Oper} {ops : Array Oper} {i : Nat} {fr fr' : Fr} {s s' : St} {o : Oper} {rest : List Oper} {j : Nat} {js : List Nat}
theorem r_any (h : stepAny P G K ops o i fr s = some (fr', s')) (hk : WR (textOps P G K ops rest (i + 1) fr' s') Q) : WR (textOps P G K ops (o :: rest) i fr s) Q := by
  obtain ⟨dst, op, ty, pos, after, g⟩ := o
  unfold stepAny at h
  cases hw : wantedA fr ops ⟨dst, op, ty, pos, after, g⟩ with
  | true =>
    rw [hw] at h
    simp only at h
    cases g with
    | none => exact r_step h hk
    | some g => exact r_stepT hw h hk
  | false =>
    rw [hw] at h
    simp only at h
    cases g with
    | none => rw [wantedA_none] at hw; cases hw
    | some g =>
      split at h
      · rename_i fr1 hp; cases h; exact r_stepF hw hp hk
      · cases h
noncomputable def readSelf (ops : Array Oper) (fr fr' : Fr) (o : Oper) : Bool :=
  match wantedA fr ops o, clsOf o.op, o.dst with
  | true, .read, some d => match fr'.t.get d with
    | some v => avEq v v
    | none => false
  | true, .read, none => false
  | _, _, _ => true
theorem d_any (ho : l[j]? = some o) (h : stepAny P G K l.toArray o j fr s = some (fr', s')) (hv : readSelf l.toArray fr fr' o = true) (hs : SameH s.h s'.h) (hk : DW P G K l Q js fr' s') : DW P G K l Q (j :: js) fr s := by
  unfold stepAny at h
  cases hw : wantedA fr l.toArray o with
  | true =>
    rw [hw] at h
    simp only at h
    refine ⟨o, ho, .inr ⟨hw, fr', s', h, hs, fun v h1 h2 => ?_, hk⟩⟩
    unfold stepOp at h
    rw [h1] at h
    obtain ⟨u, e, hp, _⟩ := stV_some h
    rw [h2] at e
    cases e
    unfold readSelf at hv
    rw [hw, h1] at hv
    cases hd : o.dst with
    | none => rw [hd] at hv; cases hv
    | some d =>
      rw [hd] at hv
      simp only at hv
      have := (put_some' hp).2.2 d
      rw [hd, if_pos rfl] at this
      rw [this] at hv
      exact hv
  | false =>
    rw [hw] at h
    simp only at h
    split at h
    · rename_i fr1 hp; cases h; exact ⟨o, ho, .inl ⟨hw, _, hp, hk⟩⟩
    · cases h
end
theorem av_str {l : List UInt8} : avEq (.str l) (.str l) = true := by simp [avEq]
theorem av_int {k : IntKind} {n : Int} : avEq (.int k n) (.int k n) = true := by simp [avEq]
theorem av_bool {b : Bool} : avEq (.bool b) (.bool b) = true := by simp [avEq]
theorem av_ptr {i o : Nat} : avEq (.ptr i o) (.ptr i o) = true := by simp [avEq]
theorem av_sl {b o eo n : Nat} {cap : Option Nat} : avEq (.slice b o eo n cap) (.slice b o eo n cap) = true := by simp [avEq]
theorem av_nils : avEq .nils .nils = true := rfl
theorem av_nili : avEq .nili .nili = true := rfl
theorem av_agg {l : List AV} : avEq (.agg l) (.agg l) = avsEq l l := by simp [avEq]
theorem av_if {t : Nat} {v : AV} : avEq (.iface t v) (.iface t v) = avEq v v := by simp [avEq]
theorem avs_nil : avsEq [] [] = true := by simp [avsEq]
theorem avs_cons {a : AV} {l : List AV} : avsEq (a :: l) (a :: l) = (avEq a a && avsEq l l) := by simp [avsEq]
end Go.Ai
