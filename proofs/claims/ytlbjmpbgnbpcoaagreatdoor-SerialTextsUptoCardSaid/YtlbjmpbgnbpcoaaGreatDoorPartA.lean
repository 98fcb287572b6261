/- A part of the proof of the law SerialTexts. CONDITIONS: those that each theorem names. -/
import Derived.Test.YtlbjmpbgnbpcoaaGreatDoorRows
import Derived.Test.YtlbjmpbgnbpcoaaGreatDoorEngineA
import Derived.Test.YtlbjmpbgnbpcoaaGreatDoorEngineB
import Derived.Test.YtlbjmpbgnbpcoaaGreatDoorEngineC
import Derived.Test.YtlbjmpbgnbpcoaaGreatDoorEngineD
import Derived.Test.YtlbjmpbgnbpcoaaGreatDoorEngineE
namespace Go.Proofs.YtlbjmpbgnbpcoaaGreatDoor
open Go Go.Ai
set_option maxRecDepth 100000

noncomputable def xIdx : List AV → Option AV
  | [.str s, .int .u8 (.ofNat c)] => match Nat.blt c 256 with
    | true => some (.int .i64 (idxB c s 0))
    | false => none
  | _ => none
noncomputable def xCmp : List AV → Option AV
  | [.str s, .str t] => some (.int .i64 (cmpB s t))
  | _ => none
noncomputable def x0f : FuncId → List AV → Option AV := fun f args => match Nat.beq f 238 with
  | true => xIdx args
  | false => match Nat.beq f 249 with
  | true => xCmp args
  | false => none
noncomputable def X0 : Ext := ⟨x0f, fun f => false⟩
noncomputable def selA (f : Nat) : Bool := [218].any (Nat.beq f)
noncomputable def selB (f : Nat) : Bool := [218, 196, 162, 215, 211, 176, 212, 165, 172, 73, 136, 125, 114, 142, 115, 181, 214, 228, 100, 76, 208, 174, 175, 216].any (Nat.beq f)
noncomputable def X1 : Ext := memoX Tryz.prog [] X0 2000 60 selA
noncomputable def X2 : Ext := memoX Tryz.prog [] X1 2000 60 selB

theorem x0_ok : XOK Tryz.prog [] X0 := by
  intro f args v h ρ base w vs rv _ _
  replace h : x0f f args = some v := h
  unfold x0f at h
  split at h
  · rename_i hf
    have hf := Nat.eq_of_beq_eq_true hf
    subst hf
    unfold xIdx at h
    split at h
    · rename_i s c
      split at h
      · rename_i hc
        cases h
        obtain ⟨u1, us, r1, ⟨u2, us2, r2, r3, e2⟩, e1⟩ := rv
        simp only [RV] at r1 r2
        simp only [RVs] at r3
        subst r1 r2 r3 e2 e1
        have := idx_ok (P := Tryz.prog) (f := 238) (fn := Tryz.f238) Tryz.func238 (by kernel_rfl) (by kernel_rfl) (by kernel_rfl) (by kernel_rfl) (l := s) (c := c) (by simpa using hc) w
        show Meets _ ((callFunc 238 #[.string ⟨s.toArray⟩, .int .u8 (c : Int)]).run Tryz.prog w) _
        rw [this]
        exact ⟨_, rfl, rfl, Keeps.refl _ _⟩
      · cases h
    · cases h
  · split at h
    · rename_i hf
      have hf := Nat.eq_of_beq_eq_true hf
      subst hf
      unfold xCmp at h
      split at h
      · rename_i s t
        cases h
        obtain ⟨u1, us, r1, ⟨u2, us2, r2, r3, e2⟩, e1⟩ := rv
        simp only [RV] at r1 r2
        simp only [RVs] at r3
        subst r1 r2 r3 e2 e1
        have := cmp_ok (P := Tryz.prog) (f := 249) (fn := Tryz.f249) Tryz.func249 (by kernel_rfl) (by kernel_rfl) (by kernel_rfl) (by kernel_rfl) (x := s) (y := t) w
        show Meets _ ((callFunc 249 #[.string ⟨s.toArray⟩, .string ⟨t.toArray⟩]).run Tryz.prog w) _
        rw [this]
        exact ⟨_, rfl, rfl, Keeps.refl _ _⟩
      · cases h
    · cases h
theorem mixed : Tryz.prog.follows .mixedOrders = true := by kernel_rfl
def noNumB (P : Program) : Bool := P.funcs.toList.all fun fn => fn.body.isNone || !(fn.name == "runtime.NumGoroutine")
theorem noNum_of {P : Program} (h : noNumB P = true) : NoNum P := by
  intro f fn hf hb
  have := List.all_eq_true.1 h fn (List.mem_of_getElem? (by simpa using hf))
  cases hq : fn.name == "runtime.NumGoroutine" with
  | false => rfl
  | true =>
    rw [hq] at this
    cases hbb : fn.body with
    | none => rw [hbb] at hb; cases hb
    | some c => rw [hbb] at this; simp at this
theorem noNum : NoNum Tryz.prog := noNum_of (by kernel_rfl)
theorem x1_ok : XOK Tryz.prog [] X1 := memo_ok x0_ok mixed noNum 2000 60 selA
theorem x2_ok : XOK Tryz.prog [] X2 := memo_ok x1_ok mixed noNum 2000 60 selB
theorem rg0 (base : Nat) (w : World) : RG [] base w := fun g l h => by simp [gget] at h
end Go.Proofs.YtlbjmpbgnbpcoaaGreatDoor

