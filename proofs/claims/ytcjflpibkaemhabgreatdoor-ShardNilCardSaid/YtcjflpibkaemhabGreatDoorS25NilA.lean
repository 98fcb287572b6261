/- A part of the proof of the law ShardNil. CONDITIONS: those that each theorem names. -/
import Derived.Test.YtcjflpibkaemhabGreatDoorW25b
import Derived.Test.YtcjflpibkaemhabGreatDoorEngineD
import Derived.Test.YtcjflpibkaemhabGreatDoorCards
import Derived.Test.YtcjflpibkaemhabGreatDoorTie
import Derived.ProofKit
import Derived.LaidMore
import Derived.OpenShut
import Derived.Carry
import Derived.Stop.Joined
import Derived.SevenTiedAt
namespace Go.Proofs.YtcjflpibkaemhabGreatDoor
open Go.ChangeShapes Go.WideShapes Go.ChangeAt Go.RowKit Go.Ai
set_option maxRecDepth 100000

theorem own : ownKnob Tryz.prog.godebug = none := by kernel_rfl
theorem laidOut : laidOutB Tryz.prog = true := by kernel_rfl
noncomputable def laidL : List (String × DataW Unit) := Rows.shardNilRow.laid
def wit : Array Value := #[.agg #[.int .i64 0, .int .i64 0, .int .i64 0, .int .u64 0, .string ⟨#[]⟩, .slice none 0 0, .int .i64 0, .slice none 0 0, .slice none 0 0], .int .i64 0]
theorem door_met (os : Os) (args : Array Value) : laidMetH Tryz.prog laidL ((World.doorLaid Tryz.prog 400 os).forCall (fun _ _ => 0) ⟨#[], args, []⟩).memory :=
  laidMetH_of_parts3 (fuel := 8) (laidMet_of_run' 8 (by kernel_rfl) (by kernel_rfl)) (by kernel_rfl) (by kernel_rfl)
theorem body_there : ∃ c, Tryz.f3.body = some c := Option.isSome_iff_exists.1 (by kernel_rfl)
theorem cells32 : Tryz.prog.cellTypes Tryz.prog.depth 32 = some ((Tryz.prog.cellTypes Tryz.prog.depth 32).getD []) := by kernel_rfl
theorem ts32 : cellTs Tryz.prog 9 32 = some ((cellTs Tryz.prog 9 32).getD []) := by kernel_rfl
theorem ts32_0 : ((cellTs Tryz.prog 9 32).getD [])[0]? = some 2 := by kernel_rfl
theorem kd2 : kindOf Tryz.prog 2 = some (.i .i64) := by kernel_rfl
theorem says (w : World) {cs : Array Value} {q : Int} {r : List AV} (ha : absCs w cs.toList = some (.int .i64 q :: r)) (hl : r.length = 8) (n : Int) :
    Calls Tryz.prog 3 #[.agg cs, .int .i64 n] w fun e w' => e = .returned (.bool true) ∧ Keeps (fun _ => False) w w' := by
  obtain ⟨_, hc⟩ := body_there
  have rv : RVs (rhoW w) [.agg (.int .i64 q :: r), .int .i64 n] [.agg cs, .int .i64 n] := ⟨_, _, ⟨cs.toList, absCs_rv ha, by simp⟩, ⟨_, _, rfl, rfl, rfl⟩, rfl⟩
  exact calls_none noNum Tryz.func3 hc rv (nil_law q r hl n .e (w.heap.size + 1)) fun o h => h
theorem lifted (os : Os) (started : os.Started) (H : Type) (enc : TypeId × Value → H) :
    ReturnsInHanded {} Tryz.checked os 3 .any (fun w args => (Rows.shardNilSpec.pre enc Tryz.prog Tryz.f3 [] false w args ∧ laidMetH Tryz.prog laidL w) ∧ sizedMet enc Tryz.prog Tryz.f3 (OpenSpec.ofChange Rows.shardNilSpec) false w args)
      (Rows.shardNilSpec.post enc Tryz.prog Tryz.f3 false true false false) := by
  refine returnsInHanded_of_change_and (C := Tryz.checked) (X := fun w _ => laidMetH Tryz.prog laidL w) (fun _ _ _ hh h => h.of_heap hh) own started (by kernel_rfl) Tryz.func3
    (ChangeSpec.witness_shaped (enc := enc) (C := Tryz.checked) (os := os) (X := fun w _ => laidMetH Tryz.prog laidL w) false (World.doorLaid Tryz.prog 400 os) wit 8 rfl (World.shaped_of_RefB (by kernel_rfl) (by kernel_rfl)) (by kernel_rfl) (by kernel_rfl) (by kernel_rfl) (door_met os _)) ?_
  intro W base args ds gs before hok hW _ _ _ _
  have hW' := hW
  obtain ⟨p, q, hA0, hV, rfl, _, _⟩ := hW
  have hA : DataW.TrodAll enc Tryz.prog W 0 (fun _ => true) true Tryz.f3.params.toList args.toList ds p := hA0
  rw [Tryz.params3] at hA
  obtain ⟨v0, v1, d0, d1, p0, p1, rfl, rfl, rfl, h0, h1⟩ := trodAll_two hA
  obtain ⟨rfl, rfl⟩ := trodVars_none hV
  have k0 : Value.okWide Tryz.prog W .any base 32 v0 := hok 0 32 v0 (by rw [show Tryz.checked.prog = Tryz.prog from rfl] at *; rw [Tryz.params3]; rfl) rfl
  have k1 : Value.okWide Tryz.prog W .any base 3 v1 := hok 1 3 v1 (by rw [Tryz.params3]; rfl) rfl
  obtain ⟨cs, as', rfl, ha, hl⟩ := abs_agg Tryz.underlying32 cells32 (by kernel_rfl) k0
  obtain ⟨n, rfl, _, _⟩ := abs_int Tryz.underlying3 k1
  have hl9 : as'.length = 9 := hl.trans (by kernel_rfl)
  obtain ⟨fu, hfu⟩ := h0
  obtain ⟨v, f', y, hv, hy⟩ := (trod_each (cs := cs.toList) ts32 hfu).2 0 2 ts32_0
  obtain ⟨a0, ha0, hk0⟩ := trod_kind kd2 hy
  have hg := (absCs_get ha).2 0 v hv
  rw [ha0] at hg
  obtain ⟨q, hq⟩ : ∃ q, a0 = .int .i64 q := by
    cases a0 <;> simp [ckOk] at hk0
    obtain ⟨rfl, _⟩ := hk0
    exact ⟨_, rfl⟩
  subst hq
  have h0 : DataW.Trod enc Tryz.prog W 0 (fun _ => true) true 32 (.agg cs) d0 p0 := ⟨fu, hfu⟩
  cases as' with
  | nil => simp at hg
  | cons a1 r =>
  simp at hg
  subst hg
  refine (says W ha (by simpa using hl9) n).mono fun e W' ⟨he, hk⟩ => ?_
  subst he
  have hb := below_of_keeps hk
  have hlt : ∀ x ∈ p0 ++ p1, x.block < W.heap.size := fun x hx => hW'.lt x (by simpa using hx)
  have e1 : Rows.shardNilSpec.fn H ([d0, d1] ++ []) = { results := [.lit (.bool true)], args := [d0, d1] } := rfl
  refine ⟨_, rfl, _, _, _, [], p0 ++ p1, [], hW', ?_, ?_, ?_, kept_of_keeps hk _, fun h => by cases h⟩
  · rw [e1]; exact trodAll_mk1 (shut_bool Tryz.underlying4 true)
  · rw [e1]
    exact trodAll_mk2 (Below.trod laidOut (by kernel_rfl) (of_decide_eq_true (by kernel_rfl)) h0 hb fun x hx => hlt x (List.mem_append_left _ hx))
      (Below.trod laidOut (by kernel_rfl) (of_decide_eq_true (by kernel_rfl)) h1 hb fun x hx => hlt x (List.mem_append_right _ hx))
  · rw [e1]; rfl
end Go.Proofs.YtcjflpibkaemhabGreatDoor
