/- A part of the proof of the law ReplayRings. CONDITIONS: those that each theorem names. -/
import Derived.Test.YtpgkhpfogjclhaaGreatDoorR8
import Derived.Test.YtpgkhpfogjclhaaGreatDoorEngineD
import Derived.Test.YtpgkhpfogjclhaaGreatDoorCards
import Derived.Test.YtpgkhpfogjclhaaGreatDoorTie
import Derived.ProofKit
import Derived.LaidMore
import Derived.Lay
import Derived.OpenShut
import Derived.Carry
import Derived.Stop.Joined
import Derived.SevenTiedAt
namespace Go.Proofs.YtpgkhpfogjclhaaGreatDoor
open Go.ChangeShapes Go.WideShapes Go.ChangeAt Go.RowKit Go.Ai
set_option maxRecDepth 100000

theorem okWide_slice {P : Program} {w : World} {r : Reach} {base : Nat} {t e : TypeId} {v : Value} (hu : P.underlying t = some (.slice e)) (h : Value.okWide P w r base t v) : v.cells = #[v] := by
  unfold Value.okWide at h
  rw [hu] at h
  cases v with
  | agg cs => simp [Cell.okWide, Cell.ok, hu] at h
  | _ => rfl
theorem own : ownKnob Tryz.prog.godebug = none := by kernel_rfl
theorem laidOut : laidOutB Tryz.prog = true := by kernel_rfl
noncomputable def laidL : List (String × DataW Unit) := Rows.replayRingsRow.laid
def wit : Array Value := #[.int .i64 0, .slice none 0 0]
theorem body_there : ∃ c, Tryz.f4.body = some c := Option.isSome_iff_exists.1 (by kernel_rfl)
theorem te83 : cellTs Tryz.prog 9 83 = some ((cellTs Tryz.prog 9 83).getD []) := by kernel_rfl
theorem tk83 : kindsOf Tryz.prog ((cellTs Tryz.prog 9 83).getD []) = some ksE := by kernel_rfl
theorem tz83 : Tryz.prog.cellsOf 83 = ksE.length := by kernel_rfl
theorem tb83 : 0 < Tryz.prog.bytesOf 83 := of_decide_eq_true (by kernel_rfl)
theorem says (w : World) {v : Value} {a : AV} {q : Int} (ha : absC w v = some a) (h : SndQ Tryz.prog [] 4 [.int .i64 q, a] (absS w) (fun o => ∃ s', o = .val (.bool true) s')) :
    Calls Tryz.prog 4 #[.int .i64 q, v] w fun e w' => e = .returned (.bool true) ∧ Keeps (fun _ => False) w w' := by
  obtain ⟨_, hc⟩ := body_there
  have rv : RVs (rhoW w) [.int .i64 q, a] [.int .i64 q, v] := ⟨_, _, rfl, ⟨_, _, absC_rv ha, rfl, rfl⟩, rfl⟩
  exact calls_abs noNum Tryz.func4 hc rv h fun o h => h
theorem lifted (os : Os) (started : os.Started) (H : Type) (enc : TypeId × Value → H) :
    ReturnsInHanded {} Tryz.checked os 4 .any (fun w args => (Rows.replayRingsSpec.pre enc Tryz.prog Tryz.f4 [] false w args ∧ laidMetH Tryz.prog laidL w) ∧ sizedMet enc Tryz.prog Tryz.f4 (OpenSpec.ofChange Rows.replayRingsSpec) false w args)
      (Rows.replayRingsSpec.post enc Tryz.prog Tryz.f4 false true false false) := by
  refine returnsInHanded_of_change_and (C := Tryz.checked) (X := fun w _ => laidMetH Tryz.prog laidL w) (fun _ _ _ hh h => h.of_heap hh) own started (by kernel_rfl) Tryz.func4
    (ChangeSpec.witness_shaped (enc := enc) (C := Tryz.checked) (os := os) (X := fun w _ => laidMetH Tryz.prog laidL w) false (World.laidAll Tryz.prog os laidL) wit 8 (World.laidAll_os _ _ _)
      (World.shaped_of_ZipB (by kernel_rfl) (by kernel_rfl)) (by kernel_rfl) (by kernel_rfl) (by kernel_rfl)
      (by rw [MakeChecks.laidMetH_plain _ _ _ (by kernel_rfl)]; exact laidMet_laidAll _ (by kernel_rfl) (by kernel_rfl))) ?_
  intro W base args ds gs before hok hW _ hsz _ _
  have hW' := hW
  obtain ⟨p, q, hA0, hV, rfl, _, _⟩ := hW
  have hA : DataW.TrodAll enc Tryz.prog W 0 (fun _ => true) true Tryz.f4.params.toList args.toList ds p := hA0
  rw [Tryz.params4] at hA
  have hsz : (DataW.weightsEach Tryz.prog (Tryz.f4.params.toList ++ Rows.replayRingsSpec.plain.varTypes Tryz.prog) (ds ++ gs)).all (· ≤ reachBytes) = true := hsz
  rw [Tryz.params4] at hsz
  obtain ⟨v0, v1, d0, d1, p0, p1, rfl, rfl, rfl, h0, h1⟩ := trodAll_two hA
  obtain ⟨rfl, rfl⟩ := trodVars_none hV
  have k0 : Value.okWide Tryz.prog W .any base 3 v0 := hok 0 3 v0 (by rw [show Tryz.checked.prog = Tryz.prog from rfl] at *; rw [Tryz.params4]; rfl) rfl
  have k1 : Value.okWide Tryz.prog W .any base 37 v1 := hok 1 37 v1 (by rw [Tryz.params4]; rfl) rfl
  obtain ⟨n, rfl, _, _⟩ := abs_int Tryz.underlying3 k0
  obtain ⟨fu, hfu⟩ := h1
  have hfu' : DataW.trod enc Tryz.prog W 0 (fun _ => true) true fu 37 [v1] = some (d1, p1) := by
    have := hfu
    rw [okWide_slice Tryz.underlying37 k1] at this
    exact this
  have hW1 : ∀ m ∈ DataW.weights Tryz.prog 37 d1, m ≤ reachBytes := fun m hm => of_decide_eq_true (List.all_eq_true.1 hsz m (DataW.weights_mem_each (j := 1) (t := 37) (d := d1) rfl rfl m hm))
  obtain ⟨a, L, e1, e2, _, _⟩ := trod_list (okD_weights Tryz.prog) (fun _ => rfl) Tryz.underlying37 te83 tk83 tz83 (by decide) tb83 hfu' hW1
  refine (says W e1 (law4 (absH W) (W.heap.size + 1) n a L e2)).mono fun e W' ⟨he, hk⟩ => ?_
  subst he
  have hb := below_of_keeps hk
  have hlt : ∀ x ∈ p0 ++ p1, x.block < W.heap.size := fun x hx => hW'.lt x (by simpa using hx)
  have h1 : DataW.Trod enc Tryz.prog W 0 (fun _ => true) true 37 v1 d1 p1 := ⟨fu, hfu⟩
  have e1 : Rows.replayRingsSpec.fn H ([d0, d1] ++ []) = { results := [.lit (.bool true)], args := [d0, d1] } := rfl
  refine ⟨_, rfl, _, _, _, [], p0 ++ p1, [], hW', ?_, ?_, ?_, kept_of_keeps hk _, fun h => by cases h⟩
  · rw [e1]; exact trodAll_mk1 (shut_bool Tryz.underlying4 true)
  · rw [e1]
    exact trodAll_mk2 (Below.trod laidOut (by kernel_rfl) (of_decide_eq_true (by kernel_rfl)) h0 hb fun x hx => hlt x (List.mem_append_left _ hx))
      (Below.trod laidOut (by kernel_rfl) (of_decide_eq_true (by kernel_rfl)) h1 hb fun x hx => hlt x (List.mem_append_right _ hx))
  · rw [e1]; rfl
end Go.Proofs.YtpgkhpfogjclhaaGreatDoor
