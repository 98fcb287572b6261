/- A part of the proof of the law ShardParts. CONDITIONS: those that each theorem names. -/
import Derived.Test.YtdcindnnbmilaaaGreatDoorP12
import Derived.Test.YtdcindnnbmilaaaGreatDoorEngineD
import Derived.Test.YtdcindnnbmilaaaGreatDoorCards
import Derived.Test.YtdcindnnbmilaaaGreatDoorTie
import Derived.ProofKit
import Derived.LaidMore
import Derived.OpenShut
import Derived.Carry
import Derived.Stop.Joined
import Derived.SevenTiedAt
namespace Go.Proofs.YtdcindnnbmilaaaGreatDoor
open Go.ChangeShapes Go.WideShapes Go.ChangeAt Go.RowKit Go.Ai
set_option maxRecDepth 100000

theorem own : ownKnob Tryz.prog.godebug = none := by kernel_rfl
theorem laidOut : laidOutB Tryz.prog = true := by kernel_rfl
noncomputable def laidL : List (String × DataW Unit) := Rows.shardPartsRow.laid
def wit : Array Value := #[.agg #[.slice none 0 0, .slice none 0 0], .int .i64 0]
theorem door_met (os : Os) (args : Array Value) : laidMetH Tryz.prog laidL ((World.doorLaid Tryz.prog 400 os).forCall (fun _ _ => 0) ⟨#[], args, []⟩).memory :=
  laidMetH_of_parts3 (fuel := 8) (laidMet_of_run' 8 (by kernel_rfl) (by kernel_rfl)) (by kernel_rfl) (by kernel_rfl)
theorem body_there : ∃ c, Tryz.f3.body = some c := Option.isSome_iff_exists.1 (by kernel_rfl)
theorem cells24 : Tryz.prog.cellTypes Tryz.prog.depth 24 = some ((Tryz.prog.cellTypes Tryz.prog.depth 24).getD []) := by kernel_rfl
theorem ts24 : cellTs Tryz.prog 9 24 = some ((cellTs Tryz.prog 9 24).getD []) := by kernel_rfl
theorem ts24_0 : ((cellTs Tryz.prog 9 24).getD [])[0]? = some 22 := by kernel_rfl
theorem ts24_1 : ((cellTs Tryz.prog 9 24).getD [])[1]? = some 22 := by kernel_rfl
theorem te9 : cellTs Tryz.prog 9 9 = some ((cellTs Tryz.prog 9 9).getD []) := by kernel_rfl
theorem tk9 : kindsOf Tryz.prog ((cellTs Tryz.prog 9 9).getD []) = some ksT := by kernel_rfl
theorem tz9 : Tryz.prog.cellsOf 9 = ksT.length := by kernel_rfl
theorem tb9 : 0 < Tryz.prog.bytesOf 9 := of_decide_eq_true (by kernel_rfl)
theorem says (w : World) {cs : Array Value} {as' : List AV} {n : Int} (ha : absCs w cs.toList = some as') (h : SndQ Tryz.prog [] 3 [.agg as', .int .i64 n] (absS w) (fun o => ∃ s', o = .val (.bool true) s')) :
    Calls Tryz.prog 3 #[.agg cs, .int .i64 n] w fun e w' => e = .returned (.bool true) ∧ Keeps (fun _ => False) w w' := by
  obtain ⟨_, hc⟩ := body_there
  have rv : RVs (rhoW w) [.agg as', .int .i64 n] [.agg cs, .int .i64 n] := ⟨_, _, ⟨cs.toList, absCs_rv ha, by simp⟩, ⟨_, _, rfl, rfl, rfl⟩, rfl⟩
  exact calls_abs noNum Tryz.func3 hc rv h fun o h => h
theorem lifted (os : Os) (started : os.Started) (H : Type) (enc : TypeId × Value → H) :
    ReturnsInHanded {} Tryz.checked os 3 .any (fun w args => (Rows.shardPartsSpec.pre enc Tryz.prog Tryz.f3 [] false w args ∧ laidMetH Tryz.prog laidL w) ∧ sizedMet enc Tryz.prog Tryz.f3 (OpenSpec.ofChange Rows.shardPartsSpec) false w args)
      (Rows.shardPartsSpec.post enc Tryz.prog Tryz.f3 false true false false) := by
  refine returnsInHanded_of_change_and (C := Tryz.checked) (X := fun w _ => laidMetH Tryz.prog laidL w) (fun _ _ _ hh h => h.of_heap hh) own started (by kernel_rfl) Tryz.func3
    (ChangeSpec.witness_shaped (enc := enc) (C := Tryz.checked) (os := os) (X := fun w _ => laidMetH Tryz.prog laidL w) false (World.doorLaid Tryz.prog 400 os) wit 8 rfl (World.shaped_of_RefB (by kernel_rfl) (by kernel_rfl)) (by kernel_rfl) (by kernel_rfl) (by kernel_rfl) (door_met os _)) ?_
  intro W base args ds gs before hok hW _ hsz _ _
  have hW' := hW
  obtain ⟨p, q, hA0, hV, rfl, _, _⟩ := hW
  have hA : DataW.TrodAll enc Tryz.prog W 0 (fun _ => true) true Tryz.f3.params.toList args.toList ds p := hA0
  rw [Tryz.params3] at hA
  have hsz : (DataW.weightsEach Tryz.prog (Tryz.f3.params.toList ++ Rows.shardPartsSpec.plain.varTypes Tryz.prog) (ds ++ gs)).all (· ≤ reachBytes) = true := hsz
  rw [Tryz.params3] at hsz
  obtain ⟨v0, v1, d0, d1, p0, p1, rfl, rfl, rfl, h0, h1⟩ := trodAll_two hA
  obtain ⟨rfl, rfl⟩ := trodVars_none hV
  have k0 : Value.okWide Tryz.prog W .any base 24 v0 := hok 0 24 v0 (by rw [show Tryz.checked.prog = Tryz.prog from rfl] at *; rw [Tryz.params3]; rfl) rfl
  have k1 : Value.okWide Tryz.prog W .any base 3 v1 := hok 1 3 v1 (by rw [Tryz.params3]; rfl) rfl
  obtain ⟨cs, as', rfl, ha, hl⟩ := abs_agg Tryz.underlying24 cells24 (by kernel_rfl) k0
  obtain ⟨n, rfl, _, _⟩ := abs_int Tryz.underlying3 k1
  have hl2 : as'.length = 2 := hl.trans (by kernel_rfl)
  obtain ⟨fu, hfu⟩ := h0
  have hW0 : (DataW.weights Tryz.prog 24 d0).all (· ≤ reachBytes) = true := List.all_eq_true.2 fun m hm => List.all_eq_true.1 hsz m (DataW.weights_mem_each (j := 0) (t := 24) (d := d0) rfl rfl m hm)
  have each := (trod_eachW (cs := cs.toList) ts24 hfu).2
  obtain ⟨w0, f0, z0, hv0, ht0, hn0⟩ := each 0 22 ts24_0
  have hg0 := (absCs_get ha).2 0 w0 hv0
  obtain ⟨c0, hb0⟩ : ∃ a, absC W w0 = some a := by
    rcases hq : absC W w0 with _ | a
    · rw [hq] at hg0; have hn := List.getElem?_eq_none_iff.1 hg0.symm; omega
    · exact ⟨a, rfl⟩
  obtain ⟨L0, hL0⟩ := trod_list Tryz.underlying22 te9 tk9 tz9 (by decide) (fun _ => rfl) hb0 ht0
  have hs0 := trod_slice_len Tryz.underlying22 tb9 hb0 hL0.p ht0 hn0 hW0
  obtain ⟨w1, f1, z1, hv1, ht1, hn1⟩ := each 1 22 ts24_1
  have hg1 := (absCs_get ha).2 1 w1 hv1
  obtain ⟨c1, hb1⟩ : ∃ a, absC W w1 = some a := by
    rcases hq : absC W w1 with _ | a
    · rw [hq] at hg1; have hn := List.getElem?_eq_none_iff.1 hg1.symm; omega
    · exact ⟨a, rfl⟩
  obtain ⟨L1, hL1⟩ := trod_list Tryz.underlying22 te9 tk9 tz9 (by decide) (fun _ => rfl) hb1 ht1
  have hs1 := trod_slice_len Tryz.underlying22 tb9 hb1 hL1.p ht1 hn1 hW0
  have e0 : as'[0]? = some c0 := by rw [← (absCs_get ha).2 0 w0 hv0]; exact hb0
  have e1 : as'[1]? = some c1 := by rw [← (absCs_get ha).2 1 w1 hv1]; exact hb1
  have e : as' = [c0, c1] := by
    apply List.ext_getElem?
    intro i
    match i with
    | 0 => exact e0
    | 1 => exact e1
    | n + 2 => rw [List.getElem?_eq_none (by omega), List.getElem?_eq_none (by simp)]
  rw [e] at ha
  refine (says W ha (law3 (absH W) (W.heap.size + 1) c0 c1 L0 L1 hL0.p hL1.p n (by have : maxLen = 9223372036854775807 := (by decide); omega))).mono fun e W' ⟨he, hk⟩ => ?_
  subst he
  have hb := below_of_keeps hk
  have hlt : ∀ x ∈ p0 ++ p1, x.block < W.heap.size := fun x hx => hW'.lt x (by simpa using hx)
  have h0 : DataW.Trod enc Tryz.prog W 0 (fun _ => true) true 24 (.agg cs) d0 p0 := ⟨fu, hfu⟩
  have e1 : Rows.shardPartsSpec.fn H ([d0, d1] ++ []) = { results := [.lit (.bool true)], args := [d0, d1] } := rfl
  refine ⟨_, rfl, _, _, _, [], p0 ++ p1, [], hW', ?_, ?_, ?_, kept_of_keeps hk _, fun h => by cases h⟩
  · rw [e1]; exact trodAll_mk1 (shut_bool Tryz.underlying4 true)
  · rw [e1]
    exact trodAll_mk2 (Below.trod laidOut (by kernel_rfl) (of_decide_eq_true (by kernel_rfl)) h0 hb fun x hx => hlt x (List.mem_append_left _ hx))
      (Below.trod laidOut (by kernel_rfl) (of_decide_eq_true (by kernel_rfl)) h1 hb fun x hx => hlt x (List.mem_append_right _ hx))
  · rw [e1]; rfl
end Go.Proofs.YtdcindnnbmilaaaGreatDoor
