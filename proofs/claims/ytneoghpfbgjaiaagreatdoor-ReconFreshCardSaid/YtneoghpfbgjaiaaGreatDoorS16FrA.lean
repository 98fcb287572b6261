/- A part of the proof of the law ReconFresh. CONDITIONS: those that each theorem names. -/
import Derived.Test.YtneoghpfbgjaiaaGreatDoorG20
import Derived.Test.YtneoghpfbgjaiaaGreatDoorEngineD
import Derived.Test.YtneoghpfbgjaiaaGreatDoorCards
import Derived.Test.YtneoghpfbgjaiaaGreatDoorTie
import Derived.ProofKit
import Derived.LaidMore
import Derived.OpenShut
import Derived.Carry
import Derived.Stop.Joined
import Derived.SevenTiedAt
namespace Go.Proofs.YtneoghpfbgjaiaaGreatDoor
open Go.ChangeShapes Go.WideShapes Go.ChangeAt Go.RowKit Go.Ai
set_option maxRecDepth 100000

theorem own : ownKnob Tryz.prog.godebug = none := by kernel_rfl
theorem laidOut : laidOutB Tryz.prog = true := by kernel_rfl
noncomputable def laidL : List (String × DataW Unit) := Rows.reconFreshRow.laid
def wit : Array Value := #[.agg #[.int .i64 0, .int .u64 0, .string ⟨#[]⟩, .slice none 0 0, .int .i64 0, .slice none 0 0, .slice none 0 0, .slice none 0 0, .int .i64 0, .int .u64 0, .string ⟨#[]⟩, .slice none 0 0, .int .i64 0, .slice none 0 0, .slice none 0 0, .slice none 0 0, .slice none 0 0, .slice none 0 0]]
theorem door_met (os : Os) (args : Array Value) : laidMetH Tryz.prog laidL ((World.doorLaid Tryz.prog 400 os).forCall (fun _ _ => 0) ⟨#[], args, []⟩).memory :=
  laidMetH_of_parts3 (fuel := 8) (laidMet_of_run' 8 (by kernel_rfl) (by kernel_rfl)) (by kernel_rfl) (by kernel_rfl)
theorem body_there : ∃ c, Tryz.f4.body = some c := Option.isSome_iff_exists.1 (by kernel_rfl)
theorem cells58 : Tryz.prog.cellTypes Tryz.prog.depth 58 = some ((Tryz.prog.cellTypes Tryz.prog.depth 58).getD []) := by kernel_rfl
theorem ts58 : cellTs Tryz.prog 9 58 = some ((cellTs Tryz.prog 9 58).getD []) := by kernel_rfl
theorem ts58_0 : ((cellTs Tryz.prog 9 58).getD [])[0]? = some 3 := by kernel_rfl
theorem ts58_1 : ((cellTs Tryz.prog 9 58).getD [])[1]? = some 23 := by kernel_rfl
theorem ts58_2 : ((cellTs Tryz.prog 9 58).getD [])[2]? = some 9 := by kernel_rfl
theorem ts58_3 : ((cellTs Tryz.prog 9 58).getD [])[3]? = some 24 := by kernel_rfl
theorem ts58_4 : ((cellTs Tryz.prog 9 58).getD [])[4]? = some 3 := by kernel_rfl
theorem ts58_5 : ((cellTs Tryz.prog 9 58).getD [])[5]? = some 37 := by kernel_rfl
theorem ts58_6 : ((cellTs Tryz.prog 9 58).getD [])[6]? = some 37 := by kernel_rfl
theorem ts58_7 : ((cellTs Tryz.prog 9 58).getD [])[7]? = some 27 := by kernel_rfl
theorem ts58_8 : ((cellTs Tryz.prog 9 58).getD [])[8]? = some 3 := by kernel_rfl
theorem ts58_9 : ((cellTs Tryz.prog 9 58).getD [])[9]? = some 23 := by kernel_rfl
theorem ts58_10 : ((cellTs Tryz.prog 9 58).getD [])[10]? = some 9 := by kernel_rfl
theorem ts58_11 : ((cellTs Tryz.prog 9 58).getD [])[11]? = some 24 := by kernel_rfl
theorem ts58_12 : ((cellTs Tryz.prog 9 58).getD [])[12]? = some 3 := by kernel_rfl
theorem ts58_13 : ((cellTs Tryz.prog 9 58).getD [])[13]? = some 37 := by kernel_rfl
theorem ts58_14 : ((cellTs Tryz.prog 9 58).getD [])[14]? = some 37 := by kernel_rfl
theorem ts58_15 : ((cellTs Tryz.prog 9 58).getD [])[15]? = some 27 := by kernel_rfl
theorem ts58_16 : ((cellTs Tryz.prog 9 58).getD [])[16]? = some 27 := by kernel_rfl
theorem ts58_17 : ((cellTs Tryz.prog 9 58).getD [])[17]? = some 56 := by kernel_rfl
theorem kd3 : kindOf Tryz.prog 3 = some (.i .i64) := by kernel_rfl
theorem kd23 : kindOf Tryz.prog 23 = some (.i .u64) := by kernel_rfl
theorem kd9 : kindOf Tryz.prog 9 = some .s := by kernel_rfl
theorem te115 : cellTs Tryz.prog 9 115 = some ((cellTs Tryz.prog 9 115).getD []) := by kernel_rfl
theorem tk115 : kindsOf Tryz.prog ((cellTs Tryz.prog 9 115).getD []) = some ksV := by kernel_rfl
theorem tz115 : Tryz.prog.cellsOf 115 = ksV.length := by kernel_rfl
theorem te9 : cellTs Tryz.prog 9 9 = some ((cellTs Tryz.prog 9 9).getD []) := by kernel_rfl
theorem tk9 : kindsOf Tryz.prog ((cellTs Tryz.prog 9 9).getD []) = some ksT := by kernel_rfl
theorem tz9 : Tryz.prog.cellsOf 9 = ksT.length := by kernel_rfl
theorem te117 : cellTs Tryz.prog 9 117 = some ((cellTs Tryz.prog 9 117).getD []) := by kernel_rfl
theorem tk117 : kindsOf Tryz.prog ((cellTs Tryz.prog 9 117).getD []) = some ksI := by kernel_rfl
theorem tz117 : Tryz.prog.cellsOf 117 = ksI.length := by kernel_rfl
theorem te119 : cellTs Tryz.prog 9 119 = some ((cellTs Tryz.prog 9 119).getD []) := by kernel_rfl
theorem tk119 : kindsOf Tryz.prog ((cellTs Tryz.prog 9 119).getD []) = some ksW := by kernel_rfl
theorem tz119 : Tryz.prog.cellsOf 119 = ksW.length := by kernel_rfl
theorem law4 (h : Heap) (F : Nat) (x1 x2 y1 y2 q1 q2 : Int) (n1 n2 : List UInt8) (a a2 r r2 v v2 p p2 : AV) (A A2 R R2 V V2 P P2 : List (List AV)) (hA : LstP h ksV a A) (hA2 : LstP h ksV a2 A2) (hR : LstP h ksT r R) (hR2 : LstP h ksT r2 R2) (hV : LstP h ksT v V) (hV2 : LstP h ksT v2 V2) (hP : LstP h ksI p P) (hP2 : LstP h ksI p2 P2) (it wr : AV) (I W : List (List AV)) (hI : LstP h ksI it I) (hW : LstP h ksW wr W) :
    SndQ Tryz.prog [] 4 [.agg [.int .i64 x1, .int .u64 y1, .str n1, a, .int .i64 q1, r, v, p, .int .i64 x2, .int .u64 y2, .str n2, a2, .int .i64 q2, r2, v2, p2, it, wr]] ⟨h, F⟩ (fun o => ∃ s', o = .val (.bool true) s') := by
  by_cases hb : I.length ≤ 300 ∧ P.length ≤ 500 ∧ W.length ≤ 500
  · exact law4_small h F x1 x2 y1 y2 q1 q2 n1 n2 a a2 r r2 v v2 p p2 A A2 R R2 V V2 P P2 hA hA2 hR hR2 hV hV2 hP hP2 it wr I W hI hW hb
  · exact law4_big h F x1 x2 y1 y2 q1 q2 n1 n2 a a2 r r2 v v2 p p2 A A2 R R2 V V2 P P2 hA hA2 hR hR2 hV hV2 hP hP2 it wr I W hI hW hb
theorem says (w : World) {cs : Array Value} {as' : List AV} (ha : absCs w cs.toList = some as') (h : SndQ Tryz.prog [] 4 [.agg as'] (absS w) (fun o => ∃ s', o = .val (.bool true) s')) :
    Calls Tryz.prog 4 #[.agg cs] w fun e w' => e = .returned (.bool true) ∧ Keeps (fun _ => False) w w' := by
  obtain ⟨_, hc⟩ := body_there
  have rv : RVs (rhoW w) [.agg as'] [.agg cs] := ⟨_, _, ⟨cs.toList, absCs_rv ha, by simp⟩, rfl, rfl⟩
  exact calls_abs noNum Tryz.func4 hc rv h fun o h => h
theorem int_shape {k : IntKind} {a : AV} (h : ckOk (.i k) a) : ∃ n, a = .int k n := by
  cases a <;> simp only [ckOk] at h <;> try exact h.elim
  obtain ⟨rfl, _⟩ := h
  exact ⟨_, rfl⟩
theorem str_shape {a : AV} (h : ckOk .s a) : ∃ s, a = .str s := by
  cases a <;> simp only [ckOk] at h <;> try exact h.elim
  exact ⟨_, rfl⟩
theorem lifted (os : Os) (started : os.Started) (H : Type) (enc : TypeId × Value → H) :
    ReturnsInHanded {} Tryz.checked os 4 .any (fun w args => (Rows.reconFreshSpec.pre enc Tryz.prog Tryz.f4 [] false w args ∧ laidMetH Tryz.prog laidL w) ∧ sizedMet enc Tryz.prog Tryz.f4 (OpenSpec.ofChange Rows.reconFreshSpec) false w args)
      (Rows.reconFreshSpec.post enc Tryz.prog Tryz.f4 false true false false) := by
  refine returnsInHanded_of_change_and (C := Tryz.checked) (X := fun w _ => laidMetH Tryz.prog laidL w) (fun _ _ _ hh h => h.of_heap hh) own started (by kernel_rfl) Tryz.func4
    (ChangeSpec.witness_shaped (enc := enc) (C := Tryz.checked) (os := os) (X := fun w _ => laidMetH Tryz.prog laidL w) false (World.doorLaid Tryz.prog 400 os) wit 8 rfl (World.shaped_of_RefB (by kernel_rfl) (by kernel_rfl)) (by kernel_rfl) (by kernel_rfl) (by kernel_rfl) (door_met os _)) ?_
  intro W base args ds gs before hok hW _ _ _ _
  have hW' := hW
  obtain ⟨p, q, hA0, hV, rfl, _, _⟩ := hW
  have hA : DataW.TrodAll enc Tryz.prog W 0 (fun _ => true) true Tryz.f4.params.toList args.toList ds p := hA0
  rw [Tryz.params4] at hA
  obtain ⟨v0, d0, rfl, rfl, h0⟩ := trodAll_one hA
  obtain ⟨rfl, rfl⟩ := trodVars_none hV
  have k0 : Value.okWide Tryz.prog W .any base 58 v0 := hok 0 58 v0 (by rw [show Tryz.checked.prog = Tryz.prog from rfl] at *; rw [Tryz.params4]; rfl) rfl
  obtain ⟨cs, as', rfl, ha, hl⟩ := abs_agg Tryz.underlying58 cells58 (by kernel_rfl) k0
  have hl18 : as'.length = 18 := hl.trans (by kernel_rfl)
  obtain ⟨fu, hfu⟩ := h0
  have each := (trod_each (cs := cs.toList) ts58 hfu).2
  obtain ⟨w0, f0, z0, hv0, ht0⟩ := each 0 3 ts58_0
  obtain ⟨b0, hb0, hk0⟩ := trod_kind kd3 ht0
  obtain ⟨c0, rfl⟩ := int_shape hk0
  obtain ⟨w1, f1, z1, hv1, ht1⟩ := each 1 23 ts58_1
  obtain ⟨b1, hb1, hk1⟩ := trod_kind kd23 ht1
  obtain ⟨c1, rfl⟩ := int_shape hk1
  obtain ⟨w2, f2, z2, hv2, ht2⟩ := each 2 9 ts58_2
  obtain ⟨b2, hb2, hk2⟩ := trod_kind kd9 ht2
  obtain ⟨c2, rfl⟩ := str_shape hk2
  obtain ⟨w3, f3, z3, hv3, ht3⟩ := each 3 24 ts58_3
  have hg3 := (absCs_get ha).2 3 w3 hv3
  obtain ⟨c3, hb3⟩ : ∃ a, absC W w3 = some a := by
    rcases hq : absC W w3 with _ | a
    · rw [hq] at hg3; have hn := List.getElem?_eq_none_iff.1 hg3.symm; omega
    · exact ⟨a, rfl⟩
  obtain ⟨L3, hL3⟩ := trod_list Tryz.underlying24 te115 tk115 tz115 (by decide) (fun _ => rfl) hb3 ht3
  obtain ⟨w4, f4, z4, hv4, ht4⟩ := each 4 3 ts58_4
  obtain ⟨b4, hb4, hk4⟩ := trod_kind kd3 ht4
  obtain ⟨c4, rfl⟩ := int_shape hk4
  obtain ⟨w5, f5, z5, hv5, ht5⟩ := each 5 37 ts58_5
  have hg5 := (absCs_get ha).2 5 w5 hv5
  obtain ⟨c5, hb5⟩ : ∃ a, absC W w5 = some a := by
    rcases hq : absC W w5 with _ | a
    · rw [hq] at hg5; have hn := List.getElem?_eq_none_iff.1 hg5.symm; omega
    · exact ⟨a, rfl⟩
  obtain ⟨L5, hL5⟩ := trod_list Tryz.underlying37 te9 tk9 tz9 (by decide) (fun _ => rfl) hb5 ht5
  obtain ⟨w6, f6, z6, hv6, ht6⟩ := each 6 37 ts58_6
  have hg6 := (absCs_get ha).2 6 w6 hv6
  obtain ⟨c6, hb6⟩ : ∃ a, absC W w6 = some a := by
    rcases hq : absC W w6 with _ | a
    · rw [hq] at hg6; have hn := List.getElem?_eq_none_iff.1 hg6.symm; omega
    · exact ⟨a, rfl⟩
  obtain ⟨L6, hL6⟩ := trod_list Tryz.underlying37 te9 tk9 tz9 (by decide) (fun _ => rfl) hb6 ht6
  obtain ⟨w7, f7, z7, hv7, ht7⟩ := each 7 27 ts58_7
  have hg7 := (absCs_get ha).2 7 w7 hv7
  obtain ⟨c7, hb7⟩ : ∃ a, absC W w7 = some a := by
    rcases hq : absC W w7 with _ | a
    · rw [hq] at hg7; have hn := List.getElem?_eq_none_iff.1 hg7.symm; omega
    · exact ⟨a, rfl⟩
  obtain ⟨L7, hL7⟩ := trod_list Tryz.underlying27 te117 tk117 tz117 (by decide) (fun _ => rfl) hb7 ht7
  obtain ⟨w8, f8, z8, hv8, ht8⟩ := each 8 3 ts58_8
  obtain ⟨b8, hb8, hk8⟩ := trod_kind kd3 ht8
  obtain ⟨c8, rfl⟩ := int_shape hk8
  obtain ⟨w9, f9, z9, hv9, ht9⟩ := each 9 23 ts58_9
  obtain ⟨b9, hb9, hk9⟩ := trod_kind kd23 ht9
  obtain ⟨c9, rfl⟩ := int_shape hk9
  obtain ⟨w10, f10, z10, hv10, ht10⟩ := each 10 9 ts58_10
  obtain ⟨b10, hb10, hk10⟩ := trod_kind kd9 ht10
  obtain ⟨c10, rfl⟩ := str_shape hk10
  obtain ⟨w11, f11, z11, hv11, ht11⟩ := each 11 24 ts58_11
  have hg11 := (absCs_get ha).2 11 w11 hv11
  obtain ⟨c11, hb11⟩ : ∃ a, absC W w11 = some a := by
    rcases hq : absC W w11 with _ | a
    · rw [hq] at hg11; have hn := List.getElem?_eq_none_iff.1 hg11.symm; omega
    · exact ⟨a, rfl⟩
  obtain ⟨L11, hL11⟩ := trod_list Tryz.underlying24 te115 tk115 tz115 (by decide) (fun _ => rfl) hb11 ht11
  obtain ⟨w12, f12, z12, hv12, ht12⟩ := each 12 3 ts58_12
  obtain ⟨b12, hb12, hk12⟩ := trod_kind kd3 ht12
  obtain ⟨c12, rfl⟩ := int_shape hk12
  obtain ⟨w13, f13, z13, hv13, ht13⟩ := each 13 37 ts58_13
  have hg13 := (absCs_get ha).2 13 w13 hv13
  obtain ⟨c13, hb13⟩ : ∃ a, absC W w13 = some a := by
    rcases hq : absC W w13 with _ | a
    · rw [hq] at hg13; have hn := List.getElem?_eq_none_iff.1 hg13.symm; omega
    · exact ⟨a, rfl⟩
  obtain ⟨L13, hL13⟩ := trod_list Tryz.underlying37 te9 tk9 tz9 (by decide) (fun _ => rfl) hb13 ht13
  obtain ⟨w14, f14, z14, hv14, ht14⟩ := each 14 37 ts58_14
  have hg14 := (absCs_get ha).2 14 w14 hv14
  obtain ⟨c14, hb14⟩ : ∃ a, absC W w14 = some a := by
    rcases hq : absC W w14 with _ | a
    · rw [hq] at hg14; have hn := List.getElem?_eq_none_iff.1 hg14.symm; omega
    · exact ⟨a, rfl⟩
  obtain ⟨L14, hL14⟩ := trod_list Tryz.underlying37 te9 tk9 tz9 (by decide) (fun _ => rfl) hb14 ht14
  obtain ⟨w15, f15, z15, hv15, ht15⟩ := each 15 27 ts58_15
  have hg15 := (absCs_get ha).2 15 w15 hv15
  obtain ⟨c15, hb15⟩ : ∃ a, absC W w15 = some a := by
    rcases hq : absC W w15 with _ | a
    · rw [hq] at hg15; have hn := List.getElem?_eq_none_iff.1 hg15.symm; omega
    · exact ⟨a, rfl⟩
  obtain ⟨L15, hL15⟩ := trod_list Tryz.underlying27 te117 tk117 tz117 (by decide) (fun _ => rfl) hb15 ht15
  obtain ⟨w16, f16, z16, hv16, ht16⟩ := each 16 27 ts58_16
  have hg16 := (absCs_get ha).2 16 w16 hv16
  obtain ⟨c16, hb16⟩ : ∃ a, absC W w16 = some a := by
    rcases hq : absC W w16 with _ | a
    · rw [hq] at hg16; have hn := List.getElem?_eq_none_iff.1 hg16.symm; omega
    · exact ⟨a, rfl⟩
  obtain ⟨L16, hL16⟩ := trod_list Tryz.underlying27 te117 tk117 tz117 (by decide) (fun _ => rfl) hb16 ht16
  obtain ⟨w17, f17, z17, hv17, ht17⟩ := each 17 56 ts58_17
  have hg17 := (absCs_get ha).2 17 w17 hv17
  obtain ⟨c17, hb17⟩ : ∃ a, absC W w17 = some a := by
    rcases hq : absC W w17 with _ | a
    · rw [hq] at hg17; have hn := List.getElem?_eq_none_iff.1 hg17.symm; omega
    · exact ⟨a, rfl⟩
  obtain ⟨L17, hL17⟩ := trod_list Tryz.underlying56 te119 tk119 tz119 (by decide) (fun _ => rfl) hb17 ht17
  have e0 : as'[0]? = some (.int .i64 c0) := by rw [← (absCs_get ha).2 0 w0 hv0]; exact hb0
  have e1 : as'[1]? = some (.int .u64 c1) := by rw [← (absCs_get ha).2 1 w1 hv1]; exact hb1
  have e2 : as'[2]? = some (.str c2) := by rw [← (absCs_get ha).2 2 w2 hv2]; exact hb2
  have e3 : as'[3]? = some (c3) := by rw [← (absCs_get ha).2 3 w3 hv3]; exact hb3
  have e4 : as'[4]? = some (.int .i64 c4) := by rw [← (absCs_get ha).2 4 w4 hv4]; exact hb4
  have e5 : as'[5]? = some (c5) := by rw [← (absCs_get ha).2 5 w5 hv5]; exact hb5
  have e6 : as'[6]? = some (c6) := by rw [← (absCs_get ha).2 6 w6 hv6]; exact hb6
  have e7 : as'[7]? = some (c7) := by rw [← (absCs_get ha).2 7 w7 hv7]; exact hb7
  have e8 : as'[8]? = some (.int .i64 c8) := by rw [← (absCs_get ha).2 8 w8 hv8]; exact hb8
  have e9 : as'[9]? = some (.int .u64 c9) := by rw [← (absCs_get ha).2 9 w9 hv9]; exact hb9
  have e10 : as'[10]? = some (.str c10) := by rw [← (absCs_get ha).2 10 w10 hv10]; exact hb10
  have e11 : as'[11]? = some (c11) := by rw [← (absCs_get ha).2 11 w11 hv11]; exact hb11
  have e12 : as'[12]? = some (.int .i64 c12) := by rw [← (absCs_get ha).2 12 w12 hv12]; exact hb12
  have e13 : as'[13]? = some (c13) := by rw [← (absCs_get ha).2 13 w13 hv13]; exact hb13
  have e14 : as'[14]? = some (c14) := by rw [← (absCs_get ha).2 14 w14 hv14]; exact hb14
  have e15 : as'[15]? = some (c15) := by rw [← (absCs_get ha).2 15 w15 hv15]; exact hb15
  have e16 : as'[16]? = some (c16) := by rw [← (absCs_get ha).2 16 w16 hv16]; exact hb16
  have e17 : as'[17]? = some (c17) := by rw [← (absCs_get ha).2 17 w17 hv17]; exact hb17
  have e : as' = [.int .i64 c0, .int .u64 c1, .str c2, c3, .int .i64 c4, c5, c6, c7, .int .i64 c8, .int .u64 c9, .str c10, c11, .int .i64 c12, c13, c14, c15, c16, c17] := by
    apply List.ext_getElem?
    intro i
    match i with
    | 0 => exact e0
    | 1 => exact e1
    | 2 => exact e2
    | 3 => exact e3
    | 4 => exact e4
    | 5 => exact e5
    | 6 => exact e6
    | 7 => exact e7
    | 8 => exact e8
    | 9 => exact e9
    | 10 => exact e10
    | 11 => exact e11
    | 12 => exact e12
    | 13 => exact e13
    | 14 => exact e14
    | 15 => exact e15
    | 16 => exact e16
    | 17 => exact e17
    | n + 18 => rw [List.getElem?_eq_none (by omega), List.getElem?_eq_none (by simp)]
  rw [e] at ha
  refine (says W ha (law4 (absH W) (W.heap.size + 1) c0 c8 c1 c9 c4 c12 c2 c10 c3 c11 c5 c13 c6 c14 c7 c15 L3 L11 L5 L13 L6 L14 L7 L15 hL3.p hL11.p hL5.p hL13.p hL6.p hL14.p hL7.p hL15.p c16 c17 L16 L17 hL16.p hL17.p)).mono fun e W' ⟨he, hk⟩ => ?_
  subst he
  have hb := below_of_keeps hk
  have hlt : ∀ x ∈ p, x.block < W.heap.size := fun x hx => hW'.lt x (by simpa using hx)
  have h0 : DataW.Trod enc Tryz.prog W 0 (fun _ => true) true 58 (.agg cs) d0 p := ⟨fu, hfu⟩
  have e1 : Rows.reconFreshSpec.fn H ([d0] ++ []) = { results := [.lit (.bool true)], args := [d0] } := rfl
  refine ⟨_, rfl, _, _, _, [], p, [], hW', ?_, ?_, ?_, kept_of_keeps hk _, fun h => by cases h⟩
  · rw [e1]; exact trodAll_mk1 (shut_bool Tryz.underlying4 true)
  · rw [e1]
    exact trodAll_mk1 (Below.trod laidOut (by kernel_rfl) (of_decide_eq_true (by kernel_rfl)) h0 hb hlt)
  · rw [e1]; rfl
end Go.Proofs.YtneoghpfbgjaiaaGreatDoor
