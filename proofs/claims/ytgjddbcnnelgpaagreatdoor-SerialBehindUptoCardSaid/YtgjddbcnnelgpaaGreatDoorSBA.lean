/- A part of the proof of the law SerialBehind. CONDITIONS: those that each theorem names. -/
import Derived.Test.YtgjddbcnnelgpaaGreatDoorB3
import Derived.Test.YtgjddbcnnelgpaaGreatDoorEngineD
import Derived.Test.YtgjddbcnnelgpaaGreatDoorCards
import Derived.Test.YtgjddbcnnelgpaaGreatDoorTie
import Derived.ProofKit
import Derived.LaidMore
import Derived.OpenShut
import Derived.Carry
import Derived.Stop.Joined
import Derived.SevenTiedAt
import Derived.Deep.DeepHandedRow
import Derived.Deep.DeepWitnessRowRef
import Derived.JoinedCond
namespace Go.Proofs.YtgjddbcnnelgpaaGreatDoor
open Go.ChangeShapes Go.WideShapes Go.ChangeAt Go.RowKit Go.Ai
set_option maxRecDepth 100000

theorem bulk_part {H : Type} : ∀ {l : List (DataW H)} {i : Nat} {d : DataW H}, l[i]? = some d → Rows.uptoBulk d ≤ Rows.uptoBulkAll l
  | [], i, d, h => by simp at h
  | x :: r, 0, d, h => by simp at h; subst h; simp only [Rows.uptoBulkAll]; omega
  | x :: r, i + 1, d, h => by
    have := bulk_part (l := r) (i := i) (d := d) (by simpa using h)
    simp only [Rows.uptoBulkAll]; omega
theorem bulk_one {H : Type} (d : DataW H) : 1 ≤ Rows.uptoBulk d := by
  cases d with
  | lit l => cases l <;> simp [Rows.uptoBulk]
  | _ => simp [Rows.uptoBulk]
theorem bulk_len {H : Type} : ∀ (l : List (DataW H)), l.length ≤ Rows.uptoBulkAll l
  | [] => by simp
  | x :: r => by
    have := bulk_one x
    have := bulk_len r
    simp only [Rows.uptoBulkAll, List.length_cons]; omega
theorem okD_bulk {H : Type} (P : Program) : OkD (H := H) P 1048576 fun _ d => Rows.uptoBulk d ≤ 1048576 := by
  refine ⟨?_, ?_, ?_⟩
  · intro t fs ps k f d hu h hf hd
    have h1 := bulk_part hd
    simp only [Rows.uptoBulk] at h
    omega
  · intro t e es sp i d hu h hd
    have h1 := bulk_part hd
    simp only [Rows.uptoBulk] at h
    omega
  · intro t e es sp hu hb h
    have h1 := bulk_len es
    simp only [Rows.uptoBulk] at h
    omega
theorem okWide_slice {P : Program} {w : World} {r : Reach} {base : Nat} {t e : TypeId} {v : Value} (hu : P.underlying t = some (.slice e)) (h : Value.okWide P w r base t v) : v.cells = #[v] := by
  unfold Value.okWide at h
  rw [hu] at h
  cases v with
  | agg cs => simp [Cell.okWide, Cell.ok, hu] at h
  | _ => rfl
theorem own : ownKnob Tryz.prog.godebug = none := by kernel_rfl
theorem laidOut : laidOutB Tryz.prog = true := by kernel_rfl
noncomputable def laidL : List (String × DataW Unit) := Rows.serialBehindUptoRow.laid
def wit : Array Value := #[.slice none 0 0, .int .i64 0]
theorem door_met (os : Os) (args : Array Value) : laidMetH Tryz.prog laidL ((World.doorLaid Tryz.prog 400 os).forCall (fun _ _ => 0) ⟨#[], args, []⟩).memory :=
  laidMetH_of_parts3 (fuel := 8) (laidMet_of_run' 8 (by kernel_rfl) (by kernel_rfl)) (by kernel_rfl) (by kernel_rfl)
theorem body_there : ∃ c, Tryz.f3.body = some c := Option.isSome_iff_exists.1 (by kernel_rfl)
theorem te23 : cellTs Tryz.prog 9 23 = some [23] := by kernel_rfl
theorem tk23 : kindsOf Tryz.prog [23] = some [.l] := by kernel_rfl
theorem tz23 : Tryz.prog.cellsOf 23 = [CK.l].length := by kernel_rfl
theorem tb23 : 0 < Tryz.prog.bytesOf 23 := of_decide_eq_true (by kernel_rfl)
theorem te74 : cellTs Tryz.prog 9 74 = some ((cellTs Tryz.prog 9 74).getD []) := by kernel_rfl
theorem tk74 : kindsOf Tryz.prog ((cellTs Tryz.prog 9 74).getD []) = some ksC := by kernel_rfl
theorem tz74 : Tryz.prog.cellsOf 74 = ksC.length := by kernel_rfl
theorem tb74 : 0 < Tryz.prog.bytesOf 74 := of_decide_eq_true (by kernel_rfl)
theorem says (w : World) {v : Value} {a : AV} {q : Int} (ha : absC w v = some a) (h : SndQ Tryz.prog [] 3 [a, .int .i64 q] (absS w) (fun o => ∃ s', o = .val (.bool true) s')) :
    Calls Tryz.prog 3 #[v, .int .i64 q] w fun e w' => e = .returned (.bool true) ∧ Keeps (fun _ => False) w w' := by
  obtain ⟨_, hc⟩ := body_there
  have rv : RVs (rhoW w) [a, .int .i64 q] [v, .int .i64 q] := ⟨_, _, absC_rv ha, ⟨_, _, rfl, rfl, rfl⟩, rfl⟩
  exact calls_abs noNum Tryz.func3 hc rv h fun o h => h
/-- the argument's lists -/
theorem lists {H : Type} {enc : TypeId × Value → H} {W : World} {fu : Nat} {v : Value} {x : DataW H × List MemPlace} (h : DataW.trod enc Tryz.prog W 0 (fun _ => true) true fu 22 [v] = some x) (hb : Rows.uptoBulk x.1 ≤ 1048576) :
    ∃ a LL, absC W v = some a ∧ Lst2 (absH W) ksC a LL ∧ LL.length ≤ 2000000 ∧ ∀ l ∈ LL, l.length ≤ 2000000 := by
  obtain ⟨a, X, h1, h2, h3, h4⟩ := trod_list (okD_bulk Tryz.prog) (fun _ => rfl) Tryz.underlying22 te23 tk23 tz23 (by decide) tb23 h hb
  have each : ∀ i, i < X.length → ∃ (l : List (List AV)) (x : AV), X[i]? = some [x] ∧ LstP (absH W) ksC x l ∧ l.length ≤ 2000000 := by
    intro i hi
    obtain ⟨cs, h5, h6⟩ := h4 i X[i] (by simp)
    obtain ⟨c, f, y, h7, h8, h9⟩ := h6.2 0 23 rfl
    obtain ⟨a2, L, k1, k2, k3, _⟩ := trod_list (okD_bulk Tryz.prog) (fun _ => rfl) Tryz.underlying23 te74 tk74 tz74 (by decide) tb74 h8 h9
    have hl := h6.1
    have hc : cs = [c] := by
      cases cs with
      | nil => simp at hl
      | cons c' r =>
        simp at h7 hl
        subst h7 hl
        rfl
    subst hc
    simp only [absCs, k1, Option.some.injEq] at h5
    exact ⟨L, a2, by rw [List.getElem?_eq_getElem hi, ← h5], k2, by omega⟩
  have build : ∀ k, k ≤ X.length → ∃ LL : List (List (List AV)), LL.length = k ∧ ∀ (i : Nat) (l : List (List AV)), LL[i]? = some l → (∃ x, X[i]? = some [x] ∧ LstP (absH W) ksC x l) ∧ l.length ≤ 2000000 := by
    intro k
    induction k with
    | zero => intro _; exact ⟨[], rfl, by simp⟩
    | succ k ih =>
      intro hk
      obtain ⟨LL, g1, g2⟩ := ih (by omega)
      obtain ⟨l, x, g3, g4, g5⟩ := each k (by omega)
      refine ⟨LL ++ [l], by simp [g1], fun i l' hi => ?_⟩
      by_cases hik : i < LL.length
      · rw [List.getElem?_append_left hik] at hi; exact g2 i l' hi
      · rw [List.getElem?_append_right (by omega)] at hi
        have : i = k := by
          have := (List.getElem?_eq_some_iff.1 hi).1
          simp at this; omega
        subst this
        rw [g1, Nat.sub_self] at hi
        simp at hi
        subst hi
        exact ⟨⟨x, g3, g4⟩, g5⟩
  obtain ⟨LL, g1, g2⟩ := build X.length (Nat.le_refl _)
  refine ⟨a, LL, h1, ⟨X, h2, g1.symm, fun i l hi => (g2 i l hi).1⟩, by omega, fun l hl => ?_⟩
  obtain ⟨i, hi⟩ := List.getElem?_of_mem hl
  exact (g2 i l hi).2
theorem reads (os : Os) {H : Type} (enc : TypeId × Value → H) : ∃ places, DataW.whole enc Tryz.prog ((World.doorLaid Tryz.prog 400 os).forCall (fun _ _ => 0) ⟨#[], wit, []⟩).memory Tryz.f3.params.toList Rows.serialBehindSpec.vars false wit.toList 8 = some ([.nil, .lit (.int .i64 0)], [], places) :=
  ⟨[], by kernel_rfl⟩
theorem lifted (os : Os) (started : os.Started) (H : Type) (enc : TypeId × Value → H) (F : Stop.Interp) :
    ReturnsInHanded {} Tryz.checked os 3 .any ((Rows.OpenSpec.upto Rows.serialBehindSpec).preRow enc Tryz.prog Tryz.f3 Rows.serialBehindUptoRow.domain false Rows.serialBehindUptoRow.laid) (((Rows.OpenSpec.upto Rows.serialBehindSpec).at F).post enc Tryz.prog Tryz.f3 false true false false) := by
  obtain ⟨places, hx⟩ := reads os enc
  refine returnsInHanded_of_row (C := Tryz.checked) (s := Rows.OpenSpec.upto Rows.serialBehindSpec) own started (by kernel_rfl) Tryz.func3
    (witness_row_atRef (enc := enc) (C := Tryz.checked) false (World.doorLaid Tryz.prog 400 os) wit rfl (by kernel_rfl) (by kernel_rfl) (by kernel_rfl)
      (OpenSpec.preRow_of_cond 8 hx (by kernel_rfl) (fun k hk => by cases hk; kernel_rfl) (by kernel_rfl) (door_met os _))) ?_
  intro W base args ds gs before hval hW _ hcond _ _ _ _
  have hW' := hW
  obtain ⟨p, q, hA0, hV, rfl, _, _⟩ := hW
  have hA : DataW.TrodAll enc Tryz.prog W 0 (fun _ => true) true Tryz.f3.params.toList args.toList ds p := hA0
  rw [Tryz.params3] at hA
  obtain ⟨v0, v1, d0, d1, p0, p1, rfl, rfl, rfl, h0, h1⟩ := trodAll_two hA
  obtain ⟨rfl, rfl⟩ := trodVars_none hV
  have k1 : Value.okWide Tryz.prog W .any base 2 v1 := hval 1 2 v1 (by rw [show Tryz.checked.prog = Tryz.prog from rfl] at *; rw [Tryz.params3]; rfl) rfl
  obtain ⟨n, rfl, _, _⟩ := abs_int Tryz.underlying2 k1
  have hbulk : Rows.uptoBulkAll [d0, d1] ≤ 1048576 := of_decide_eq_true (hcond _ rfl)
  obtain ⟨fu, hfu⟩ := h0
  have hb0 : Rows.uptoBulk d0 ≤ 1048576 := Nat.le_trans (bulk_part (l := [d0, d1]) (i := 0) rfl) hbulk
  have k0 : Value.okWide Tryz.prog W .any base 22 v0 := hval 0 22 v0 (by rw [show Tryz.checked.prog = Tryz.prog from rfl] at *; rw [Tryz.params3]; rfl) rfl
  have hfu' : DataW.trod enc Tryz.prog W 0 (fun _ => true) true fu 22 [v0] = some (d0, p0) := by
    have := hfu
    rw [okWide_slice Tryz.underlying22 k0] at this
    exact this
  obtain ⟨a, LL, e1, e2, e3, e4⟩ := lists hfu' hb0
  refine (says W e1 (law3 (absH W) (W.heap.size + 1) a LL e2 e3 e4 n)).mono fun e W' ⟨he, hk⟩ => ?_
  subst he
  have hb := below_of_keeps hk
  have hlt : ∀ x ∈ p0 ++ p1, x.block < W.heap.size := fun x hx => hW'.lt x (by simpa using hx)
  have h0 : DataW.Trod enc Tryz.prog W 0 (fun _ => true) true 22 v0 d0 p0 := ⟨fu, hfu⟩
  have e1 : ((Rows.OpenSpec.upto Rows.serialBehindSpec).at F).fn H ([d0, d1] ++ []) = { results := [.lit (.bool true)], args := [d0, d1] } := rfl
  refine ⟨_, rfl, _, _, _, [], p0 ++ p1, [], hW', ?_, ?_, ?_, kept_of_keeps hk _, fun h => by cases h⟩
  · rw [e1]; exact trodAll_mk1 (shut_bool Tryz.underlying4 true)
  · rw [e1]
    exact trodAll_mk2 (Below.trod laidOut (by kernel_rfl) (of_decide_eq_true (by kernel_rfl)) h0 hb fun x hx => hlt x (List.mem_append_left _ hx))
      (Below.trod laidOut (by kernel_rfl) (of_decide_eq_true (by kernel_rfl)) h1 hb fun x hx => hlt x (List.mem_append_right _ hx))
  · rw [e1]; rfl
end Go.Proofs.YtgjddbcnnelgpaaGreatDoor
