/- A part of the proof of the law SerialTexts. CONDITIONS: those that each theorem names. -/
import Derived.Test.YtlbjmpbgnbpcoaaGreatDoorCards
import Derived.Test.YtlbjmpbgnbpcoaaGreatDoorTie
import Derived.ProofKit
import Derived.LaidMore
import Derived.Lay
import Derived.OpenShut
import Derived.Carry
import Derived.Stop.Joined
import Derived.SevenTiedAt
import Derived.Deep.DeepHandedRow
import Derived.Deep.DeepWitnessRowRef
import Derived.JoinedCond
import Derived.Test.YtlbjmpbgnbpcoaaGreatDoorPartF
import Derived.Test.YtlbjmpbgnbpcoaaGreatDoorEngineE
import Derived.Test.YtlbjmpbgnbpcoaaGreatDoorEngineD
namespace Go.Proofs.YtlbjmpbgnbpcoaaGreatDoor
open Go.ChangeShapes Go.WideShapes Go.ChangeAt Go.RowKit Go.Ai
set_option maxRecDepth 100000

theorem bulk_part {H : Type} : ∀ {l : List (DataW H)} {i : Nat} {d : DataW H}, l[i]? = some d → Rows.uptoBulk d ≤ Rows.uptoBulkAll l
  | [], i, d, h => by simp at h
  | x :: r, 0, d, h => by simp at h; subst h; simp only [Rows.uptoBulkAll]; omega
  | x :: r, i + 1, d, h => by
    have := bulk_part (l := r) (i := i) (d := d) (by simpa using h)
    simp only [Rows.uptoBulkAll]; omega
theorem bulk_one {H : Type} (d : DataW H) : 1 ≤ Rows.uptoBulk d := by
  cases d with
  | lit l => cases l <;> simp [Rows.uptoBulk]
  | _ => simp [Rows.uptoBulk]
theorem bulk_len {H : Type} : ∀ (l : List (DataW H)), l.length ≤ Rows.uptoBulkAll l
  | [] => by simp
  | x :: r => by
    have := bulk_one x
    have := bulk_len r
    simp only [Rows.uptoBulkAll, List.length_cons]; omega
theorem okD_bulk {H : Type} (P : Program) : OkD (H := H) P 1048576 fun _ d => Rows.uptoBulk d ≤ 1048576 := by
  refine ⟨?_, ?_, ?_⟩
  · intro t fs ps k f d hu h hf hd
    have h1 := bulk_part hd
    simp only [Rows.uptoBulk] at h
    omega
  · intro t e es sp i d hu h hd
    have h1 := bulk_part hd
    simp only [Rows.uptoBulk] at h
    omega
  · intro t e es sp hu hb h
    have h1 := bulk_len es
    simp only [Rows.uptoBulk] at h
    omega
theorem okWide_slice {P : Program} {w : World} {r : Reach} {base : Nat} {t e : TypeId} {v : Value} (hu : P.underlying t = some (.slice e)) (h : Value.okWide P w r base t v) : v.cells = #[v] := by
  unfold Value.okWide at h
  rw [hu] at h
  cases v with
  | agg cs => simp [Cell.okWide, Cell.ok, hu] at h
  | _ => rfl
theorem own : ownKnob Tryz.prog.godebug = none := by kernel_rfl
theorem laidOut : laidOutB Tryz.prog = true := by kernel_rfl
noncomputable def laidL : List (String × DataW Unit) := Rows.serialTextsUptoRow.laid
def wit : Array Value := #[.slice none 0 0, .slice none 0 0, .int .i64 0]
theorem body_there : ∃ c, Tryz.f3.body = some c := Option.isSome_iff_exists.1 (by kernel_rfl)
theorem teR : cellTs Tryz.prog 9 25 = some ((cellTs Tryz.prog 9 25).getD []) := by kernel_rfl
theorem tkR : kindsOf Tryz.prog ((cellTs Tryz.prog 9 25).getD []) = some ksR := by kernel_rfl
theorem tzR : Tryz.prog.cellsOf 25 = ksR.length := by kernel_rfl
theorem tbR : 0 < Tryz.prog.bytesOf 25 := of_decide_eq_true (by kernel_rfl)
theorem t4R : ((cellTs Tryz.prog 9 25).getD [])[4]? = some 23 := by kernel_rfl
theorem teV : cellTs Tryz.prog 9 79 = some ((cellTs Tryz.prog 9 79).getD []) := by kernel_rfl
theorem tkV : kindsOf Tryz.prog ((cellTs Tryz.prog 9 79).getD []) = some ksV := by kernel_rfl
theorem tzV : Tryz.prog.cellsOf 79 = ksV.length := by kernel_rfl
theorem tbV : 0 < Tryz.prog.bytesOf 79 := of_decide_eq_true (by kernel_rfl)
theorem gnP : Tryz.prog.globalNamed "internal/strconv.uint64pow10" = some 1 := by kernel_rfl
theorem gtP : (Tryz.prog.globals[1]?).map (·.type) = some 243 := by kernel_rfl
theorem gnW : Tryz.prog.globalNamed "tranche/serial.words" = some 0 := by kernel_rfl
theorem gtW : (Tryz.prog.globals[0]?).map (·.type) = some 94 := by kernel_rfl
theorem datP : (Rows.laid_internal_strconv_uint64pow10 : DataW Unit) = Lib.tabData .u64 Lib.pow10Tab := by kernel_rfl
theorem datW : (Rows.laid_tranche_serial_words : DataW Unit) = .agg ([wordL 0, wordL 1, wordL 2, wordL 3, wordL 4, wordL 5, wordL 6].map fun z => .lit (.string z)) := by kernel_rfl
theorem rgL {W : World} (h : laidMetH Tryz.prog laidL W) : RG GL W.heap.size W := by
  rw [MakeChecks.laidMetH_plain _ _ _ (by kernel_rfl)] at h
  obtain ⟨ps, hv, _⟩ := h
  obtain ⟨g1, t1, c1, f1, p1, q1, _, _, _, _, hv, _⟩ := hv
  obtain ⟨g2, t2, c2, f2, p2, q2, _, _, _, _, hv, _⟩ := hv
  obtain ⟨g3, t3, c3, f3, p3, q3, a1, a2, a3, a4, hv, _⟩ := hv
  obtain ⟨g4, t4, c4, f4, p4, q4, _, _, _, _, hv, _⟩ := hv
  obtain ⟨g5, t5, c5, f5, p5, q5, _, _, _, _, hv, _⟩ := hv
  obtain ⟨g6, t6, c6, f6, p6, q6, b1, b2, b3, b4, hv, _⟩ := hv
  obtain rfl := Option.some.inj (gnP.symm.trans a1)
  obtain rfl := Option.some.inj (gtP.symm.trans a2)
  obtain rfl := Option.some.inj (gnW.symm.trans b1)
  obtain rfl := Option.some.inj (gtW.symm.trans b2)
  rw [datP] at a4
  rw [datW] at b4
  have eP := Lib.cells_of_tab Tryz.underlying243 Tryz.underlying33 (by kernel_rfl) (by kernel_rfl) a4
  have eW := cells_of_strs Tryz.underlying94 Tryz.underlying9 (by kernel_rfl) (by kernel_rfl) b4
  refine rg_cons (Nat.le_refl _) gnW (vs := c6.toList) (by simpa using b3) (by rw [eW]; rfl) ?_ (rg_cons (Nat.le_refl _) gnP (vs := c3.toList) (by simpa using a3) (by rw [eP]; simp [tabA]) ?_ (rg_nil _ _))
  · intro i a ha
    rw [eW]
    have hw : wordsC = [wordL 0, wordL 1, wordL 2, wordL 3, wordL 4, wordL 5, wordL 6].map AV.str := rfl
    rw [hw, List.getElem?_map] at ha
    rw [List.getElem?_map]
    cases hq : [wordL 0, wordL 1, wordL 2, wordL 3, wordL 4, wordL 5, wordL 6][i]? with
    | none => rw [hq] at ha; cases ha
    | some z => rw [hq] at ha; cases ha; exact ⟨_, rfl, rfl⟩
  · intro i a ha
    rw [eP]
    simp only [tabA, List.getElem?_map] at ha ⊢
    cases hq : Lib.pow10Tab[i]? with
    | none => rw [hq] at ha; cases ha
    | some z => rw [hq] at ha; cases ha; exact ⟨_, rfl, rfl⟩
theorem says (w : World) {v0 v1 : Value} {a b : AV} {z : Int} (rg : RG GL w.heap.size w) (ha : absC w v0 = some a) (hb : absC w v1 = some b) (h : SndQ Tryz.prog GL 3 [a, b, .int .i64 z] (absS w) (fun o => ∃ s', o = .val (.bool true) s')) :
    Calls Tryz.prog 3 #[v0, v1, .int .i64 z] w fun e w' => e = .returned (.bool true) ∧ Keeps (fun _ => False) w w' := by
  obtain ⟨_, hc⟩ := body_there
  have rv : RVs (rhoW w) [a, b, .int .i64 z] [v0, v1, .int .i64 z] := ⟨_, _, absC_rv ha, ⟨_, _, absC_rv hb, ⟨_, _, rfl, rfl, rfl⟩, rfl⟩, rfl⟩
  exact calls_absG noNum Tryz.func3 hc rg rv h fun o h => h
/-- an argument's lists -/
theorem lists {H : Type} {enc : TypeId × Value → H} {W : World} {fu : Nat} {v : Value} {x : DataW H × List MemPlace} (h : DataW.trod enc Tryz.prog W 0 (fun _ => true) true fu 22 [v] = some x) (hb : Rows.uptoBulk x.1 ≤ 1048576) :
    ∃ a X Y, absC W v = some a ∧ RowN (absH W) ksR 4 ksV a X Y ∧ X.length ≤ 2000000 ∧ ∀ l ∈ Y, l.length ≤ 2000000 := by
  obtain ⟨a, X, h1, h2, h3, h4⟩ := trod_list (okD_bulk Tryz.prog) (fun _ => rfl) Tryz.underlying22 teR tkR tzR (by decide) tbR h hb
  have each : ∀ i, i < X.length → ∃ (l : List (List AV)) (x : AV) (r : List AV), X[i]? = some r ∧ r[4]? = some x ∧ LstP (absH W) ksV x l ∧ l.length ≤ 2000000 := by
    intro i hi
    obtain ⟨cs, h5, h6⟩ := h4 i X[i] (by simp)
    obtain ⟨c, f, y, h7, h8, h9⟩ := h6.2 4 23 t4R
    obtain ⟨a2, L, k1, k2, k3, _⟩ := trod_list (okD_bulk Tryz.prog) (fun _ => rfl) Tryz.underlying23 teV tkV tzV (by decide) tbV h8 h9
    have := (absCs_get h5).2 4 c h7
    exact ⟨L, a2, X[i], by simp, by rw [← this, k1], k2, by omega⟩
  have build : ∀ k, k ≤ X.length → ∃ Y : List (List (List AV)), Y.length = k ∧ ∀ (i : Nat) (l : List (List AV)), Y[i]? = some l → (∃ r x, X[i]? = some r ∧ r[4]? = some x ∧ LstP (absH W) ksV x l) ∧ l.length ≤ 2000000 := by
    intro k
    induction k with
    | zero => intro _; exact ⟨[], rfl, by simp⟩
    | succ k ih =>
      intro hk
      obtain ⟨Y, g1, g2⟩ := ih (by omega)
      obtain ⟨l, x, r, g3, g4, g5, g6⟩ := each k (by omega)
      refine ⟨Y ++ [l], by simp [g1], fun i l' hi => ?_⟩
      by_cases hik : i < Y.length
      · rw [List.getElem?_append_left hik] at hi; exact g2 i l' hi
      · rw [List.getElem?_append_right (by omega)] at hi
        have : i = k := by
          have := (List.getElem?_eq_some_iff.1 hi).1
          simp at this; omega
        subst this
        rw [g1, Nat.sub_self] at hi
        simp at hi
        subst hi
        exact ⟨⟨r, x, g3, g4, g5⟩, g6⟩
  obtain ⟨Y, g1, g2⟩ := build X.length (Nat.le_refl _)
  refine ⟨a, X, Y, h1, ⟨h2, inner_mk g1 fun i r hr => ?_⟩, by omega, fun l hl => ?_⟩
  · have hi := (List.getElem?_eq_some_iff.1 hr).1
    obtain ⟨⟨r', x, k1, k2, k3⟩, _⟩ := g2 i Y[i] (by simp)
    rw [hr] at k1; cases k1
    exact ⟨x, Y[i], k2, by simp, k3⟩
  · obtain ⟨i, hi⟩ := List.getElem?_of_mem hl
    exact (g2 i l hi).2
theorem reads (os : Os) {H : Type} (enc : TypeId × Value → H) : ∃ places, DataW.whole enc Tryz.prog ((World.laidAll Tryz.prog os laidL).forCall (fun _ _ => 0) ⟨#[], wit, []⟩).memory Tryz.f3.params.toList Rows.serialTextsSpec.vars false wit.toList 8 = some ([.nil, .nil, .lit (.int .i64 0)], [], places) :=
  ⟨[], by kernel_rfl⟩
theorem door_met (os : Os) (args : Array Value) : laidMetH Tryz.prog laidL ((World.laidAll Tryz.prog os laidL).forCall (fun _ _ => 0) ⟨#[], args, []⟩).memory := by
  rw [MakeChecks.laidMetH_plain _ _ _ (by kernel_rfl)]
  exact laidMet_laidAll _ (by kernel_rfl) (by kernel_rfl)
theorem lifted (os : Os) (started : os.Started) (H : Type) (enc : TypeId × Value → H) (F : Stop.Interp) :
    ReturnsInHanded {} Tryz.checked os 3 .any ((Rows.OpenSpec.upto Rows.serialTextsSpec).preRow enc Tryz.prog Tryz.f3 Rows.serialTextsUptoRow.domain false Rows.serialTextsUptoRow.laid) (((Rows.OpenSpec.upto Rows.serialTextsSpec).at F).post enc Tryz.prog Tryz.f3 false true false false) := by
  obtain ⟨places, hx⟩ := reads os enc
  refine returnsInHanded_of_row (C := Tryz.checked) (s := Rows.OpenSpec.upto Rows.serialTextsSpec) own started (by kernel_rfl) Tryz.func3
    (witness_row_atRef (enc := enc) (C := Tryz.checked) false (World.laidAll Tryz.prog os laidL) wit (World.laidAll_os _ _ _) (by kernel_rfl) (by kernel_rfl) (by kernel_rfl)
      (OpenSpec.preRow_of_cond 8 hx (by kernel_rfl) (fun k hk => by cases hk; kernel_rfl) (by kernel_rfl) (door_met os _))) ?_
  intro W base args ds gs before hval hW _ hcond _ hlaid _ _
  have hW' := hW
  obtain ⟨p, q, hA0, hV, rfl, _, _⟩ := hW
  have hA : DataW.TrodAll enc Tryz.prog W 0 (fun _ => true) true Tryz.f3.params.toList args.toList ds p := hA0
  rw [Tryz.params3] at hA
  obtain ⟨v0, v1, v2, d0, d1, d2, p0, p1, p2, rfl, rfl, rfl, h0, h1, h2⟩ := trodAll_three hA
  obtain ⟨rfl, rfl⟩ := trodVars_none hV
  have k2 : Value.okWide Tryz.prog W .any base 3 v2 := hval 2 3 v2 (by rw [show Tryz.checked.prog = Tryz.prog from rfl] at *; rw [Tryz.params3]; rfl) rfl
  obtain ⟨n, rfl, _, _⟩ := abs_int Tryz.underlying3 k2
  have hbulk : Rows.uptoBulkAll [d0, d1, d2] ≤ 1048576 := of_decide_eq_true (hcond _ rfl)
  have hb0 : Rows.uptoBulk d0 ≤ 1048576 := Nat.le_trans (bulk_part (l := [d0, d1, d2]) (i := 0) rfl) hbulk
  have hb1 : Rows.uptoBulk d1 ≤ 1048576 := Nat.le_trans (bulk_part (l := [d0, d1, d2]) (i := 1) rfl) hbulk
  have k0 : Value.okWide Tryz.prog W .any base 22 v0 := hval 0 22 v0 (by rw [show Tryz.checked.prog = Tryz.prog from rfl] at *; rw [Tryz.params3]; rfl) rfl
  have k1 : Value.okWide Tryz.prog W .any base 22 v1 := hval 1 22 v1 (by rw [show Tryz.checked.prog = Tryz.prog from rfl] at *; rw [Tryz.params3]; rfl) rfl
  have trod0 : ∀ {v d p} (_ : Value.okWide Tryz.prog W .any base 22 v) (_ : DataW.Trod enc Tryz.prog W 0 (fun _ => true) true 22 v d p), ∃ fu, DataW.trod enc Tryz.prog W 0 (fun _ => true) true fu 22 [v] = some (d, p) := fun {v d p} k ⟨fu, hfu⟩ => by
    rw [okWide_slice Tryz.underlying22 k] at hfu
    exact ⟨fu, hfu⟩
  obtain ⟨fu0, t0⟩ := trod0 k0 h0
  obtain ⟨fu1, t1⟩ := trod0 k1 h1
  obtain ⟨a, X, Y, e1, e2, e3, e4⟩ := lists t0 hb0
  obtain ⟨b, X2, Y2, g1, g2, _, _⟩ := lists t1 hb1
  refine (says W (rgL hlaid) e1 g1 (law3 (absH W) (W.heap.size + 1) a b n X X2 Y Y2 e2 g2 e3 e4)).mono fun e W' ⟨he, hk⟩ => ?_
  subst he
  have hb := below_of_keeps hk
  have hlt : ∀ x ∈ p0 ++ p1 ++ p2, x.block < W.heap.size := fun x hx => hW'.lt x (by simpa using hx)
  have e1 : ((Rows.OpenSpec.upto Rows.serialTextsSpec).at F).fn H ([d0, d1, d2] ++ []) = { results := [.lit (.bool true)], args := [d0, d1, d2] } := rfl
  refine ⟨_, rfl, _, _, _, [], p0 ++ p1 ++ p2, [], hW', ?_, ?_, ?_, kept_of_keeps hk _, fun h => by cases h⟩
  · rw [e1]; exact trodAll_mk1 (shut_bool Tryz.underlying4 true)
  · rw [e1, List.append_assoc]
    exact trodAll_mk3 (Below.trod laidOut (by kernel_rfl) (of_decide_eq_true (by kernel_rfl)) h0 hb fun x hx => hlt x (List.mem_append_left _ (List.mem_append_left _ hx)))
      (Below.trod laidOut (by kernel_rfl) (of_decide_eq_true (by kernel_rfl)) h1 hb fun x hx => hlt x (List.mem_append_left _ (List.mem_append_right _ hx)))
      (Below.trod laidOut (by kernel_rfl) (of_decide_eq_true (by kernel_rfl)) h2 hb fun x hx => hlt x (List.mem_append_right _ hx))
  · rw [e1]; rfl
end Go.Proofs.YtlbjmpbgnbpcoaaGreatDoor

