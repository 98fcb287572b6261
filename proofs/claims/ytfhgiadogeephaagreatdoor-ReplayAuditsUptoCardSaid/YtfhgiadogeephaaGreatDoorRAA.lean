/- A part of the proof of the law ReplayAudits. CONDITIONS: those that each theorem names. -/
import Derived.Test.YtfhgiadogeephaaGreatDoorCards
import Derived.Test.YtfhgiadogeephaaGreatDoorTie
import Derived.ProofKit
import Derived.LaidMore
import Derived.Lay
import Derived.OpenShut
import Derived.Carry
import Derived.Stop.Joined
import Derived.SevenTiedAt
import Derived.Deep.DeepHandedRow
import Derived.Deep.DeepWitnessRowRef
import Derived.JoinedCond
import Derived.Test.YtfhgiadogeephaaGreatDoorRA17
import Derived.Test.YtfhgiadogeephaaGreatDoorPartG
import Derived.Test.YtfhgiadogeephaaGreatDoorEngineD
namespace Go.Proofs.YtfhgiadogeephaaGreatDoor
open Go.ChangeShapes Go.WideShapes Go.ChangeAt Go.RowKit Go.Ai
set_option maxRecDepth 100000

theorem bulk_part {H : Type} : ∀ {l : List (DataW H)} {i : Nat} {d : DataW H}, l[i]? = some d → Rows.uptoBulk d ≤ Rows.uptoBulkAll l
  | [], i, d, h => by simp at h
  | x :: r, 0, d, h => by simp at h; subst h; simp only [Rows.uptoBulkAll]; omega
  | x :: r, i + 1, d, h => by
    have := bulk_part (l := r) (i := i) (d := d) (by simpa using h)
    simp only [Rows.uptoBulkAll]; omega
theorem bulk_one {H : Type} (d : DataW H) : 1 ≤ Rows.uptoBulk d := by
  cases d with
  | lit l => cases l <;> simp [Rows.uptoBulk]
  | _ => simp [Rows.uptoBulk]
theorem bulk_len {H : Type} : ∀ (l : List (DataW H)), l.length ≤ Rows.uptoBulkAll l
  | [] => by simp
  | x :: r => by
    have := bulk_one x
    have := bulk_len r
    simp only [Rows.uptoBulkAll, List.length_cons]; omega
theorem okD_bulk {H : Type} (P : Program) (N : Nat) : OkD (H := H) P N fun _ d => Rows.uptoBulk d ≤ N := by
  refine ⟨?_, ?_, ?_⟩
  · intro t fs ps k f d hu h hf hd
    have h1 := bulk_part hd
    simp only [Rows.uptoBulk] at h
    omega
  · intro t e es sp i d hu h hd
    have h1 := bulk_part hd
    simp only [Rows.uptoBulk] at h
    omega
  · intro t e es sp hu hb h
    have h1 := bulk_len es
    simp only [Rows.uptoBulk] at h
    omega
theorem okWide_slice {P : Program} {w : World} {r : Reach} {base : Nat} {t e : TypeId} {v : Value} (hu : P.underlying t = some (.slice e)) (h : Value.okWide P w r base t v) : v.cells = #[v] := by
  unfold Value.okWide at h
  rw [hu] at h
  cases v with
  | agg cs => simp [Cell.okWide, Cell.ok, hu] at h
  | _ => rfl
theorem own : ownKnob Tryz.prog.godebug = none := by kernel_rfl
theorem laidOut : laidOutB Tryz.prog = true := by kernel_rfl
noncomputable def laidL : List (String × DataW Unit) := Rows.replayAuditsUptoRow.laid
def wit : Array Value := #[.agg #[.slice none 0 0, .int .i64 0, .slice none 0 0, .slice none 0 0, .bool false]]
theorem body_there : ∃ c, Tryz.f4.body = some c := Option.isSome_iff_exists.1 (by kernel_rfl)
theorem teF : cellTs Tryz.prog 9 74 = some ((cellTs Tryz.prog 9 74).getD []) := by kernel_rfl
theorem tkF : kindsOf Tryz.prog ((cellTs Tryz.prog 9 74).getD []) = some [.l, .l] := by kernel_rfl
theorem tzF : Tryz.prog.cellsOf 74 = ([.l, .l] : List CK).length := by kernel_rfl
theorem tbF : 0 < Tryz.prog.bytesOf 74 := of_decide_eq_true (by kernel_rfl)
theorem teS : cellTs Tryz.prog 9 9 = some ((cellTs Tryz.prog 9 9).getD []) := by kernel_rfl
theorem tkS : kindsOf Tryz.prog ((cellTs Tryz.prog 9 9).getD []) = some ksT := by kernel_rfl
theorem tzS : Tryz.prog.cellsOf 9 = (ksT : List CK).length := by kernel_rfl
theorem tbS : 0 < Tryz.prog.bytesOf 9 := of_decide_eq_true (by kernel_rfl)
theorem teI : cellTs Tryz.prog 9 2 = some ((cellTs Tryz.prog 9 2).getD []) := by kernel_rfl
theorem tkI : kindsOf Tryz.prog ((cellTs Tryz.prog 9 2).getD []) = some ks1 := by kernel_rfl
theorem tzI : Tryz.prog.cellsOf 2 = (ks1 : List CK).length := by kernel_rfl
theorem tbI : 0 < Tryz.prog.bytesOf 2 := of_decide_eq_true (by kernel_rfl)
theorem teD : cellTs Tryz.prog 9 89 = some ((cellTs Tryz.prog 9 89).getD []) := by kernel_rfl
theorem tkD : kindsOf Tryz.prog ((cellTs Tryz.prog 9 89).getD []) = some ksD := by kernel_rfl
theorem tzD : Tryz.prog.cellsOf 89 = (ksD : List CK).length := by kernel_rfl
theorem tbD : 0 < Tryz.prog.bytesOf 89 := of_decide_eq_true (by kernel_rfl)
theorem t0F : ((cellTs Tryz.prog 9 74).getD [])[0]? = some 68 := by kernel_rfl
theorem t1F : ((cellTs Tryz.prog 9 74).getD [])[1]? = some 68 := by kernel_rfl
theorem cellsP : Tryz.prog.cellTypes Tryz.prog.depth 41 = some ((Tryz.prog.cellTypes Tryz.prog.depth 41).getD []) := by kernel_rfl
theorem tsP : cellTs Tryz.prog 9 41 = some ((cellTs Tryz.prog 9 41).getD []) := by kernel_rfl
theorem tsP_0 : ((cellTs Tryz.prog 9 41).getD [])[0]? = some 37 := by kernel_rfl
theorem tsP_1 : ((cellTs Tryz.prog 9 41).getD [])[1]? = some 3 := by kernel_rfl
theorem tsP_2 : ((cellTs Tryz.prog 9 41).getD [])[2]? = some 38 := by kernel_rfl
theorem tsP_3 : ((cellTs Tryz.prog 9 41).getD [])[3]? = some 39 := by kernel_rfl
theorem tsP_4 : ((cellTs Tryz.prog 9 41).getD [])[4]? = some 4 := by kernel_rfl
theorem tsP_n : ((cellTs Tryz.prog 9 41).getD []).length = 5 := by kernel_rfl
theorem kdJ : kindOf Tryz.prog 3 = some (.i .i64) := by kernel_rfl
theorem kdB : kindOf Tryz.prog 4 = some .b := by kernel_rfl
theorem says (w : World) {v0 : Value} {a : AV} (ha : RV (rhoW w) a v0) (h : SndQ Tryz.prog [] 4 [a] (absS w) (fun o => ∃ s', o = .val (.bool true) s')) :
    Calls Tryz.prog 4 #[v0] w fun e w' => e = .returned (.bool true) ∧ Keeps (fun _ => False) w w' := by
  obtain ⟨_, hc⟩ := body_there
  have rv : RVs (rhoW w) [a] [v0] := ⟨_, _, ha, rfl, rfl⟩
  exact calls_abs noNum Tryz.func4 hc rv h fun o h => h
theorem es_bulk {H : Type} {x : DataW H} {es : List (DataW H)} (h : es = [] ∨ ∃ sp, x = .slice es sp) : Rows.uptoBulkAll es ≤ Rows.uptoBulk x := by
  rcases h with rfl | ⟨sp, rfl⟩
  · simp [Rows.uptoBulkAll]
  · simp only [Rows.uptoBulk]; omega
theorem int_in {a : AV} (h : ckOk (.i .i64) a) : ∃ n, a = .int .i64 n := by
  cases a <;> simp only [ckOk] at h <;> try exact h.elim
  obtain ⟨rfl, h1, h2⟩ := h
  exact ⟨_, rfl⟩
theorem bool_in {a : AV} (h : ckOk .b a) : ∃ n, a = .bool n := by
  cases a <;> simp only [ckOk] at h <;> try exact h.elim
  exact ⟨_, rfl⟩
theorem str_in {a : AV} (h : ckOk .s a) : ∃ n, a = .str n := by
  cases a <;> simp only [ckOk] at h <;> try exact h.elim
  exact ⟨_, rfl⟩
theorem texts_of : ∀ {L : List (List AV)}, (∀ l ∈ L, cksOk ksT l) → ∃ ss : List Tx, L = tL ss
  | [], _ => ⟨[], rfl⟩
  | l :: L, h => by
    obtain ⟨t, h1⟩ := texts_of (L := L) fun x hx => h x (List.mem_cons_of_mem _ hx)
    obtain ⟨a, r, rfl, ha, rfl⟩ := h l List.mem_cons_self
    obtain ⟨n, rfl⟩ := str_in ha
    exact ⟨n :: t, by rw [h1]; rfl⟩
theorem ints_of : ∀ {L : List (List AV)}, (∀ l ∈ L, cksOk ks1 l) → ∃ zs : List Int, L = iL zs
  | [], _ => ⟨[], rfl⟩
  | l :: L, h => by
    obtain ⟨t, h1⟩ := ints_of (L := L) fun x hx => h x (List.mem_cons_of_mem _ hx)
    obtain ⟨a, r, rfl, ha, rfl⟩ := h l List.mem_cons_self
    obtain ⟨n, rfl⟩ := int_in ha
    exact ⟨n :: t, by rw [h1]; rfl⟩
theorem events_of : ∀ {L : List (List AV)}, (∀ l ∈ L, cksOk ksD l) → ∃ ds : List Ev, L = evL ds
  | [], _ => ⟨[], rfl⟩
  | l :: L, h => by
    obtain ⟨t, h1⟩ := events_of (L := L) fun x hx => h x (List.mem_cons_of_mem _ hx)
    obtain ⟨a, r, rfl, ha, b, r2, rfl, hb, c, r3, rfl, hc, rfl⟩ := h l List.mem_cons_self
    obtain ⟨x, rfl⟩ := int_in ha
    obtain ⟨y, rfl⟩ := int_in hb
    obtain ⟨z, rfl⟩ := int_in hc
    exact ⟨⟨x, y, z⟩ :: t, by rw [h1]; rfl⟩
theorem atL_l {R : List (List Tx)} {s : List Tx} {i : Nat} (h : i < R.length) : atL (R ++ [s]) i = atL R i := by unfold atL; rw [List.getElem?_append_left h]
theorem atL_r {R : List (List Tx)} {s : List Tx} : atL (R ++ [s]) R.length = s := by unfold atL; rw [List.getElem?_append_right (Nat.le_refl _), Nat.sub_self]; rfl
/-- an argument's footprints -/
theorem feetIn {H : Type} {enc : TypeId × Value → H} {W0 : World} {fu : Nat} {v : Value} {x : DataW H × List MemPlace} (h : DataW.trod enc Tryz.prog W0 0 (fun _ => true) true fu 37 [v] = some x) (hb : Rows.uptoBulk x.1 ≤ 1048576) :
    ∃ a R W, RV (rhoW W0) a v ∧ FootP (absH W0) a R W ∧ ∀ i, (atL R i).length + (atL W i).length ≤ 10000000 := by
  have mxl : maxLen = 9223372036854775807 := by decide
  obtain ⟨a, X, es, h1, hr, hok, hN, hl, hel, hes, h4⟩ := trod_rows (okD_bulk Tryz.prog 1048576) (fun _ => rfl) Tryz.underlying37 teF tkF tzF (by decide) tbF h hb
  have hL : LstP (absH W0) [.l, .l] a X := ⟨hok, by omega, hl.imp id fun ⟨b, o, eo, cap, e, r⟩ => ⟨b, o, eo, cap, e, fun _ => r⟩⟩
  have each : ∀ i, i < X.length → ∃ r w R W, X[i]? = some [r, w] ∧ LstP (absH W0) ksT r (tL R) ∧ LstP (absH W0) ksT w (tL W) ∧ R.length + W.length ≤ 10000000 := by
    intro i hi
    obtain ⟨cs, y, f, g1, g2, g3⟩ := h4 i X[i] (by simp)
    have hy : Rows.uptoBulk y.1 ≤ 1048576 := Nat.le_trans (Nat.le_trans (bulk_part g1) (es_bulk hes)) hb
    have h6 := trod_eachW (okD_bulk Tryz.prog (Rows.uptoBulk y.1)) teF g3 (Nat.le_refl _)
    obtain ⟨c0, f0, y0, p0, q0, s0⟩ := h6.2 0 68 t0F
    obtain ⟨c1, f1, y1, p1, q1, s1⟩ := h6.2 1 68 t1F
    obtain ⟨a0, L0, k0, m0, n0, _⟩ := trod_list (okD_bulk Tryz.prog (Rows.uptoBulk y.1)) (fun _ => rfl) Tryz.underlying68 teS tkS tzS (by decide) tbS q0 s0
    obtain ⟨a1, L1, k1, m1, n1, _⟩ := trod_list (okD_bulk Tryz.prog (Rows.uptoBulk y.1)) (fun _ => rfl) Tryz.underlying68 teS tkS tzS (by decide) tbS q1 s1
    have e0 := (absCs_get g2).2 0 c0 p0
    have e1 := (absCs_get g2).2 1 c1 p1
    obtain ⟨u0, r0, eX, _, u1, r1, rfl, _, rfl⟩ := hok X[i] (List.getElem_mem hi)
    rw [eX] at e0 e1
    rw [k0] at e0
    rw [k1] at e1
    cases e0
    cases e1
    obtain ⟨R, rfl⟩ := texts_of m0.1
    obtain ⟨W, rfl⟩ := texts_of m1.1
    rw [tL_len] at n0 n1
    exact ⟨_, _, R, W, by rw [List.getElem?_eq_getElem hi, eX], m0, m1, by omega⟩
  have build : ∀ k, k ≤ X.length → ∃ R W : List (List Tx), R.length = k ∧ W.length = k ∧ ∀ i, i < k → ∃ r w, X[i]? = some [r, w] ∧ LstP (absH W0) ksT r (tL (atL R i)) ∧ LstP (absH W0) ksT w (tL (atL W i)) ∧ (atL R i).length + (atL W i).length ≤ 10000000 := by
    intro k
    induction k with
    | zero => intro _; exact ⟨[], [], rfl, rfl, fun i hi => absurd hi (Nat.not_lt_zero _)⟩
    | succ k ih =>
      intro hk
      obtain ⟨R, W, g1, g2, g3⟩ := ih (by omega)
      obtain ⟨r, w, R1, W1, j1, j2, j3, j4⟩ := each k (by omega)
      refine ⟨R ++ [R1], W ++ [W1], by simp [g1], by simp [g2], fun i hi => ?_⟩
      by_cases hik : i < k
      · obtain ⟨r', w', k1, k2, k3, k4⟩ := g3 i hik
        rw [atL_l (by omega), atL_l (by omega)]
        exact ⟨r', w', k1, k2, k3, k4⟩
      · obtain rfl : i = k := by omega
        have e1 : atL (R ++ [R1]) i = R1 := by rw [← g1]; exact atL_r
        have e2 : atL (W ++ [W1]) i = W1 := by rw [← g2]; exact atL_r
        rw [e1, e2]
        exact ⟨r, w, j1, j2, j3, j4⟩
  obtain ⟨R, W, g1, g2, g3⟩ := build X.length (Nat.le_refl _)
  refine ⟨a, R, W, h1, ⟨X, hL, g1.symm, by omega, fun i x hx => ?_⟩, fun i => ?_⟩
  · have hi := (List.getElem?_eq_some_iff.1 hx).1
    obtain ⟨r, w, k1, k2, k3, _⟩ := g3 i hi
    rw [hx] at k1
    cases k1
    exact ⟨r, w, rfl, k2, k3⟩
  · by_cases hi : i < X.length
    · obtain ⟨_, _, _, _, _, k4⟩ := g3 i hi
      exact k4
    · unfold atL
      rw [List.getElem?_eq_none (by omega), List.getElem?_eq_none (by omega)]
      simp
theorem intsIn {H : Type} {enc : TypeId × Value → H} {W0 : World} {fu : Nat} {v : Value} {x : DataW H × List MemPlace} (h : DataW.trod enc Tryz.prog W0 0 (fun _ => true) true fu 38 [v] = some x) (hb : Rows.uptoBulk x.1 ≤ 1048576) :
    ∃ a zs, RV (rhoW W0) a v ∧ LstP (absH W0) ks1 a (iL zs) := by
  have mxl : maxLen = 9223372036854775807 := by decide
  obtain ⟨a, X, es, h1, hr, hok, hN, hl, _⟩ := trod_rows (okD_bulk Tryz.prog 1048576) (fun _ => rfl) Tryz.underlying38 teI tkI tzI (by decide) tbI h hb
  obtain ⟨zs, rfl⟩ := ints_of hok
  exact ⟨a, zs, h1, hok, by omega, hl.imp id fun ⟨b, o, eo, cap, e, r⟩ => ⟨b, o, eo, cap, e, fun _ => r⟩⟩
theorem eventsIn {H : Type} {enc : TypeId × Value → H} {W0 : World} {fu : Nat} {v : Value} {x : DataW H × List MemPlace} (h : DataW.trod enc Tryz.prog W0 0 (fun _ => true) true fu 39 [v] = some x) (hb : Rows.uptoBulk x.1 ≤ 1048576) :
    ∃ a ds, RV (rhoW W0) a v ∧ LstP (absH W0) ksD a (evL ds) := by
  have mxl : maxLen = 9223372036854775807 := by decide
  obtain ⟨a, X, es, h1, hr, hok, hN, hl, _⟩ := trod_rows (okD_bulk Tryz.prog 1048576) (fun _ => rfl) Tryz.underlying39 teD tkD tzD (by decide) tbD h hb
  obtain ⟨zs, rfl⟩ := events_of hok
  exact ⟨a, zs, h1, hok, by omega, hl.imp id fun ⟨b, o, eo, cap, e, r⟩ => ⟨b, o, eo, cap, e, fun _ => r⟩⟩
/-- the argument -/
theorem traceIn {H : Type} {enc : TypeId × Value → H} {W0 : World} {base : Nat} {v : Value} {d : DataW H} {p : List MemPlace} (h : DataW.Trod enc Tryz.prog W0 0 (fun _ => true) true 41 v d p) (hb : Rows.uptoBulk d ≤ 1048576) (k : Value.okWide Tryz.prog W0 .any base 41 v) :
    ∃ (feet fu e : AV) (w : Int) (whole : Bool) (R W : List (List Tx)) (full : List Int) (ds : List Ev), RV (rhoW W0) (.agg [feet, .int .i64 w, fu, e, .bool whole]) v ∧ FootP (absH W0) feet R W ∧ LstP (absH W0) ks1 fu (iL full) ∧ LstP (absH W0) ksD e (evL ds) ∧ ∀ i, (atL R i).length + (atL W i).length ≤ 10000000 := by
  obtain ⟨cs, _, rfl, _, _⟩ := abs_agg Tryz.underlying41 cellsP (by kernel_rfl) k
  obtain ⟨fu, hfu⟩ := h
  obtain ⟨hlen, each⟩ := trod_eachW (cs := cs.toList) (okD_bulk Tryz.prog 1048576) tsP hfu hb
  rw [tsP_n] at hlen
  obtain ⟨w0, f0, z0, hv0, ht0, hb0⟩ := each 0 37 tsP_0
  obtain ⟨w1, f1, z1, hv1, ht1, _⟩ := each 1 3 tsP_1
  obtain ⟨w2, f2, z2, hv2, ht2, hb2⟩ := each 2 38 tsP_2
  obtain ⟨w3, f3, z3, hv3, ht3, hb3⟩ := each 3 39 tsP_3
  obtain ⟨w4, f4, z4, hv4, ht4, _⟩ := each 4 4 tsP_4
  obtain ⟨b1, ha1, hk1⟩ := trod_kind (fun _ => rfl) kdJ ht1
  obtain ⟨b4, ha4, hk4⟩ := trod_kind (fun _ => rfl) kdB ht4
  obtain ⟨wn, rfl⟩ := int_in hk1
  obtain ⟨whole, rfl⟩ := bool_in hk4
  obtain ⟨feet, R, W, r0, hFt, hbb⟩ := feetIn ht0 hb0
  obtain ⟨fl, full, r2, hF⟩ := intsIn ht2 hb2
  obtain ⟨ev, ds, r3, hD⟩ := eventsIn ht3 hb3
  have ecs : cs = #[w0, w1, w2, w3, w4] := by
    apply Array.ext'
    apply List.ext_getElem?
    intro i
    match i with
    | 0 => exact hv0
    | 1 => exact hv1
    | 2 => exact hv2
    | 3 => exact hv3
    | 4 => exact hv4
    | n + 5 => rw [List.getElem?_eq_none (by omega), List.getElem?_eq_none (by simp)]
  exact ⟨feet, fl, ev, wn, whole, R, W, full, ds, ⟨[w0, w1, w2, w3, w4], ⟨_, _, r0, ⟨_, _, absC_rv ha1, ⟨_, _, r2, ⟨_, _, r3, ⟨_, _, absC_rv ha4, rfl, rfl⟩, rfl⟩, rfl⟩, rfl⟩, rfl⟩, by rw [ecs]⟩, hFt, hF, hD, hbb⟩
theorem reads (os : Os) {H : Type} (enc : TypeId × Value → H) : ∃ places, DataW.whole enc Tryz.prog ((World.laidAll Tryz.prog os laidL).forCall (fun _ _ => 0) ⟨#[], wit, []⟩).memory Tryz.f4.params.toList Rows.replayAuditsSpec.vars false wit.toList 8 = some ([.agg [.nil, .lit (.int .i64 0), .nil, .nil, .lit (.bool false)]], [], places) :=
  ⟨[], by kernel_rfl⟩
theorem door_met (os : Os) (args : Array Value) : laidMetH Tryz.prog laidL ((World.laidAll Tryz.prog os laidL).forCall (fun _ _ => 0) ⟨#[], args, []⟩).memory := by
  rw [MakeChecks.laidMetH_plain _ _ _ (by kernel_rfl)]
  exact laidMet_laidAll _ (by kernel_rfl) (by kernel_rfl)
theorem lifted (os : Os) (started : os.Started) (H : Type) (enc : TypeId × Value → H) (F : Stop.Interp) :
    ReturnsInHanded {} Tryz.checked os 4 .any ((Rows.OpenSpec.upto Rows.replayAuditsSpec).preRow enc Tryz.prog Tryz.f4 Rows.replayAuditsUptoRow.domain false Rows.replayAuditsUptoRow.laid) (((Rows.OpenSpec.upto Rows.replayAuditsSpec).at F).post enc Tryz.prog Tryz.f4 false true false false) := by
  obtain ⟨places, hx⟩ := reads os enc
  refine returnsInHanded_of_row (C := Tryz.checked) (s := Rows.OpenSpec.upto Rows.replayAuditsSpec) own started (by kernel_rfl) Tryz.func4
    (witness_row_atRef (enc := enc) (C := Tryz.checked) false (World.laidAll Tryz.prog os laidL) wit (World.laidAll_os _ _ _) (by kernel_rfl) (by kernel_rfl) (by kernel_rfl)
      (OpenSpec.preRow_of_cond 8 hx (by kernel_rfl) (fun k hk => by cases hk; kernel_rfl) (by kernel_rfl) (door_met os _))) ?_
  intro W base args ds gs before hval hW _ hcond _ hlaid _ _
  have hW' := hW
  obtain ⟨p, q, hA0, hV, rfl, _, _⟩ := hW
  have hA : DataW.TrodAll enc Tryz.prog W 0 (fun _ => true) true Tryz.f4.params.toList args.toList ds p := hA0
  rw [Tryz.params4] at hA
  obtain ⟨v0, d0, rfl, rfl, h0⟩ := trodAll_one hA
  obtain ⟨rfl, rfl⟩ := trodVars_none hV
  have hbulk : Rows.uptoBulkAll [d0] ≤ 1048576 := of_decide_eq_true (hcond _ rfl)
  have hb0 : Rows.uptoBulk d0 ≤ 1048576 := Nat.le_trans (bulk_part (l := [d0]) (i := 0) rfl) hbulk
  have k0 : Value.okWide Tryz.prog W .any base 41 v0 := hval 0 41 v0 (by rw [show Tryz.checked.prog = Tryz.prog from rfl] at *; rw [Tryz.params4]; rfl) rfl
  obtain ⟨feet, fu, e, wn, whole, R, Wr, full, dv, g1, g2, g3, g4, g5⟩ := traceIn h0 hb0 k0
  refine (says W g1 (lawA (absH W) (W.heap.size + 1) feet fu e wn whole R Wr full dv g2 g3 g4 g5)).mono fun e W' ⟨he, hk⟩ => ?_
  subst he
  have hb := below_of_keeps hk
  have hlt : ∀ x ∈ p, x.block < W.heap.size := fun x hx => hW'.lt x (by simpa using hx)
  have e1 : ((Rows.OpenSpec.upto Rows.replayAuditsSpec).at F).fn H ([d0] ++ []) = { results := [.lit (.bool true)], args := [d0] } := rfl
  refine ⟨_, rfl, _, _, _, [], p, [], hW', ?_, ?_, ?_, kept_of_keeps hk _, fun h => by cases h⟩
  · rw [e1]; exact trodAll_mk1 (shut_bool Tryz.underlying4 true)
  · rw [e1]
    exact trodAll_mk1 (Below.trod laidOut (by kernel_rfl) (of_decide_eq_true (by kernel_rfl)) h0 hb hlt)
  · rw [e1]; rfl
end Go.Proofs.YtfhgiadogeephaaGreatDoor

