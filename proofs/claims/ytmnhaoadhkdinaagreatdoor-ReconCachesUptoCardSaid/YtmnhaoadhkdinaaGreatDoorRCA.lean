/- A part of the proof of the law ReconCaches. CONDITIONS: those that each theorem names. -/
import Derived.Test.YtmnhaoadhkdinaaGreatDoorCards
import Derived.Test.YtmnhaoadhkdinaaGreatDoorTie
import Derived.ProofKit
import Derived.LaidMore
import Derived.Lay
import Derived.OpenShut
import Derived.Carry
import Derived.Stop.Joined
import Derived.SevenTiedAt
import Derived.Deep.DeepHandedRow
import Derived.Deep.DeepWitnessRowRef
import Derived.JoinedCond
import Derived.Test.YtmnhaoadhkdinaaGreatDoorRC29
import Derived.Test.YtmnhaoadhkdinaaGreatDoorPartD
import Derived.Test.YtmnhaoadhkdinaaGreatDoorEngineD
namespace Go.Proofs.YtmnhaoadhkdinaaGreatDoor
open Go.ChangeShapes Go.WideShapes Go.ChangeAt Go.RowKit Go.Ai
set_option maxRecDepth 100000

theorem bulk_part {H : Type} : ∀ {l : List (DataW H)} {i : Nat} {d : DataW H}, l[i]? = some d → Rows.uptoBulk d ≤ Rows.uptoBulkAll l
  | [], i, d, h => by simp at h
  | x :: r, 0, d, h => by simp at h; subst h; simp only [Rows.uptoBulkAll]; omega
  | x :: r, i + 1, d, h => by
    have := bulk_part (l := r) (i := i) (d := d) (by simpa using h)
    simp only [Rows.uptoBulkAll]; omega
theorem bulk_one {H : Type} (d : DataW H) : 1 ≤ Rows.uptoBulk d := by
  cases d with
  | lit l => cases l <;> simp [Rows.uptoBulk]
  | _ => simp [Rows.uptoBulk]
theorem bulk_len {H : Type} : ∀ (l : List (DataW H)), l.length ≤ Rows.uptoBulkAll l
  | [] => by simp
  | x :: r => by
    have := bulk_one x
    have := bulk_len r
    simp only [Rows.uptoBulkAll, List.length_cons]; omega
theorem okD_bulk {H : Type} (P : Program) (N : Nat) : OkD (H := H) P N fun _ d => Rows.uptoBulk d ≤ N := by
  refine ⟨?_, ?_, ?_⟩
  · intro t fs ps k f d hu h hf hd
    have h1 := bulk_part hd
    simp only [Rows.uptoBulk] at h
    omega
  · intro t e es sp i d hu h hd
    have h1 := bulk_part hd
    simp only [Rows.uptoBulk] at h
    omega
  · intro t e es sp hu hb h
    have h1 := bulk_len es
    simp only [Rows.uptoBulk] at h
    omega
theorem okWide_slice {P : Program} {w : World} {r : Reach} {base : Nat} {t e : TypeId} {v : Value} (hu : P.underlying t = some (.slice e)) (h : Value.okWide P w r base t v) : v.cells = #[v] := by
  unfold Value.okWide at h
  rw [hu] at h
  cases v with
  | agg cs => simp [Cell.okWide, Cell.ok, hu] at h
  | _ => rfl
theorem own : ownKnob Tryz.prog.godebug = none := by kernel_rfl
theorem laidOut : laidOutB Tryz.prog = true := by kernel_rfl
noncomputable def laidL : List (String × DataW Unit) := Rows.reconCachesUptoRow.laid
def wit : Array Value := #[.int .i64 0, .slice none 0 0]
theorem body_there : ∃ c, Tryz.f3.body = some c := Option.isSome_iff_exists.1 (by kernel_rfl)
theorem teD : cellTs Tryz.prog 9 37 = some ((cellTs Tryz.prog 9 37).getD []) := by kernel_rfl
theorem tkD : kindsOf Tryz.prog ((cellTs Tryz.prog 9 37).getD []) = some ksD := by kernel_rfl
theorem tzD : Tryz.prog.cellsOf 37 = (ksD : List CK).length := by kernel_rfl
theorem tbD : 0 < Tryz.prog.bytesOf 37 := of_decide_eq_true (by kernel_rfl)
theorem teS : cellTs Tryz.prog 9 9 = some ((cellTs Tryz.prog 9 9).getD []) := by kernel_rfl
theorem tkS : kindsOf Tryz.prog ((cellTs Tryz.prog 9 9).getD []) = some ksT := by kernel_rfl
theorem tzS : Tryz.prog.cellsOf 9 = (ksT : List CK).length := by kernel_rfl
theorem tbS : 0 < Tryz.prog.bytesOf 9 := of_decide_eq_true (by kernel_rfl)
theorem teV : cellTs Tryz.prog 9 64 = some ((cellTs Tryz.prog 9 64).getD []) := by kernel_rfl
theorem tkV : kindsOf Tryz.prog ((cellTs Tryz.prog 9 64).getD []) = some ksV := by kernel_rfl
theorem tzV : Tryz.prog.cellsOf 64 = (ksV : List CK).length := by kernel_rfl
theorem tbV : 0 < Tryz.prog.bytesOf 64 := of_decide_eq_true (by kernel_rfl)
theorem teI : cellTs Tryz.prog 9 66 = some ((cellTs Tryz.prog 9 66).getD []) := by kernel_rfl
theorem tkI : kindsOf Tryz.prog ((cellTs Tryz.prog 9 66).getD []) = some ksIt := by kernel_rfl
theorem tzI : Tryz.prog.cellsOf 66 = (ksIt : List CK).length := by kernel_rfl
theorem tbI : 0 < Tryz.prog.bytesOf 66 := of_decide_eq_true (by kernel_rfl)
theorem teW : cellTs Tryz.prog 9 68 = some ((cellTs Tryz.prog 9 68).getD []) := by kernel_rfl
theorem tkW : kindsOf Tryz.prog ((cellTs Tryz.prog 9 68).getD []) = some ksW := by kernel_rfl
theorem tzW : Tryz.prog.cellsOf 68 = (ksW : List CK).length := by kernel_rfl
theorem tbW : 0 < Tryz.prog.bytesOf 68 := of_decide_eq_true (by kernel_rfl)
theorem t4D : ((cellTs Tryz.prog 9 37).getD [])[4]? = some 24 := by kernel_rfl
theorem t6D : ((cellTs Tryz.prog 9 37).getD [])[6]? = some 27 := by kernel_rfl
theorem t7D : ((cellTs Tryz.prog 9 37).getD [])[7]? = some 27 := by kernel_rfl
theorem t8D : ((cellTs Tryz.prog 9 37).getD [])[8]? = some 32 := by kernel_rfl
theorem t12D : ((cellTs Tryz.prog 9 37).getD [])[12]? = some 24 := by kernel_rfl
theorem t13D : ((cellTs Tryz.prog 9 37).getD [])[13]? = some 35 := by kernel_rfl
theorem kdJ : kindOf Tryz.prog 3 = some (.i .i64) := by kernel_rfl
theorem says (w : World) {v0 v1 : Value} {a b : AV} (ha : RV (rhoW w) a v0) (hb : RV (rhoW w) b v1) (h : SndQ Tryz.prog [] 3 [a, b] (absS w) (fun o => ∃ s', o = .val (.bool true) s')) :
    Calls Tryz.prog 3 #[v0, v1] w fun e w' => e = .returned (.bool true) ∧ Keeps (fun _ => False) w w' := by
  obtain ⟨_, hc⟩ := body_there
  have rv : RVs (rhoW w) [a, b] [v0, v1] := ⟨_, _, ha, ⟨_, _, hb, rfl, rfl⟩, rfl⟩
  exact calls_abs noNum Tryz.func3 hc rv h fun o h => h
theorem es_bulk {H : Type} {x : DataW H} {es : List (DataW H)} (h : es = [] ∨ ∃ sp, x = .slice es sp) : Rows.uptoBulkAll es ≤ Rows.uptoBulk x := by
  rcases h with rfl | ⟨sp, rfl⟩
  · simp [Rows.uptoBulkAll]
  · simp only [Rows.uptoBulk]; omega
theorem int_in {k : IntKind} {a : AV} (h : ckOk (.i k) a) : ∃ n, a = .int k n := by
  cases a <;> simp only [ckOk] at h <;> try exact h.elim
  obtain ⟨rfl, h1, h2⟩ := h
  exact ⟨_, rfl⟩
theorem str_in {a : AV} (h : ckOk .s a) : ∃ n, a = .str n := by
  cases a <;> simp only [ckOk] at h <;> try exact h.elim
  exact ⟨_, rfl⟩
theorem texts_of : ∀ {L : List (List AV)}, (∀ l ∈ L, cksOk ksT l) → ∃ ss : List Tx, L = tL ss
  | [], _ => ⟨[], rfl⟩
  | l :: L, h => by
    obtain ⟨t, h1⟩ := texts_of (L := L) fun x hx => h x (List.mem_cons_of_mem _ hx)
    obtain ⟨a, r, rfl, ha, rfl⟩ := h l List.mem_cons_self
    obtain ⟨n, rfl⟩ := str_in ha
    exact ⟨n :: t, by rw [h1]; rfl⟩
theorem list_of {α : Type} {n : Nat} {Q : Nat → α → Prop} (h : ∀ i, i < n → ∃ d, Q i d) : ∃ D : List α, D.length = n ∧ ∀ (i : Nat) (d : α), D[i]? = some d → Q i d := by
  refine ⟨List.ofFn fun i : Fin n => (h i.1 i.2).choose, by simp, fun i d hd => ?_⟩
  rw [List.getElem?_ofFn] at hd
  split at hd
  · rename_i hi
    cases hd
    exact (h i hi).choose_spec
  · cases hd
/-- an argument's acts -/
theorem didsIn {H : Type} {enc : TypeId × Value → H} {W0 : World} {fu : Nat} {v : Value} {x : DataW H × List MemPlace} (h : DataW.trod enc Tryz.prog W0 0 (fun _ => true) true fu 22 [v] = some x) (hb : Rows.uptoBulk x.1 ≤ 1048576) :
    ∃ a D, RV (rhoW W0) a v ∧ DidP (absH W0) a D ∧ ∀ d ∈ D, d.n ≤ 100000000 := by
  have mxl : maxLen = 9223372036854775807 := by decide
  obtain ⟨a, X, es, h1, hr, hok, hN, hl, hel, hes, h4⟩ := trod_rows (okD_bulk Tryz.prog 1048576) (fun _ => rfl) Tryz.underlying22 teD tkD tzD (by decide) tbD h hb
  have hL : LstP (absH W0) ksD a X := ⟨hok, by omega, hl.imp id fun ⟨b, o, eo, cap, e, r⟩ => ⟨b, o, eo, cap, e, fun _ => r⟩⟩
  have each : ∀ j, j < X.length → ∃ d : DV, (∃ a r w i ra wv, X[j]? = some [.int .i64 d.kind, .int .i64 d.ps.cl, .int .u64 d.ps.tok, .str d.ps.nm, a, .int .i64 d.ps.how, r, w, i, .int .i64 d.rc, .int .u64 d.rt, .str d.rn, ra, wv] ∧ LstP (absH W0) ksV a d.ps.args ∧ LstP (absH W0) ksT r (tL d.ps.rd) ∧ LstP (absH W0) ksT w (tL d.ps.wr) ∧ LstP (absH W0) ksIt i d.ps.it ∧ LstP (absH W0) ksV ra d.rargs ∧ LstP (absH W0) ksW wv d.w) ∧ d.n ≤ 100000000 := by
    intro j hj
    obtain ⟨cs, y, f, g1, g2, g3⟩ := h4 j X[j] (List.getElem?_eq_getElem hj)
    have hy : Rows.uptoBulk y.1 ≤ 1048576 := Nat.le_trans (Nat.le_trans (bulk_part g1) (es_bulk hes)) hb
    have h6 := trod_eachW (okD_bulk Tryz.prog (Rows.uptoBulk y.1)) teD g3 (Nat.le_refl _)
    obtain ⟨c4, f4, y4, p4, q4, s4⟩ := h6.2 4 24 t4D
    obtain ⟨a4, L4, k4, m4, n4, _⟩ := trod_list (okD_bulk Tryz.prog (Rows.uptoBulk y.1)) (fun _ => rfl) Tryz.underlying24 teV tkV tzV (by decide) tbV q4 s4
    have e4 := (absCs_get g2).2 4 c4 p4
    obtain ⟨c6, f6, y6, p6, q6, s6⟩ := h6.2 6 27 t6D
    obtain ⟨a6, L6, k6, m6, n6, _⟩ := trod_list (okD_bulk Tryz.prog (Rows.uptoBulk y.1)) (fun _ => rfl) Tryz.underlying27 teS tkS tzS (by decide) tbS q6 s6
    have e6 := (absCs_get g2).2 6 c6 p6
    obtain ⟨c7, f7, y7, p7, q7, s7⟩ := h6.2 7 27 t7D
    obtain ⟨a7, L7, k7, m7, n7, _⟩ := trod_list (okD_bulk Tryz.prog (Rows.uptoBulk y.1)) (fun _ => rfl) Tryz.underlying27 teS tkS tzS (by decide) tbS q7 s7
    have e7 := (absCs_get g2).2 7 c7 p7
    obtain ⟨c8, f8, y8, p8, q8, s8⟩ := h6.2 8 32 t8D
    obtain ⟨a8, L8, k8, m8, n8, _⟩ := trod_list (okD_bulk Tryz.prog (Rows.uptoBulk y.1)) (fun _ => rfl) Tryz.underlying32 teI tkI tzI (by decide) tbI q8 s8
    have e8 := (absCs_get g2).2 8 c8 p8
    obtain ⟨c12, f12, y12, p12, q12, s12⟩ := h6.2 12 24 t12D
    obtain ⟨a12, L12, k12, m12, n12, _⟩ := trod_list (okD_bulk Tryz.prog (Rows.uptoBulk y.1)) (fun _ => rfl) Tryz.underlying24 teV tkV tzV (by decide) tbV q12 s12
    have e12 := (absCs_get g2).2 12 c12 p12
    obtain ⟨c13, f13, y13, p13, q13, s13⟩ := h6.2 13 35 t13D
    obtain ⟨a13, L13, k13, m13, n13, _⟩ := trod_list (okD_bulk Tryz.prog (Rows.uptoBulk y.1)) (fun _ => rfl) Tryz.underlying35 teW tkW tzW (by decide) tbW q13 s13
    have e13 := (absCs_get g2).2 13 c13 p13
    have hXj := hok X[j] (List.getElem_mem hj)
    obtain ⟨x, hx⟩ : ∃ x, x = X[j] := ⟨_, rfl⟩
    rw [← hx] at hXj e4 e6 e7 e8 e12 e13
    obtain ⟨z0, _, eX, o0, z1, _, rfl, o1, z2, _, rfl, o2, z3, _, rfl, o3, z4, _, rfl, o4, z5, _, rfl, o5, z6, _, rfl, o6, z7, _, rfl, o7, z8, _, rfl, o8, z9, _, rfl, o9, z10, _, rfl, o10, z11, _, rfl, o11, z12, _, rfl, o12, z13, _, rfl, o13, rfl⟩ := hXj
    rw [eX] at e4 e6 e7 e8 e12 e13
    rw [k4] at e4
    rw [k6] at e6
    rw [k7] at e7
    rw [k8] at e8
    rw [k12] at e12
    rw [k13] at e13
    cases e4
    cases e6
    cases e7
    cases e8
    cases e12
    cases e13
    obtain ⟨v0, rfl⟩ := int_in o0
    obtain ⟨v1, rfl⟩ := int_in o1
    obtain ⟨v2, rfl⟩ := int_in o2
    obtain ⟨v3, rfl⟩ := str_in o3
    obtain ⟨v5, rfl⟩ := int_in o5
    obtain ⟨v9, rfl⟩ := int_in o9
    obtain ⟨v10, rfl⟩ := int_in o10
    obtain ⟨v11, rfl⟩ := str_in o11
    obtain ⟨R, rfl⟩ := texts_of m6.1
    obtain ⟨W, rfl⟩ := texts_of m7.1
    rw [tL_len] at n6 n7
    refine ⟨⟨v0, ⟨v1, v2, v3, L4, v5, R, W, L8⟩, v9, v10, v11, L12, L13⟩, ⟨_, _, _, _, _, _, ?_, m4, m6, m7, m8, m12, m13⟩, ?_⟩
    · rw [List.getElem?_eq_getElem hj, ← hx, eX]
    · show L8.length + L13.length + L12.length + L4.length + R.length + W.length ≤ 100000000
      omega
  obtain ⟨D, hD, hQ⟩ := list_of each
  refine ⟨a, D, h1, ⟨X, hL, hD.symm, fun j x d hx hd => ?_⟩, fun d hd => ?_⟩
  · obtain ⟨⟨a, r, w, i, ra, wv, k1, k2⟩, _⟩ := hQ j d hd
    rw [hx] at k1
    exact ⟨a, r, w, i, ra, wv, Option.some.inj k1, k2⟩
  · obtain ⟨j, hj⟩ := List.getElem?_of_mem hd
    exact (hQ j d hj).2
theorem reads (os : Os) {H : Type} (enc : TypeId × Value → H) : ∃ places, DataW.whole enc Tryz.prog ((World.laidAll Tryz.prog os laidL).forCall (fun _ _ => 0) ⟨#[], wit, []⟩).memory Tryz.f3.params.toList Rows.reconCachesSpec.vars false wit.toList 8 = some ([.lit (.int .i64 0), .nil], [], places) :=
  ⟨[], by kernel_rfl⟩
theorem door_met (os : Os) (args : Array Value) : laidMetH Tryz.prog laidL ((World.laidAll Tryz.prog os laidL).forCall (fun _ _ => 0) ⟨#[], args, []⟩).memory := by
  rw [MakeChecks.laidMetH_plain _ _ _ (by kernel_rfl)]
  exact laidMet_laidAll _ (by kernel_rfl) (by kernel_rfl)
theorem lifted (os : Os) (started : os.Started) (H : Type) (enc : TypeId × Value → H) (F : Stop.Interp) :
    ReturnsInHanded {} Tryz.checked os 3 .any ((Rows.OpenSpec.upto Rows.reconCachesSpec).preRow enc Tryz.prog Tryz.f3 Rows.reconCachesUptoRow.domain false Rows.reconCachesUptoRow.laid) (((Rows.OpenSpec.upto Rows.reconCachesSpec).at F).post enc Tryz.prog Tryz.f3 false true false false) := by
  obtain ⟨places, hx⟩ := reads os enc
  refine returnsInHanded_of_row (C := Tryz.checked) (s := Rows.OpenSpec.upto Rows.reconCachesSpec) own started (by kernel_rfl) Tryz.func3
    (witness_row_atRef (enc := enc) (C := Tryz.checked) false (World.laidAll Tryz.prog os laidL) wit (World.laidAll_os _ _ _) (by kernel_rfl) (by kernel_rfl) (by kernel_rfl)
      (OpenSpec.preRow_of_cond 8 hx (by kernel_rfl) (fun k hk => by cases hk; kernel_rfl) (by kernel_rfl) (door_met os _))) ?_
  intro W base args ds gs before hval hW _ hcond _ hlaid _ _
  have hW' := hW
  obtain ⟨p, q, hA0, hV, rfl, _, _⟩ := hW
  have hA : DataW.TrodAll enc Tryz.prog W 0 (fun _ => true) true Tryz.f3.params.toList args.toList ds p := hA0
  rw [Tryz.params3] at hA
  obtain ⟨v0, v1, d0, d1, p0, p1, rfl, rfl, rfl, h0, h1⟩ := trodAll_two hA
  obtain ⟨rfl, rfl⟩ := trodVars_none hV
  have hbulk : Rows.uptoBulkAll [d0, d1] ≤ 1048576 := of_decide_eq_true (hcond _ rfl)
  have hb1 : Rows.uptoBulk d1 ≤ 1048576 := Nat.le_trans (bulk_part (l := [d0, d1]) (i := 1) rfl) hbulk
  have k0 : Value.okWide Tryz.prog W .any base 3 v0 := hval 0 3 v0 (by rw [show Tryz.checked.prog = Tryz.prog from rfl] at *; rw [Tryz.params3]; rfl) rfl
  have k1 : Value.okWide Tryz.prog W .any base 22 v1 := hval 1 22 v1 (by rw [show Tryz.checked.prog = Tryz.prog from rfl] at *; rw [Tryz.params3]; rfl) rfl
  obtain ⟨mm, rfl, _, _⟩ := abs_int Tryz.underlying3 k0
  obtain ⟨fu0, hfu0⟩ := id h0
  obtain ⟨fu1, hfu1⟩ := id h1
  obtain ⟨b0, ha0, hk0⟩ := trod_kind (v := .int .i64 mm) (fun _ => rfl) kdJ hfu0
  have e0 : b0 = .int .i64 mm := by
    have : absC W (.int .i64 mm) = some (.int .i64 mm) := rfl
    rw [this] at ha0
    exact (Option.some.inj ha0).symm
  subst e0
  rw [okWide_slice Tryz.underlying22 k1] at hfu1
  obtain ⟨al, D, g1, g2, g3⟩ := didsIn hfu1 hb1
  refine (says W (absC_rv ha0) g1 (lawA (absH W) (W.heap.size + 1) mm al D g2 g3)).mono fun e W' ⟨he, hk⟩ => ?_
  subst he
  have hb := below_of_keeps hk
  have hlt : ∀ x ∈ p0 ++ p1, x.block < W.heap.size := fun x hx => hW'.lt x (by simpa using hx)
  have e1 : ((Rows.OpenSpec.upto Rows.reconCachesSpec).at F).fn H ([d0, d1] ++ []) = { results := [.lit (.bool true)], args := [d0, d1] } := rfl
  refine ⟨_, rfl, _, _, _, [], p0 ++ p1, [], hW', ?_, ?_, ?_, kept_of_keeps hk _, fun h => by cases h⟩
  · rw [e1]; exact trodAll_mk1 (shut_bool Tryz.underlying4 true)
  · rw [e1]
    exact trodAll_mk2 (Below.trod laidOut (by kernel_rfl) (of_decide_eq_true (by kernel_rfl)) h0 hb fun x hx => hlt x (List.mem_append_left _ hx))
      (Below.trod laidOut (by kernel_rfl) (of_decide_eq_true (by kernel_rfl)) h1 hb fun x hx => hlt x (List.mem_append_right _ hx))
  · rw [e1]; rfl
end Go.Proofs.YtmnhaoadhkdinaaGreatDoor

