/- A part of the proof of the law ReplayDiffers. CONDITIONS: those that each theorem names. -/
import Derived.Test.YtfhgiadogeephaaGreatDoorCards
import Derived.Test.YtfhgiadogeephaaGreatDoorTie
import Derived.ProofKit
import Derived.LaidMore
import Derived.Lay
import Derived.OpenShut
import Derived.Carry
import Derived.Stop.Joined
import Derived.SevenTiedAt
import Derived.Deep.DeepHandedRow
import Derived.Deep.DeepWitnessRowRef
import Derived.JoinedCond
import Derived.Test.YtfhgiadogeephaaGreatDoorPartG
import Derived.Test.YtfhgiadogeephaaGreatDoorEngineD
namespace Go.Proofs.YtfhgiadogeephaaGreatDoor
open Go.ChangeShapes Go.WideShapes Go.ChangeAt Go.RowKit Go.Ai
set_option maxRecDepth 100000

theorem bulk_part {H : Type} : ∀ {l : List (DataW H)} {i : Nat} {d : DataW H}, l[i]? = some d → Rows.uptoBulk d ≤ Rows.uptoBulkAll l
  | [], i, d, h => by simp at h
  | x :: r, 0, d, h => by simp at h; subst h; simp only [Rows.uptoBulkAll]; omega
  | x :: r, i + 1, d, h => by
    have := bulk_part (l := r) (i := i) (d := d) (by simpa using h)
    simp only [Rows.uptoBulkAll]; omega
theorem bulk_one {H : Type} (d : DataW H) : 1 ≤ Rows.uptoBulk d := by
  cases d with
  | lit l => cases l <;> simp [Rows.uptoBulk]
  | _ => simp [Rows.uptoBulk]
theorem bulk_len {H : Type} : ∀ (l : List (DataW H)), l.length ≤ Rows.uptoBulkAll l
  | [] => by simp
  | x :: r => by
    have := bulk_one x
    have := bulk_len r
    simp only [Rows.uptoBulkAll, List.length_cons]; omega
theorem okD_bulk {H : Type} (P : Program) (N : Nat) : OkD (H := H) P N fun _ d => Rows.uptoBulk d ≤ N := by
  refine ⟨?_, ?_, ?_⟩
  · intro t fs ps k f d hu h hf hd
    have h1 := bulk_part hd
    simp only [Rows.uptoBulk] at h
    omega
  · intro t e es sp i d hu h hd
    have h1 := bulk_part hd
    simp only [Rows.uptoBulk] at h
    omega
  · intro t e es sp hu hb h
    have h1 := bulk_len es
    simp only [Rows.uptoBulk] at h
    omega
theorem okWide_slice {P : Program} {w : World} {r : Reach} {base : Nat} {t e : TypeId} {v : Value} (hu : P.underlying t = some (.slice e)) (h : Value.okWide P w r base t v) : v.cells = #[v] := by
  unfold Value.okWide at h
  rw [hu] at h
  cases v with
  | agg cs => simp [Cell.okWide, Cell.ok, hu] at h
  | _ => rfl
theorem own : ownKnob Tryz.prog.godebug = none := by kernel_rfl
theorem laidOut : laidOutB Tryz.prog = true := by kernel_rfl
noncomputable def laidL : List (String × DataW Unit) := Rows.replayDiffersUptoRow.laid
def wit1 : Value := .agg #[.int .i64 0, .slice none 0 0, .slice none 0 0, .int .i64 0]
def wit : Array Value := #[wit1, wit1]
theorem body_there : ∃ c, Tryz.f3.body = some c := Option.isSome_iff_exists.1 (by kernel_rfl)
theorem teR : cellTs Tryz.prog 9 28 = some ((cellTs Tryz.prog 9 28).getD []) := by kernel_rfl
theorem tkR : kindsOf Tryz.prog ((cellTs Tryz.prog 9 28).getD []) = some ksR := by kernel_rfl
theorem tzR : Tryz.prog.cellsOf 28 = ksR.length := by kernel_rfl
theorem tbR : 0 < Tryz.prog.bytesOf 28 := of_decide_eq_true (by kernel_rfl)
theorem t4R : ((cellTs Tryz.prog 9 28).getD [])[4]? = some 26 := by kernel_rfl
theorem teV : cellTs Tryz.prog 9 217 = some ((cellTs Tryz.prog 9 217).getD []) := by kernel_rfl
theorem tkV : kindsOf Tryz.prog ((cellTs Tryz.prog 9 217).getD []) = some ksV := by kernel_rfl
theorem tzV : Tryz.prog.cellsOf 217 = ksV.length := by kernel_rfl
theorem tbV : 0 < Tryz.prog.bytesOf 217 := of_decide_eq_true (by kernel_rfl)
abbrev ksB : List CK := [.i .u8]
theorem teB : cellTs Tryz.prog 9 5 = some ((cellTs Tryz.prog 9 5).getD []) := by kernel_rfl
theorem tkB : kindsOf Tryz.prog ((cellTs Tryz.prog 9 5).getD []) = some ksB := by kernel_rfl
theorem tzB : Tryz.prog.cellsOf 5 = ksB.length := by kernel_rfl
theorem tbB : 0 < Tryz.prog.bytesOf 5 := of_decide_eq_true (by kernel_rfl)
theorem cellsP : Tryz.prog.cellTypes Tryz.prog.depth 25 = some ((Tryz.prog.cellTypes Tryz.prog.depth 25).getD []) := by kernel_rfl
theorem tsP : cellTs Tryz.prog 9 25 = some ((cellTs Tryz.prog 9 25).getD []) := by kernel_rfl
theorem tsP_0 : ((cellTs Tryz.prog 9 25).getD [])[0]? = some 2 := by kernel_rfl
theorem tsP_1 : ((cellTs Tryz.prog 9 25).getD [])[1]? = some 22 := by kernel_rfl
theorem tsP_2 : ((cellTs Tryz.prog 9 25).getD [])[2]? = some 23 := by kernel_rfl
theorem tsP_3 : ((cellTs Tryz.prog 9 25).getD [])[3]? = some 3 := by kernel_rfl
theorem tsP_n : ((cellTs Tryz.prog 9 25).getD []).length = 4 := by kernel_rfl
theorem kdI : kindOf Tryz.prog 2 = some (.i .i64) := by kernel_rfl
theorem kdJ : kindOf Tryz.prog 3 = some (.i .i64) := by kernel_rfl
theorem gnP : Tryz.prog.globalNamed "internal/strconv.uint64pow10" = some 3 := by kernel_rfl
theorem gtP : (Tryz.prog.globals[3]?).map (·.type) = some 344 := by kernel_rfl
theorem gnW : Tryz.prog.globalNamed "tranche/serial.words" = some 0 := by kernel_rfl
theorem gtW : (Tryz.prog.globals[0]?).map (·.type) = some 291 := by kernel_rfl
theorem datP : (Rows.laid_internal_strconv_uint64pow10 : DataW Unit) = Lib.tabData .u64 Lib.pow10Tab := by kernel_rfl
theorem datW : (Rows.laid_tranche_serial_words : DataW Unit) = .agg ([wordL 0, wordL 1, wordL 2, wordL 3, wordL 4, wordL 5, wordL 6].map fun z => .lit (.string z)) := by kernel_rfl
theorem rgL {W : World} (h : laidMetH Tryz.prog laidL W) : RG GL W.heap.size W := by
  rw [MakeChecks.laidMetH_plain _ _ _ (by kernel_rfl)] at h
  obtain ⟨ps, hv, _⟩ := h
  obtain ⟨g1, t1, c1, f1, p1, q1, a1, b1, l1, e1, hv, _⟩ := hv
  obtain ⟨g2, t2, c2, f2, p2, q2, a2, b2, l2, e2, hv, _⟩ := hv
  obtain ⟨g3, t3, c3, f3, p3, q3, a3, b3, l3, e3, hv, _⟩ := hv
  obtain ⟨g4, t4, c4, f4, p4, q4, a4, b4, l4, e4, hv, _⟩ := hv
  obtain ⟨g5, t5, c5, f5, p5, q5, a5, b5, l5, e5, hv, _⟩ := hv
  obtain ⟨g6, t6, c6, f6, p6, q6, a6, b6, l6, e6, hv, _⟩ := hv
  obtain ⟨g7, t7, c7, f7, p7, q7, a7, b7, l7, e7, hv, _⟩ := hv
  obtain ⟨g8, t8, c8, f8, p8, q8, a8, b8, l8, e8, hv, _⟩ := hv
  obtain ⟨g9, t9, c9, f9, p9, q9, a9, b9, l9, e9, hv, _⟩ := hv
  obtain rfl := Option.some.inj (gnP.symm.trans a3)
  obtain rfl := Option.some.inj (gtP.symm.trans b3)
  obtain rfl := Option.some.inj (gnW.symm.trans a8)
  obtain rfl := Option.some.inj (gtW.symm.trans b8)
  rw [datP] at e3
  rw [datW] at e8
  have eP := Lib.cells_of_tab Tryz.underlying344 Tryz.underlying34 (by kernel_rfl) (by kernel_rfl) e3
  have eW := cells_of_strs Tryz.underlying291 Tryz.underlying9 (by kernel_rfl) (by kernel_rfl) e8
  refine rg_cons (Nat.le_refl _) gnW (vs := c8.toList) (by simpa using l8) (by rw [eW]; rfl) ?_ (rg_cons (Nat.le_refl _) gnP (vs := c3.toList) (by simpa using l3) (by rw [eP]; simp [tabA]) ?_ (rg_nil _ _))
  · intro i a ha
    rw [eW]
    have hw : wordsC = [wordL 0, wordL 1, wordL 2, wordL 3, wordL 4, wordL 5, wordL 6].map AV.str := rfl
    rw [hw, List.getElem?_map] at ha
    rw [List.getElem?_map]
    cases hq : [wordL 0, wordL 1, wordL 2, wordL 3, wordL 4, wordL 5, wordL 6][i]? with
    | none => rw [hq] at ha; cases ha
    | some z => rw [hq] at ha; cases ha; exact ⟨_, rfl, rfl⟩
  · intro i a ha
    rw [eP]
    simp only [tabA, List.getElem?_map] at ha ⊢
    cases hq : Lib.pow10Tab[i]? with
    | none => rw [hq] at ha; cases ha
    | some z => rw [hq] at ha; cases ha; exact ⟨_, rfl, rfl⟩

theorem says (w : World) {v0 v1 : Value} {a b : AV} (rg : RG GL w.heap.size w) (ha : RV (rhoW w) a v0) (hb : RV (rhoW w) b v1) (h : SndQ Tryz.prog GL 3 [a, b] (absS w) (fun o => ∃ s', o = .val (.bool true) s')) :
    Calls Tryz.prog 3 #[v0, v1] w fun e w' => e = .returned (.bool true) ∧ Keeps (fun _ => False) w w' := by
  obtain ⟨_, hc⟩ := body_there
  have rv : RVs (rhoW w) [a, b] [v0, v1] := ⟨_, _, ha, ⟨_, _, hb, rfl, rfl⟩, rfl⟩
  exact calls_absG noNum Tryz.func3 hc rg rv h fun o h => h
theorem sum_bulk {H : Type} : ∀ {Y : List (List (List AV))} {es : List (DataW H)}, Y.length = es.length → (∀ (i : Nat) (l : List (List AV)) (d : DataW H), Y[i]? = some l → es[i]? = some d → l.length ≤ Rows.uptoBulk d) → (Y.map List.length).sum ≤ Rows.uptoBulkAll es
  | [], es, _, _ => by simp
  | y :: Y, [], h, _ => by simp at h
  | y :: Y, d :: es, h, hb => by
    have h1 := hb 0 y d rfl rfl
    have h2 := sum_bulk (Y := Y) (es := es) (by simpa using h) fun i l d hl hd => hb (i + 1) l d (by simpa using hl) (by simpa using hd)
    simp only [List.map_cons, List.sum_cons, Rows.uptoBulkAll]
    omega
theorem es_bulk {H : Type} {x : DataW H} {es : List (DataW H)} (h : es = [] ∨ ∃ sp, x = .slice es sp) : Rows.uptoBulkAll es ≤ Rows.uptoBulk x := by
  rcases h with rfl | ⟨sp, rfl⟩
  · simp [Rows.uptoBulkAll]
  · simp only [Rows.uptoBulk]; omega
/-- an argument's results -/
theorem results {H : Type} {enc : TypeId × Value → H} {W : World} {fu : Nat} {v : Value} {x : DataW H × List MemPlace} (h : DataW.trod enc Tryz.prog W 0 (fun _ => true) true fu 23 [v] = some x) (hb : Rows.uptoBulk x.1 ≤ 1048576) :
    ∃ a X Y, RV (rhoW W) a v ∧ RoomA a ∧ RowN (absH W) ksR 4 ksV a X Y ∧ X.length ≤ 2000000 ∧ cntY Y Y.length ≤ 2000000 := by
  have mxl : maxLen = 9223372036854775807 := by decide
  obtain ⟨a, X, es, h1, hr, hok, hN, hl, hel, hes, h4⟩ := trod_rows (okD_bulk Tryz.prog 1048576) (fun _ => rfl) Tryz.underlying23 teR tkR tzR (by decide) tbR h hb
  have hL : LstP (absH W) ksR a X := ⟨hok, by omega, hl.imp id fun ⟨b, o, eo, cap, e, r⟩ => ⟨b, o, eo, cap, e, fun _ => r⟩⟩
  have each : ∀ i, i < X.length → ∃ (l : List (List AV)) (x : AV) (r : List AV) (d : DataW H), X[i]? = some r ∧ r[4]? = some x ∧ LstP (absH W) ksV x l ∧ es[i]? = some d ∧ l.length ≤ Rows.uptoBulk d := by
    intro i hi
    obtain ⟨cs, y, f, g1, g2, g3⟩ := h4 i X[i] (by simp)
    have h6 := trod_eachW (okD_bulk Tryz.prog (Rows.uptoBulk y.1)) teR g3 (Nat.le_refl _)
    obtain ⟨c, f2, y2, h7, h8, h9⟩ := h6.2 4 26 t4R
    obtain ⟨a2, L, k1, k2, k3, _⟩ := trod_list (okD_bulk Tryz.prog (Rows.uptoBulk y.1)) (fun _ => rfl) Tryz.underlying26 teV tkV tzV (by decide) tbV h8 h9
    have := (absCs_get g2).2 4 c h7
    exact ⟨L, a2, X[i], y.1, by simp, by rw [← this, k1], k2, g1, k3⟩
  have build : ∀ k, k ≤ X.length → ∃ Y : List (List (List AV)), Y.length = k ∧ ∀ (i : Nat) (l : List (List AV)), Y[i]? = some l → (∃ r x, X[i]? = some r ∧ r[4]? = some x ∧ LstP (absH W) ksV x l) ∧ ∃ d, es[i]? = some d ∧ l.length ≤ Rows.uptoBulk d := by
    intro k
    induction k with
    | zero => intro _; exact ⟨[], rfl, by simp⟩
    | succ k ih =>
      intro hk
      obtain ⟨Y, g1, g2⟩ := ih (by omega)
      obtain ⟨l, x, r, d, g3, g4, g5, g6, g7⟩ := each k (by omega)
      refine ⟨Y ++ [l], by simp [g1], fun i l' hi => ?_⟩
      by_cases hik : i < Y.length
      · rw [List.getElem?_append_left hik] at hi; exact g2 i l' hi
      · rw [List.getElem?_append_right (by omega)] at hi
        have : i = k := by
          have := (List.getElem?_eq_some_iff.1 hi).1
          simp at this; omega
        subst this
        rw [g1, Nat.sub_self] at hi
        simp at hi
        subst hi
        exact ⟨⟨r, x, g3, g4, g5⟩, d, g6, g7⟩
  obtain ⟨Y, g1, g2⟩ := build X.length (Nat.le_refl _)
  refine ⟨a, X, Y, h1, hr, ⟨hL, inner_mk g1 fun i r hr => ?_⟩, by omega, ?_⟩
  · have hi := (List.getElem?_eq_some_iff.1 hr).1
    obtain ⟨⟨r', x, k1, k2, k3⟩, _⟩ := g2 i Y[i] (by simp)
    rw [hr] at k1; cases k1
    exact ⟨x, Y[i], k2, by simp, k3⟩
  · have h5 := sum_bulk (Y := Y) (es := es) (by omega) fun i l d hl hd => by
      obtain ⟨_, d', hd', h⟩ := g2 i l hl
      rw [hd] at hd'; cases hd'; exact h
    have h6 := es_bulk hes
    unfold cntY
    rw [List.take_length]
    omega
theorem bytes_of : ∀ {L : List (List AV)}, (∀ l ∈ L, cksOk ksB l) → ∃ t : Tx, L.flatten = byCells t ∧ t.length = L.length
  | [], _ => ⟨[], rfl, rfl⟩
  | l :: L, h => by
    obtain ⟨t, h1, h2⟩ := bytes_of (L := L) fun x hx => h x (List.mem_cons_of_mem _ hx)
    obtain ⟨a, r, rfl, ha, rfl⟩ := h l List.mem_cons_self
    cases a <;> simp only [ckOk] at ha <;> try exact ha.elim
    rename_i k n
    obtain ⟨rfl, hn1, hn2⟩ := ha
    have hn1 : (0 : Int) ≤ n := hn1
    have hn2 : n ≤ 255 := hn2
    refine ⟨UInt8.ofNat n.toNat :: t, ?_, by simp [h2]⟩
    have e : ((UInt8.ofNat n.toNat).toNat : Int) = n := by
      rw [UInt8.toNat_ofNat']
      omega
    simp only [List.flatten_cons, h1, byCells, List.map_cons, e]
    rfl
/-- an argument's bytes -/
theorem bytesIn {H : Type} {enc : TypeId × Value → H} {W : World} {fu : Nat} {v : Value} {x : DataW H × List MemPlace} (h : DataW.trod enc Tryz.prog W 0 (fun _ => true) true fu 22 [v] = some x) (hb : Rows.uptoBulk x.1 ≤ 1048576) :
    ∃ a t, RV (rhoW W) a v ∧ RoomA a ∧ BytP (absH W) a t ∧ t.length ≤ 2000000 := by
  have mxl : maxLen = 9223372036854775807 := by decide
  obtain ⟨a, L, es, h1, hr, hok, hN, hl, _⟩ := trod_rows (okD_bulk Tryz.prog 1048576) (fun _ => rfl) Tryz.underlying22 teB tkB tzB (by decide) tbB h hb
  obtain ⟨t, ht, htl⟩ := bytes_of hok
  refine ⟨a, t, h1, hr, ⟨by omega, ?_⟩, by omega⟩
  rcases hl with ⟨hn, rfl⟩ | ⟨b, o, eo, cap, e, r⟩
  · exact .inl ⟨hn, List.length_eq_zero_iff.1 (by simpa using htl)⟩
  · refine .inr ⟨b, o, eo, cap, by rw [htl]; exact e, ?_⟩
    rw [ht, show L.length * ksB.length = t.length by rw [htl]; exact Nat.mul_one _] at r
    exact r
theorem int_in {a : AV} (h : ckOk (.i .i64) a) : ∃ n, a = .int .i64 n ∧ in64 n := by
  cases a <;> simp only [ckOk] at h <;> try exact h.elim
  obtain ⟨rfl, h1, h2⟩ := h
  exact ⟨_, rfl, h1, h2⟩
/-- an argument -/
theorem replica {H : Type} {enc : TypeId × Value → H} {W : World} {base : Nat} {v : Value} {d : DataW H} {p : List MemPlace} (h : DataW.Trod enc Tryz.prog W 0 (fun _ => true) true 25 v d p) (hb : Rows.uptoBulk d ≤ 1048576) (k : Value.okWide Tryz.prog W .any base 25 v) :
    ∃ (e pp : Int) (sa ra : AV) (A : Tx) (X : List (List AV)) (Y : List (List (List AV))), RV (rhoW W) (.agg [.int .i64 e, sa, ra, .int .i64 pp]) v ∧ in64 e ∧ BytP (absH W) sa A ∧ RoomA sa ∧ A.length ≤ 2000000 ∧ RowN (absH W) ksR 4 ksV ra X Y ∧ RoomA ra ∧ X.length ≤ 2000000 ∧ cntY Y Y.length ≤ 2000000 := by
  obtain ⟨cs, _, rfl, _, _⟩ := abs_agg Tryz.underlying25 cellsP (by kernel_rfl) k
  obtain ⟨fu, hfu⟩ := h
  obtain ⟨hlen, each⟩ := trod_eachW (cs := cs.toList) (okD_bulk Tryz.prog 1048576) tsP hfu hb
  rw [tsP_n] at hlen
  obtain ⟨w0, f0, z0, hv0, ht0, _⟩ := each 0 2 tsP_0
  obtain ⟨w1, f1, z1, hv1, ht1, hb1⟩ := each 1 22 tsP_1
  obtain ⟨w2, f2, z2, hv2, ht2, hb2⟩ := each 2 23 tsP_2
  obtain ⟨w3, f3, z3, hv3, ht3, _⟩ := each 3 3 tsP_3
  obtain ⟨b0, ha0, hk0⟩ := trod_kind (fun _ => rfl) kdI ht0
  obtain ⟨b3, ha3, hk3⟩ := trod_kind (fun _ => rfl) kdJ ht3
  obtain ⟨e, rfl, he⟩ := int_in hk0
  obtain ⟨pp, rfl, _⟩ := int_in hk3
  obtain ⟨sa, A, r1, rm1, hA, hAl⟩ := bytesIn ht1 hb1
  obtain ⟨ra, X, Y, r2, rm2, hX, hXl, hY⟩ := results ht2 hb2
  have ecs : cs = #[w0, w1, w2, w3] := by
    apply Array.ext'
    apply List.ext_getElem?
    intro i
    match i with
    | 0 => exact hv0
    | 1 => exact hv1
    | 2 => exact hv2
    | 3 => exact hv3
    | n + 4 => rw [List.getElem?_eq_none (by omega), List.getElem?_eq_none (by simp)]
  refine ⟨e, pp, sa, ra, A, X, Y, ⟨[w0, w1, w2, w3], ⟨_, _, absC_rv ha0, ⟨_, _, r1, ⟨_, _, r2, ⟨_, _, absC_rv ha3, rfl, rfl⟩, rfl⟩, rfl⟩, rfl⟩, by rw [ecs]⟩, he, hA, rm1, hAl, hX, rm2, hXl, hY⟩
theorem reads (os : Os) {H : Type} (enc : TypeId × Value → H) : ∃ places, DataW.whole enc Tryz.prog ((World.laidAll Tryz.prog os laidL).forCall (fun _ _ => 0) ⟨#[], wit, []⟩).memory Tryz.f3.params.toList Rows.replayDiffersSpec.vars false wit.toList 8 = some ([.agg [.lit (.int .i64 0), .nil, .nil, .lit (.int .i64 0)], .agg [.lit (.int .i64 0), .nil, .nil, .lit (.int .i64 0)]], [], places) :=
  ⟨[], by kernel_rfl⟩
theorem door_met (os : Os) (args : Array Value) : laidMetH Tryz.prog laidL ((World.laidAll Tryz.prog os laidL).forCall (fun _ _ => 0) ⟨#[], args, []⟩).memory := by
  rw [MakeChecks.laidMetH_plain _ _ _ (by kernel_rfl)]
  exact laidMet_laidAll _ (by kernel_rfl) (by kernel_rfl)
theorem lifted (os : Os) (started : os.Started) (H : Type) (enc : TypeId × Value → H) (F : Stop.Interp) :
    ReturnsInHanded {} Tryz.checked os 3 .any ((Rows.OpenSpec.upto Rows.replayDiffersSpec).preRow enc Tryz.prog Tryz.f3 Rows.replayDiffersUptoRow.domain false Rows.replayDiffersUptoRow.laid) (((Rows.OpenSpec.upto Rows.replayDiffersSpec).at F).post enc Tryz.prog Tryz.f3 false true false false) := by
  obtain ⟨places, hx⟩ := reads os enc
  refine returnsInHanded_of_row (C := Tryz.checked) (s := Rows.OpenSpec.upto Rows.replayDiffersSpec) own started (by kernel_rfl) Tryz.func3
    (witness_row_atRef (enc := enc) (C := Tryz.checked) false (World.laidAll Tryz.prog os laidL) wit (World.laidAll_os _ _ _) (by kernel_rfl) (by kernel_rfl) (by kernel_rfl)
      (OpenSpec.preRow_of_cond 8 hx (by kernel_rfl) (fun k hk => by cases hk; kernel_rfl) (by kernel_rfl) (door_met os _))) ?_
  intro W base args ds gs before hval hW _ hcond _ hlaid _ _
  have hW' := hW
  obtain ⟨p, q, hA0, hV, rfl, _, _⟩ := hW
  have hA : DataW.TrodAll enc Tryz.prog W 0 (fun _ => true) true Tryz.f3.params.toList args.toList ds p := hA0
  rw [Tryz.params3] at hA
  obtain ⟨v0, v1, d0, d1, p0, p1, rfl, rfl, rfl, h0, h1⟩ := trodAll_two hA
  obtain ⟨rfl, rfl⟩ := trodVars_none hV
  have hbulk : Rows.uptoBulkAll [d0, d1] ≤ 1048576 := of_decide_eq_true (hcond _ rfl)
  have hb0 : Rows.uptoBulk d0 ≤ 1048576 := Nat.le_trans (bulk_part (l := [d0, d1]) (i := 0) rfl) hbulk
  have hb1 : Rows.uptoBulk d1 ≤ 1048576 := Nat.le_trans (bulk_part (l := [d0, d1]) (i := 1) rfl) hbulk
  have k0 : Value.okWide Tryz.prog W .any base 25 v0 := hval 0 25 v0 (by rw [show Tryz.checked.prog = Tryz.prog from rfl] at *; rw [Tryz.params3]; rfl) rfl
  have k1 : Value.okWide Tryz.prog W .any base 25 v1 := hval 1 25 v1 (by rw [show Tryz.checked.prog = Tryz.prog from rfl] at *; rw [Tryz.params3]; rfl) rfl
  obtain ⟨e1, q1, sa, ra, A, X, Y, g1, g2, g3, g4, g5, g6, g7, g8, g9⟩ := replica h0 hb0 k0
  obtain ⟨e2, q2, sb, rb, B, X2, Y2, j1, j2, j3, j4, j5, j6, j7, j8, j9⟩ := replica h1 hb1 k1
  refine (says W (rgL hlaid) g1 j1 (law3 (absH W) (W.heap.size + 1) e1 e2 q1 q2 sa sb ra rb A B X X2 Y Y2 g2 j2 g3 j3 g4 j4 g5 j5 g6 j6 g7 j7 g9 j9 g8 j8)).mono fun e W' ⟨he, hk⟩ => ?_
  subst he
  have hb := below_of_keeps hk
  have hlt : ∀ x ∈ p0 ++ p1, x.block < W.heap.size := fun x hx => hW'.lt x (by simpa using hx)
  have e1 : ((Rows.OpenSpec.upto Rows.replayDiffersSpec).at F).fn H ([d0, d1] ++ []) = { results := [.lit (.bool true)], args := [d0, d1] } := rfl
  refine ⟨_, rfl, _, _, _, [], p0 ++ p1, [], hW', ?_, ?_, ?_, kept_of_keeps hk _, fun h => by cases h⟩
  · rw [e1]; exact trodAll_mk1 (shut_bool Tryz.underlying4 true)
  · rw [e1]
    exact trodAll_mk2 (Below.trod laidOut (by kernel_rfl) (of_decide_eq_true (by kernel_rfl)) h0 hb fun x hx => hlt x (List.mem_append_left _ hx))
      (Below.trod laidOut (by kernel_rfl) (of_decide_eq_true (by kernel_rfl)) h1 hb fun x hx => hlt x (List.mem_append_right _ hx))
  · rw [e1]; rfl
end Go.Proofs.YtfhgiadogeephaaGreatDoor

