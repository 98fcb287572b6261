/- A part of the proof of the law ReplayAudits. CONDITIONS: those that each theorem names. -/
import Derived.Test.YtfhgiadogeephaaGreatDoorEngineA
import Derived.Test.YtfhgiadogeephaaGreatDoorEngineB
import Derived.Test.YtfhgiadogeephaaGreatDoorEngineC
import Derived.Test.YtfhgiadogeephaaGreatDoorEngineD
import Derived.Test.YtfhgiadogeephaaGreatDoorPartA
import Derived.Test.YtfhgiadogeephaaGreatDoorPartB
import Derived.Test.YtfhgiadogeephaaGreatDoorRA7
namespace Go.Proofs.YtfhgiadogeephaaGreatDoor
open Go Go.Ai
set_option maxRecDepth 100000

abbrev ksS : List CK := [.i .i64, .i .i64, .b]
theorem byS3 : bytesT Tryz.prog 104 = some 24 := by kernel_rfl
theorem byB1 : bytesT Tryz.prog 4 = some 1 := by kernel_rfl
noncomputable def fiL (m n j : Nat) : List (List AV) := (List.range n).map fun s => [.int .i64 0, .int .i64 (if s < j then (m : Int) else 0), .bool false]
theorem fiL_0 (m n : Nat) : List.replicate n [AV.int .i64 0, .int .i64 0, .bool false] = fiL m n 0 := by
  unfold fiL
  simp only [Nat.not_lt_zero, if_false, List.map_const', List.length_range]
theorem fiL_es (m n j : Nat) : ∀ x ∈ fiL m n j, x.length = 3 := fun x hx => by obtain ⟨s, _, rfl⟩ := List.mem_map.1 hx; rfl
theorem fiL_at {m n j s : Nat} (h : s < n) : (fiL m n j)[s]? = some [.int .i64 0, .int .i64 (if s < j then (m : Int) else 0), .bool false] := by simp [fiL, h]
theorem fiL_set {m n j : Nat} {x : AV} : (fiL m n j).set j ([.int .i64 0, x, .bool false].set 1 (.int .i64 (m : Int))) = fiL m n (j + 1) := by
  refine rset (by simp [show j < j + 1 by omega]) fun t _ ht => ?_
  by_cases h : t < j
  · rw [if_pos h, if_pos (by omega)]
  · rw [if_neg h, if_neg (by omega)]
theorem fiL_n (ds : List Ev) (n : Nat) : fiL ds.length n n = spL ds n 0 := by
  refine rsame (f := spC ds 0) fun t ht => ?_
  unfold spC
  simp only [if_pos ht, Nat.not_lt_zero, if_false, decide_false]
theorem enL_0 (ds : List Ev) (n : Nat) : List.replicate n false = enL ds n 0 := by
  unfold enL
  simp only [Nat.not_lt_zero, decide_false, List.map_const', List.length_range]
theorem spC_ok {ds : List Ev} {i s : Nat} (hd : ds.length ≤ 1000000) (hi : i ≤ ds.length) : cksOk ksS (spC ds i s) := by
  have e1 : IntKind.i64.min = -9223372036854775808 := by decide
  have e2 : IntKind.i64.max = 9223372036854775807 := by decide
  have a1 := ftk_le ds 1 s hi
  have a0 := ftk_le ds 0 s hi
  refine ⟨_, _, rfl, ⟨rfl, ?_⟩, _, _, rfl, ⟨rfl, ?_⟩, _, _, rfl, trivial, rfl⟩
  · split <;> omega
  · split <;> omega
theorem row_lstI {h : Heap} {F c : Nat} {ks : List CK} {L : List (List AV)} (hg : hget h (ky F c) = some (mkRow L.flatten ks.length)) (hok : ∀ x ∈ L, cksOk ks x) (hm : L.length ≤ maxLen) (hc : c ≤ 1267650600228229401496703205375) : LstI F (F + 1) h ks (.slice (ky F c) 0 0 L.length (some L.length)) L := by
  refine ⟨OwnL.lst (OwnL.new (fun x hx => (hok x hx).length) hg (.inr rfl)) hok hm, fun b o eo n cap e _ => ?_⟩
  cases e
  exact ⟨by unfold ky; omega, ky_next F c hc⟩
set_option maxHeartbeats 8000000 in
theorem spansA (h : Heap) (F : Nat) (n : Nat) (e : AV) (ds : List Ev) (hD : LstP h ksD e (evL ds)) (hn : n ≤ 1000) (hds : ds.length ≤ 1000000) :
    SndQ Tryz.prog [] 38 [.int .i64 (n : Int), e] ⟨h, F⟩ (fun o => ∃ v h', o = .val v ⟨h', F + 1⟩ ∧ LstI F (F + 1) h' ksS v (spL ds n ds.length) ∧ Low F h h' ∧ SameH h h') := by
  refine sndQ_wf fun hw => ?_
  have mxl : maxLen = 9223372036854775807 := by decide
  have lD := fun (h2 : Heap) => rLen1_L (h2 := h2) Tryz.underlying39 hD
  rw [evL_len] at lD
  have nm := fun (key : Nat) => nMS_f (P := Tryz.prog) (key := key) (n := n) sz104 byS3 zr104 rfl (by decide) (show 24 * n ≤ 1073741824 by omega) (show n ≤ 1073741824 by omega)
  have hzc : (AV.agg [.int .i64 0, .int .i64 0, .bool false]).cells = [.int .i64 0, .int .i64 0, .bool false] := rfl
  simp only [hzc, fiL_0 ds.length n] at nm
  refine sndQ_body (K := (KA A0)) ka_ok mixed noNum (m := ds.length + n + 1) Tryz.func38 ?_
  generalize hQ : retQ _ _ _ _ _ _ = Q0
  refine body_go (c := Tryz.f38.body.getD .skip) (n := 83) rfl rfl (by simp only [↓reduceIte, T.setList, T.set_e, T.set_n, Nat.reduceDiv, Nat.reduceMod, Nat.reduceEqDiff, Nat.zero_add] <;> rfl) ?_
  simp only [Tryz.f38, Option.getD_some]
  repeat' (first | refine st ?_ | ((with_reducible apply r_drawL); (focus kernel_rfl); (focus kernel_rfl); (focus (exact sd1))) | ((with_reducible (first | apply r_any | apply r_cond)); focus (simp only [↓reduceIte, clsOf, clsCall, newBlk, allocOp, Fr.ev, ofV, ofA, ofS, put_mk, upd_mk, keyOf_mk, pureOp, readOp, List.getElem?_cons_zero, Nat.zero_add, Nat.reduceAdd, Nat.reduceLT, Nat.reduceEqDiff, Nat.reduceSub, stepOp, stV_mk, stB_mk, T.get_n, T.set_n, T.set_e, Nat.reduceDiv, Nat.reduceMod, Tryz.underlying101, stepAny, wantedA_none, rCall, rLen, rLen1_sl, lenA, nm] <;> rfl)))
  refine r_loopE (j := 0) (R := fun fr s1 => ∃ lc tt h1 cl, fr = ⟨F, lc, 83, tt, [], .no⟩ ∧ s1 = ⟨h1, F + 1⟩ ∧ lc ≤ 100000000000000000000001000 ∧ Low F h h1 ∧ hget h1 (ky F cl) = some (mkRow (spL ds n 0).flatten 3) ∧ cl < lc ∧ tt.get 0 = some (.int .i64 (n : Int)) ∧ tt.get 1 = some e ∧ tt.get 5 = some (.slice (ky F cl) 0 0 n (some n))) (I := fun nn fr s1 => ∃ lc tt h1 i cl, fr = ⟨F, lc, 83, tt, [], .no⟩ ∧ s1 = ⟨h1, F + 1⟩ ∧ i ≤ n ∧ nn = n - i ∧ lc + nn * 1000 ≤ 100000000000000000000000000 ∧ Low F h h1 ∧ hget h1 (ky F cl) = some (mkRow (fiL ds.length n i).flatten 3) ∧ cl < lc ∧ tt.get 0 = some (.int .i64 (n : Int)) ∧ tt.get 1 = some e ∧ tt.get 5 = some (.slice (ky F cl) 0 0 n (some n)) ∧ tt.get 14 = some (.int .i64 (n : Int)) ∧ tt.get 15 = some (.int .i64 (i : Int))) (n := n) ?_ ?_ ?_ ?_
  · omega
  · exact ⟨_, _, _, 0, 2, rfl, rfl, Nat.zero_le _, (Nat.sub_zero _).symm, by omega, (Low.refl F h).set (Nat.le_refl F), by rw [hget_hset, if_pos rfl], by omega, sd8, sd8, sd8, sd8, sd8⟩
  · rintro nn fr s1 ⟨lc, tt, h1, i, cl, rfl, rfl, hi, rfl, hlc, hlow, hrow, hcl, u0, u1, u5, u14, u15⟩
    by_cases hil : i < n
    · have w1 := fun (h3 : Heap) => wr_f (h := h3) (id := ky F cl) (o := 1) (v := .int .i64 (ds.length : Int)) (fiL_es ds.length n i) (fiL_at hil) (e2 := 3) (by decide) rfl
      rw [fiL_set] at w1
      repeat' (first | refine st ?_ | ((with_reducible apply r_drawL); (focus kernel_rfl); (focus kernel_rfl); (focus (exact sd1))) | ((with_reducible (first | apply r_any | apply r_cond)); focus (simp only [↓reduceIte, clsOf, clsCall, Fr.ev, ofV, ofA, ofS, AV.cells, put_mk, put_none, pureOp, readOp, pFA, pFA1, pFA2, pBin, binA, intOp_lss, List.length_cons, List.length_nil, List.getElem?_cons_zero, List.getElem?_cons_succ, Nat.zero_add, Nat.reduceLT, Nat.reduceEqDiff, Nat.add_eq, aSt_w, stOut_s, actOp, binA, stepOp, stHeavy, stV_mk, stO_mk, sz3, Tryz.underlying104, stepAny, wantedA_none, rCall, rLen, Tget_set, u14, u15, lD, lt_t hil, pIA_s Tryz.underlying101 sz104 hil, hrow, w1, intOp_add (show inR ((i : Int) + 1) by unfold inR; omega)] <;> rfl)))
      exact r_rq_n (k := n - (i + 1)) (by omega) ⟨_, _, _, i + 1, cl, rfl, rfl, by omega, rfl, by omega, hlow.set (Nat.le_refl F), by rw [hget_hset, if_pos rfl], by omega, sd8, sd8, sd8, sd8, sd8⟩
    · repeat' (first | refine st ?_ | ((with_reducible apply r_drawL); (focus kernel_rfl); (focus kernel_rfl); (focus (exact sd1))) | ((with_reducible (first | apply r_any | apply r_cond)); focus (simp only [↓reduceIte, clsOf, Fr.ev, put_mk, pureOp, pBin, binA, intOp_lss, Nat.reduceLT, binA, stepOp, stV_mk, stepAny, wantedA_none, u14, u15, lt_f hil] <;> rfl)))
      have hend : i = n := by omega
      subst hend
      rw [fiL_n] at hrow
      exact exit_at ⟨_, _, _, cl, rfl, rfl, by omega, hlow, hrow, by omega, sd8, sd8, sd8⟩
  rintro fr s1 ⟨lc0, tt, h0, cl, rfl, rfl, hlc0, hlow0, hrow0, hcl0, u0, u1, u5⟩
  have nmb := fun (key : Nat) => nMS_b (P := Tryz.prog) (key := key) (n := n) sz4 byB1 zr4 (show 1 * n ≤ 1073741824 by omega) (show n ≤ 1073741824 by omega)
  rw [enL_0 ds n] at nmb
  repeat' (first | refine st ?_ | ((with_reducible apply r_drawL); (focus kernel_rfl); (focus kernel_rfl); (focus (exact sd1))) | ((with_reducible (first | apply r_any | apply r_cond)); focus (simp only [↓reduceIte, clsOf, clsCall, newBlk, allocOp, Fr.ev, ofV, ofA, ofS, put_mk, upd_mk, keyOf_mk, pureOp, readOp, List.getElem?_cons_zero, Nat.zero_add, Nat.reduceLT, stepOp, stV_mk, stB_mk, Tryz.underlying83, stepAny, wantedA_none, rCall, rLen, Tget_set, nmb, lD] <;> rfl)))
  refine r_loop (I := fun nn fr s1 => ∃ lc tt h1 i cl ce, fr = ⟨F, lc, 83, tt, [], .no⟩ ∧ s1 = ⟨h1, F + 1⟩ ∧ i ≤ ds.length ∧ nn = ds.length - i ∧ lc + nn * 1000 ≤ 1000000000000000000000000000 ∧ cl < lc ∧ ce < lc ∧ cl ≠ ce ∧ Low F h h1 ∧ hget h1 (ky F cl) = some (mkRow (spL ds n i).flatten 3) ∧ hget h1 (ky F ce) = some (bRow (enL ds n i)) ∧ tt.get 0 = some (.int .i64 (n : Int)) ∧ tt.get 1 = some e ∧ tt.get 5 = some (.slice (ky F cl) 0 0 n (some n)) ∧ tt.get 7 = some (.slice (ky F ce) 0 0 n (some n)) ∧ tt.get 27 = some e ∧ tt.get 28 = some (.int .i64 (ds.length : Int)) ∧ tt.get 29 = some (.int .i64 (i : Int))) (n := ds.length) ?_ ?_ ?_
  · omega
  · exact ⟨_, _, _, 0, cl, lc0 + 1, rfl, rfl, Nat.zero_le _, (Nat.sub_zero _).symm, by omega, by omega, by omega, by omega, hlow0.set (Nat.le_refl F), by rw [hget_hset, if_neg (by rw [ky_inj]; omega)]; exact hrow0, by rw [hget_hset, if_pos rfl], sd8, sd8, sd8, sd8, sd8, sd8, sd8⟩
  rintro nn fr s1 ⟨lc, tt, h1, i, cl, ce, rfl, rfl, hi, rfl, hlc, hcl, hce, hne, hlow, hrow, hen, u0, u1, u5, u7, u27, u28, u29⟩
  have hS := hlow.same hw
  by_cases hil : i < ds.length
  rotate_left
  · have hend : i = ds.length := by omega
    repeat' (first | refine st ?_ | ((with_reducible apply r_drawL); (focus kernel_rfl); (focus kernel_rfl); (focus (exact sd1))) | ((with_reducible (first | apply r_any | apply r_cond)); focus (simp only [↓reduceIte, clsOf, Fr.ev, put_mk, pureOp, pBin, binA, intOp_lss, Nat.reduceLT, binA, stepOp, stV_mk, stepAny, wantedA_none, u28, u29, lt_f hil] <;> rfl)))
    subst hQ
    refine ret_back (by simp only [Tryz.results38, resultOf, resultsA, resultA, List.toList_toArray, Fr.ev, Tget_set, ↓reduceIte] <;> rfl) ?_
    subst hend
    have hl := row_lstI (ks := ksS) hrow (fun x hx => by obtain ⟨s, _, rfl⟩ := List.mem_map.1 hx; exact spC_ok hds (Nat.le_refl _)) (by rw [spL_len]; omega) (by omega)
    rw [spL_len] at hl
    exact ⟨_, _, rfl, hl, hlow, hS⟩
  obtain ⟨d, hd⟩ : ∃ d, ds[i]? = some d := ⟨ds[i], by simp⟩
  obtain ⟨b, o, eo, cap, rfl, hb, r0, r1, r2⟩ := ev_at hw hD hS hd
  have ad := intOp_add (P := Tryz.prog) (t := 3) (show inR ((i : Int) + 1) by unfold inR; omega)
  have a1 : (cl = lc + 1 + 3) = False := eq_false (by omega)
  have a2 : (ce = lc + 1 + 3) = False := eq_false (by omega)
  have a3 : (lc + 1 + 3 = cl) = False := eq_false (by omega)
  have a4 : (lc + 1 + 3 = ce) = False := eq_false (by omega)
  have ne1 : (cl = ce) = False := eq_false hne
  have ne2 : (ce = cl) = False := eq_false (Ne.symm hne)
  by_cases hnm : 0 ≤ d.seq ∧ d.seq < (n : Int)
  rotate_left
  · have hf : (decide (0 ≤ d.seq) && decide (d.seq < (n : Int))) = false := by
      rw [Bool.and_eq_false_iff, decide_eq_false_iff_not, decide_eq_false_iff_not]
      omega
    have hs0 : True := trivial
    have hsm := spL_same (n := n) hd fun t ht e => absurd ⟨by omega, by omega⟩ hnm
    repeat' (first | refine st ?_ | ((with_reducible apply r_drawL); (focus kernel_rfl); (focus kernel_rfl); (focus (exact sd1))) | ((with_reducible (first | apply r_any | apply r_cond)); focus (simp only [↓reduceIte, Bool.not_false, clsOf, clsCall, newBlk, allocOp, Fr.ev, evs, ofV, ofA, ofS, nVar, AV.cells, rowOf_mk, put_mk, put_none, upd_mk, keyOf_mk, pureOp, readOp, pFA, pFA1, pFA2, rLd, rdAB_row, oneCell_one, someAgg_s, hget_same, pBin, binA, intOp_lss, List.length_cons, List.length_nil, List.getElem?_cons_zero, List.getElem?_cons_succ, List.drop_zero, List.drop_succ_cons, List.take_succ_cons, List.take_zero, Nat.zero_add, Nat.reduceAdd, Nat.reduceLT, Nat.reduceLeDiff, Nat.reduceEqDiff, and_self, Nat.add_eq, loadA_w, loadW_a, loadW_s, aSt_w, stOut_s, wrAB_row, ovr, List.set_cons_zero, List.set_cons_succ, allCell, ic_i, pUn_not, callTo_s, heavyCall, target, actOp, List.nil_append, List.append_nil, binA, stepOp, stHeavy, stV_mk, stB_mk, stO_mk, sz2, ag2, sz89, ag89, zr89, tg89, Tryz.underlying89, stepAny, wantedA_none, Tget_set, u27, u28, u29, lt_t hil, pIA_s Tryz.underlying39 sz89 hil, r0, k_named, hf, ad] <;> rfl)))
    exact r_rq_n (k := ds.length - (i + 1)) (by omega) ⟨_, _, _, i + 1, cl, ce, rfl, rfl, by omega, rfl, by omega, by omega, by omega, hne, by repeat (first | exact hlow | refine Low.set ?_ (Nat.le_refl F)), by simp only [hget_hset_ite, ky_inj, a1, ↓reduceIte]; rw [hsm.1]; exact hrow, by simp only [hget_hset_ite, ky_inj, a2, ↓reduceIte]; rw [hsm.2]; exact hen, sd8, sd8, sd8, sd8, sd8, sd8, sd8⟩
  obtain ⟨s, hs⟩ : ∃ s : Nat, d.seq = (s : Int) := ⟨d.seq.toNat, by omega⟩
  have hsn : s < n := by omega
  have hs0 : True := trivial
  have hf : (decide (0 ≤ (s : Int)) && decide ((s : Int) < (n : Int))) = true := by
    rw [Bool.and_eq_true, decide_eq_true_iff, decide_eq_true_iff]
    omega
  rw [hs] at r0 r1
  have rs2 : rdAB (some (mkRow (spL ds n i).flatten 3)) (s * 3 + 2) 1 = some [.bool (decide (ftk ds 1 i s < i))] := rd_f (spL_es ds n i) (spL_at hsn) (by decide)
  have re : rdAB (some (bRow (enL ds n i))) (s * 1) 1 = some [.bool (decide (ftk ds 0 i s < i))] := rd_b (enL_at hsn)
  have esn : s < (enL ds n i).length := by rw [enL_len]; exact hsn
  by_cases h1p : d.phase = 1
  · have e1 : (d.phase == 1) = true := beq_iff_eq.2 h1p
    have e2 : (d.phase == 0) = false := beq_eq_false_iff_ne.2 (by omega)
    by_cases htk : ftk ds 1 i s < i
    · have hsm := spL_same (n := n) hd fun t ht e => ⟨fun k => k.2 (by rw [show t = s by omega]; exact htk), fun k => by omega⟩
      rw [decide_eq_true htk] at rs2
      repeat' (first | refine st ?_ | ((with_reducible apply r_drawL); (focus kernel_rfl); (focus kernel_rfl); (focus (exact sd1))) | ((with_reducible (first | apply r_any | apply r_cond)); focus (simp only [↓reduceIte, wantedA_eq, gBool_t, Bool.not_true, clsOf, clsCall, newBlk, allocOp, Fr.ev, evs, ofV, ofA, ofS, nVar, AV.cells, rowOf_mk, put_mk, put_none, upd_mk, keyOf_mk, ky_inj, pureOp, readOp, pFA, pFA1, pFA2, rLd, rdAB_row, oneCell_one, someAgg_s, hget_same, hget_hset_ite, pBin, binA, intOp_eql, intOp_lss, pPick, List.length_cons, List.length_nil, List.getElem?_cons_zero, List.getElem?_cons_succ, List.drop_zero, List.drop_succ_cons, List.take_succ_cons, List.take_zero, Nat.zero_add, Nat.reduceAdd, Nat.reduceLT, Nat.reduceLeDiff, Nat.reduceEqDiff, and_self, Nat.add_eq, loadA_w, loadW_a, loadW_s, aSt_w, stOut_s, wrAB_row, ovr, List.set_cons_zero, List.set_cons_succ, allCell, ic_i, pUn_not, callTo_s, heavyCall, target, actOp, List.nil_append, List.append_nil, pNil, binA, stepOp, stHeavy, stV_mk, stB_mk, stO_mk, sz2, ag2, sz3, ag3, sz4, ag4, sz89, ag89, zr89, tg89, Tryz.underlying89, Tryz.underlying104, stepAny, wantedA_none, Tget_set, u27, u28, u29, lt_t hil, pIA_s Tryz.underlying39 sz89 hil, r0, k_named, hf, pIA_s Tryz.underlying101 sz104 hsn, hrow, rs2, e1, e2, a1, ad] <;> rfl)))
      exact r_rq_n (k := ds.length - (i + 1)) (by omega) ⟨_, _, _, i + 1, cl, ce, rfl, rfl, by omega, rfl, by omega, by omega, by omega, hne, by repeat (first | exact hlow | refine Low.set ?_ (Nat.le_refl F)), by simp only [hget_hset_ite, ky_inj, a1, ↓reduceIte]; rw [hsm.1]; exact hrow, by simp only [hget_hset_ite, ky_inj, a2, ↓reduceIte]; rw [hsm.2]; exact hen, sd8, sd8, sd8, sd8, sd8, sd8, sd8⟩
    · have hsm := spL_take (n := n) hd hs h1p htk
      rw [decide_eq_false htk] at rs2
      have w0 := fun (h3 : Heap) => wr_f (h := h3) (id := ky F cl) (o := 0) (v := .int .i64 (i : Int)) (spL_es ds n i) (spL_at hsn) (e2 := 3) (by decide) rfl
      rw [Nat.add_zero] at w0
      have w2 := fun (h3 : Heap) => wr_f (h := h3) (id := ky F cl) (o := 2) (v := .bool true) (X := (spL ds n i).set s ((spC ds i s).set 0 (.int .i64 (i : Int)))) (x := (spC ds i s).set 0 (.int .i64 (i : Int))) (set_es (spL_es ds n i) rfl) (by rw [List.getElem?_set, if_pos rfl, if_pos (by rw [spL_len]; exact hsn)]) (e2 := 3) (by decide) rfl
      rw [List.set_set, hsm.1] at w2
      repeat' (first | refine st ?_ | ((with_reducible apply r_drawL); (focus kernel_rfl); (focus kernel_rfl); (focus (exact sd1))) | ((with_reducible (first | apply r_any | apply r_cond)); focus (simp only [↓reduceIte, Bool.not_true, Bool.not_false, clsOf, clsCall, newBlk, allocOp, Fr.ev, evs, ofV, ofA, ofS, nVar, AV.cells, rowOf_mk, put_mk, put_none, upd_mk, keyOf_mk, ky_inj, pureOp, readOp, pFA, pFA1, pFA2, rLd, rdAB_row, oneCell_one, someAgg_s, hget_same, hget_hset_ite, pBin, binA, intOp_eql, intOp_lss, pPick, List.length_cons, List.length_nil, List.getElem?_cons_zero, List.getElem?_cons_succ, List.drop_zero, List.drop_succ_cons, List.take_succ_cons, List.take_zero, Nat.zero_add, Nat.add_zero, Nat.reduceAdd, Nat.reduceLT, Nat.reduceLeDiff, Nat.reduceEqDiff, and_self, Nat.add_eq, loadA_w, loadW_a, loadW_s, aSt_w, stOut_s, wrAB_row, ovr, List.set_cons_zero, List.set_cons_succ, allCell, ic_i, pUn_not, callTo_s, heavyCall, target, actOp, List.nil_append, List.append_nil, pNil, binA, stepOp, stHeavy, stV_mk, stB_mk, stO_mk, sz2, ag2, sz3, ag3, sz4, ag4, sz89, ag89, zr89, tg89, Tryz.underlying89, Tryz.underlying104, stepAny, wantedA_none, Tget_set, u27, u28, u29, lt_t hil, pIA_s Tryz.underlying39 sz89 hil, r0, k_named, hf, pIA_s Tryz.underlying101 sz104 hsn, hrow, rs2, e1, w0, w2, a1, ad] <;> rfl)))
      exact r_rq_n (k := ds.length - (i + 1)) (by omega) ⟨_, _, _, i + 1, cl, ce, rfl, rfl, by omega, rfl, by omega, by omega, by omega, hne, by repeat (first | exact hlow | refine Low.set ?_ (Nat.le_refl F)), by simp only [hget_hset_ite, ↓reduceIte]; skip, by simp only [hget_hset_ite, ky_inj, a2, ne2, ↓reduceIte]; rw [hsm.2]; exact hen, sd8, sd8, sd8, sd8, sd8, sd8, sd8⟩
  · have e1 : (d.phase == 1) = false := beq_eq_false_iff_ne.2 h1p
    by_cases h0p : d.phase = 0
    · have e2 : (d.phase == 0) = true := beq_iff_eq.2 h0p
      by_cases hrl : ftk ds 0 i s < i
      · have hsm := spL_same (n := n) hd fun t ht e => ⟨fun k => by omega, fun k => k.2 (by rw [show t = s by omega]; exact hrl)⟩
        rw [decide_eq_true hrl] at re
        repeat' (first | refine st ?_ | ((with_reducible apply r_drawL); (focus kernel_rfl); (focus kernel_rfl); (focus (exact sd1))) | ((with_reducible (first | apply r_any | apply r_cond)); focus (simp only [↓reduceIte, wantedA_eq, gBool_t, Bool.not_true, clsOf, clsCall, newBlk, allocOp, Fr.ev, evs, ofV, ofA, ofS, nVar, AV.cells, rowOf_mk, put_mk, put_none, upd_mk, keyOf_mk, ky_inj, pureOp, readOp, pFA, pFA1, pFA2, rLd, rdAB_row, oneCell_one, someAgg_s, hget_same, hget_hset_ite, pBin, binA, intOp_eql, intOp_lss, pPick, List.length_cons, List.length_nil, List.getElem?_cons_zero, List.getElem?_cons_succ, List.drop_zero, List.drop_succ_cons, List.take_succ_cons, List.take_zero, Nat.zero_add, Nat.reduceAdd, Nat.reduceLT, Nat.reduceLeDiff, Nat.reduceEqDiff, and_self, Nat.add_eq, loadA_w, loadW_a, loadW_s, aSt_w, stOut_s, wrAB_row, ovr, List.set_cons_zero, List.set_cons_succ, allCell, ic_i, pUn_not, callTo_s, heavyCall, target, actOp, List.nil_append, List.append_nil, binA, stepOp, stHeavy, stV_mk, stB_mk, stO_mk, sz2, ag2, sz3, ag3, sz4, ag4, sz89, ag89, zr89, tg89, Tryz.underlying89, stepAny, wantedA_none, Tget_set, u27, u28, u29, lt_t hil, pIA_s Tryz.underlying39 sz89 hil, r0, k_named, hf, pIA_s Tryz.underlying101 sz104 hsn, pIA_s Tryz.underlying83 sz4 hsn, hen, re, e1, e2, a2, ad] <;> rfl)))
        exact r_rq_n (k := ds.length - (i + 1)) (by omega) ⟨_, _, _, i + 1, cl, ce, rfl, rfl, by omega, rfl, by omega, by omega, by omega, hne, by repeat (first | exact hlow | refine Low.set ?_ (Nat.le_refl F)), by simp only [hget_hset_ite, ky_inj, a1, ↓reduceIte]; rw [hsm.1]; exact hrow, by simp only [hget_hset_ite, ky_inj, a2, ↓reduceIte]; rw [hsm.2]; exact hen, sd8, sd8, sd8, sd8, sd8, sd8, sd8⟩
      · have hsm := spL_rel (n := n) hd hs h0p hrl
        rw [decide_eq_false hrl] at re
        have w0 := fun (h3 : Heap) => wr_f (h := h3) (id := ky F cl) (o := 1) (v := .int .i64 (i : Int)) (spL_es ds n i) (spL_at hsn) (e2 := 3) (by decide) rfl
        rw [hsm.1] at w0
        have w2 := fun (h3 : Heap) => wr_b (h := h3) (id := ky F ce) (v := true) esn
        rw [hsm.2] at w2
        repeat' (first | refine st ?_ | ((with_reducible apply (r_drawG (js := [(0, 0), (1, 0), (2, 0), (3, 4), (4, 0), (5, 17), (6, 49), (7, 113), (8, 255), (9, 511)]))); (focus kernel_rfl); (focus kernel_rfl); (focus (exact sd1))) | ((with_reducible apply g_end); (focus (simp only [List.length_cons, List.length_nil, Nat.add_assoc, Nat.reduceAdd, Nat.zero_add] <;> rfl)); simp only [withH_mk, addAll_nil, withH_mk, addAll_nil]) | ((with_reducible apply g_undef); (focus rfl); (focus (simp only [wantedA_none] <;> rfl)); (focus (exact sd6))) | ((with_reducible apply g_pure); (focus rfl); (focus rfl); (focus rfl); (focus (simp only [↓reduceIte, Fr.ev, pureOp, pFA, pFA1, pFA2, List.getElem?_cons_zero, List.getElem?_cons_succ, Nat.zero_add, Nat.reduceEqDiff, Nat.add_eq, pNil, sz2, sz3, Tryz.underlying89, Tryz.underlying104, Tget_set, u7, pIA_s Tryz.underlying83 sz4 hsn] <;> rfl)); (focus (exact sd6))) | ((with_reducible apply g_read); (focus rfl); (focus rfl); (focus rfl); (focus (simp only [↓reduceIte, Fr.ev, readOp, rLd, rdAB_row, oneCell_one, hget_same, List.length_cons, List.length_nil, List.drop_zero, List.drop_succ_cons, List.take_succ_cons, List.take_zero, Nat.zero_add, Nat.reduceAdd, Nat.reduceLeDiff, loadA_w, loadW_s, sz2, ag2, Tget_set, addMade_nil] <;> rfl)); (focus (exact sd6))) | ((with_reducible apply g_act); (focus rfl); (focus rfl); (focus rfl); (focus rfl); (focus (simp only [heavy, ↓reduceIte, Fr.ev, ofV, ofA, ofS, AV.cells, withH_mk, ky_inj, hget_hset_ite, List.length_cons, List.length_nil, Nat.zero_add, Nat.reduceEqDiff, aSt_w, stOut_s, actOp, sz3, sz4, Tget_set, addMade_nil, hrow, hen, w0, w2, a1, a2, ne2] <;> rfl)); (focus (exact sd6)); (focus (simp only [↓reduceIte, Fr.ev, ky_inj, readOp, rLd, rdAB_row, oneCell_one, hget_same, hget_hset_ite, List.length_cons, List.length_nil, List.drop_zero, List.drop_succ_cons, List.take_succ_cons, List.take_zero, Nat.zero_add, Nat.reduceAdd, Nat.reduceLeDiff, Nat.reduceEqDiff, loadA_w, loadW_s, decide_true, decide_false, Nat.reduceDiv, Nat.reduceMod, sz2, ag2, Tget_set, Nat.testBit_eq_decide_div_mod_eq, Nat.reducePow, addMade_nil, readsLeft_nil, readsLeft_cons, rdl1_t, rdl1_f, readsOk_nil, readsOk_cons, rok1_s, av_int, Bool.and_self, a3] <;> rfl)); (focus (simp only [addMade_nil, asideOk_nil] <;> rfl))) | ((with_reducible apply r_drawL); (focus kernel_rfl); (focus kernel_rfl); (focus (exact sd1))) | ((with_reducible (first | apply r_any | apply r_cond)); focus (simp only [↓reduceIte, wantedA_eq, gBool_t, Bool.not_true, Bool.not_false, clsOf, clsCall, newBlk, allocOp, Fr.ev, evs, ofV, ofA, ofS, nVar, AV.cells, rowOf_mk, put_mk, put_none, upd_mk, keyOf_mk, ky_inj, pureOp, readOp, pFA, pFA1, pFA2, rLd, rdAB_row, oneCell_one, someAgg_s, hget_same, hget_hset_ite, pBin, binA, intOp_eql, intOp_lss, pPick, List.length_cons, List.length_nil, List.getElem?_cons_zero, List.getElem?_cons_succ, List.drop_zero, List.drop_succ_cons, List.take_succ_cons, List.take_zero, Nat.zero_add, Nat.reduceAdd, Nat.reduceLT, Nat.reduceLeDiff, Nat.reduceEqDiff, and_self, Nat.add_eq, loadA_w, loadW_a, loadW_s, aSt_w, stOut_s, wrAB_row, ovr, List.set_cons_zero, List.set_cons_succ, allCell, ic_i, pUn_not, callTo_s, heavyCall, target, actOp, List.nil_append, List.append_nil, binA, stepOp, stHeavy, stV_mk, stB_mk, stO_mk, sz2, ag2, sz3, ag3, sz4, ag4, sz89, ag89, zr89, tg89, Tryz.underlying89, stepAny, wantedA_none, Tget_set, u27, u28, u29, lt_t hil, pIA_s Tryz.underlying39 sz89 hil, r0, k_named, hf, pIA_s Tryz.underlying101 sz104 hsn, pIA_s Tryz.underlying83 sz4 hsn, hen, re, e1, e2, a2, ad] <;> rfl)))
        exact r_rq_n (k := ds.length - (i + 1)) (by omega) ⟨_, _, _, i + 1, cl, ce, rfl, rfl, by omega, rfl, by omega, by omega, by omega, hne, by repeat (first | exact hlow | refine Low.set ?_ (Nat.le_refl F)), by simp only [hget_hset_ite, ky_inj, ne1, ↓reduceIte]; skip, by simp only [hget_hset_ite, ↓reduceIte]; skip, sd8, sd8, sd8, sd8, sd8, sd8, sd8⟩
    · have e2 : (d.phase == 0) = false := beq_eq_false_iff_ne.2 h0p
      have hsm := spL_same (n := n) hd fun t ht e => ⟨fun k => h1p k.1, fun k => h0p k.1⟩
      repeat' (first | refine st ?_ | ((with_reducible apply r_drawL); (focus kernel_rfl); (focus kernel_rfl); (focus (exact sd1))) | ((with_reducible (first | apply r_any | apply r_cond)); focus (simp only [↓reduceIte, wantedA_eq, gBool_t, Bool.not_true, clsOf, clsCall, newBlk, allocOp, Fr.ev, evs, ofV, ofA, ofS, nVar, AV.cells, rowOf_mk, put_mk, put_none, upd_mk, keyOf_mk, pureOp, readOp, pFA, pFA1, pFA2, rLd, rdAB_row, oneCell_one, someAgg_s, hget_same, pBin, binA, intOp_eql, intOp_lss, pPick, List.length_cons, List.length_nil, List.getElem?_cons_zero, List.getElem?_cons_succ, List.drop_zero, List.drop_succ_cons, List.take_succ_cons, List.take_zero, Nat.zero_add, Nat.reduceAdd, Nat.reduceLT, Nat.reduceLeDiff, Nat.reduceEqDiff, and_self, Nat.add_eq, loadA_w, loadW_a, loadW_s, aSt_w, stOut_s, wrAB_row, ovr, List.set_cons_zero, List.set_cons_succ, allCell, ic_i, pUn_not, callTo_s, heavyCall, target, actOp, List.nil_append, List.append_nil, binA, stepOp, stHeavy, stV_mk, stB_mk, stO_mk, sz2, ag2, sz3, ag3, sz89, ag89, zr89, tg89, Tryz.underlying89, stepAny, wantedA_none, Tget_set, u27, u28, u29, lt_t hil, pIA_s Tryz.underlying39 sz89 hil, r0, k_named, hf, pIA_s Tryz.underlying101 sz104 hsn, e1, e2, ad] <;> rfl)))
      exact r_rq_n (k := ds.length - (i + 1)) (by omega) ⟨_, _, _, i + 1, cl, ce, rfl, rfl, by omega, rfl, by omega, by omega, by omega, hne, by repeat (first | exact hlow | refine Low.set ?_ (Nat.le_refl F)), by simp only [hget_hset_ite, ky_inj, a1, ↓reduceIte]; rw [hsm.1]; exact hrow, by simp only [hget_hset_ite, ky_inj, a2, ↓reduceIte]; rw [hsm.2]; exact hen, sd8, sd8, sd8, sd8, sd8, sd8, sd8⟩

end Go.Proofs.YtfhgiadogeephaaGreatDoor

namespace Go.Proofs.YtfhgiadogeephaaGreatDoor
open Go Go.Ai
set_option maxRecDepth 100000

abbrev ks1 : List CK := [.i .i64]
theorem int_at {h h1 : Heap} {F : Nat} {a : AV} {zs : List Int} (hw : Wf ⟨h, F⟩) (hl : LstP h ks1 a (iL zs)) (hs : SameH h h1) {i : Nat} {v : Int} (hi : zs[i]? = some v) : ∃ b o eo cap, a = .slice b o eo zs.length cap ∧ b < ky F 0 ∧ rdAB (hget h1 b) (o + i * 1) 1 = some [.int .i64 v] := by
  have hil := (List.getElem?_eq_some_iff.1 hi).1
  obtain ⟨b, o, eo, cap, e, h0, hp⟩ := hl.at (show i < (iL zs).length by rw [iL_len]; exact hil)
  have : (iL zs)[i]'(by rw [iL_len]; exact hil) = [.int .i64 v] := by
    rw [List.getElem?_eq_getElem hil] at hi
    simp only [iL, List.getElem_map, Option.some.inj hi]
  rw [this] at h0
  rw [iL_len] at e
  exact ⟨b, o, eo, cap, e, rd_low hw h0, hs.rd h0⟩
theorem row0 {h : Heap} {F c k n eo : Nat} {cap : Option Nat} {L : List (List AV)} (g : GrA h F c 1 (.slice k 0 eo n cap) L) : k = ky F c ∧ n = L.length ∧ hget h (ky F c) = some (mkRow L.flatten 1) := by
  rcases g with ⟨h1, _⟩ | ⟨_, pre, h1, _, h3⟩
  · cases h1
  · have hp : pre = [] := by
      rcases h3 with h3 | ⟨eo', h3⟩
      · injection h3 with _ a1 a2 a3 a4; exact List.length_eq_zero_iff.1 (by omega)
      · injection h3 with _ a1 a2 a3 a4; exact List.length_eq_zero_iff.1 (by omega)
    subst hp
    rcases h3 with h3 | ⟨eo', h3⟩
    · injection h3 with a0 a1 a2 a3 a4; exact ⟨a0, a3, by simpa using h1⟩
    · injection h3 with a0 a1 a2 a3 a4; exact ⟨a0, a3, by simpa using h1⟩
theorem iL_rep (n : Nat) (x : Int) : iL (List.replicate (n + 1) x) = iL (List.replicate n x) ++ iL [x] := by
  rw [← iL_app, ← List.replicate_succ']
theorem byI6 : bytesT Tryz.prog 2 = some 8 := by kernel_rfl
theorem zoI6 : zeroOk Tryz.prog 2 1 8 = true := by kernel_rfl
theorem nBS_I6 {key : Nat} {x : Int} : nBS Tryz.prog key 1 (some (.slice 2)) (some [(0, .int .i64 x)]) = some (.slice key 0 0 1 (some 1), mkRow [.int .i64 x] 1) := nBS_int sz2 zr2
/-- books of a frame A -/
def BkP (A : Nat) (h : Heap) (p : AV) (n : Nat) (b : Bk) : Prop := ∃ k c1 c2 c3 c4 c5 s1 s2, p = .ptr (ky A k) 0 ∧ hget h (ky A k) = some (mkRow [s1, s2, .slice (ky A c3) 0 0 n (some n), .slice (ky A c4) 0 0 n (some n), .slice (ky A c5) 0 0 n (some n)] 0) ∧ RowA h (ky A c1) s1 (ints b.ph) ∧ RowA h (ky A c2) s2 (ints b.hs) ∧ hget h (ky A c3) = some (aRow (bools b.fu)) ∧ hget h (ky A c4) = some (aRow (bools b.ta)) ∧ hget h (ky A c5) = some (aRow (bools b.re)) ∧ [k, c1, c2, c3, c4, c5].Nodup ∧ ∀ c ∈ [k, c1, c2, c3, c4, c5], c ≤ 1267650600228229401496703205375
theorem row_of {h : Heap} {F c i : Nat} {s : AV} {x : Int} (hg : GrA h F c 1 s (iL (List.replicate i x))) (hs : s = .nils ∧ i = 0 ∨ s = .slice (ky F c) 0 0 i none) : RowA h (ky F c) s (ints (List.replicate i x)) := by
  rcases hs with ⟨rfl, rfl⟩ | rfl
  · exact .inl ⟨rfl, rfl⟩
  · obtain ⟨_, h2, h3⟩ := row0 hg
    rw [iL_flat] at h3
    exact RowA.new (by rw [ints_len, List.length_replicate]) h3
set_option maxHeartbeats 16000000 in
theorem beginA (hh : Heap) (F : Nat) (n : Nat) (w : Int) (fu : AV) (full : List Int) (hF : LstP hh ks1 fu (iL full)) (hn : n ≤ 1000) (hwn : w ≤ 1000) (hfl : full.length ≤ 1000000) :
    SndQ Tryz.prog [] 36 [.int .i64 (n : Int), .int .i64 w, fu] ⟨hh, F⟩ (fun o => ∃ v h', o = .val v ⟨h', F + 1⟩ ∧ BkP F h' v n (beginB n w.toNat full) ∧ Low F hh h' ∧ SameH hh h') := by
  have mxl : maxLen = 9223372036854775807 := by decide
  refine sndQ_wf fun hwf => sndQ_clean fun h hw hlow0 hcl => ?_
  have hF0 : LstP h ks1 fu (iL full) := hF.same (hlow0.same hwf)
  have lF := fun (h2 : Heap) => rLen1_L (h2 := h2) Tryz.underlying38 hF0
  rw [iL_len] at lF
  have nmb := fun (key : Nat) => nMS_b (P := Tryz.prog) (key := key) (n := n) sz4 byB1 zr4 (show 1 * n ≤ 1073741824 by omega) (show n ≤ 1073741824 by omega)
  have bre : bRow (List.replicate n false) = aRow (bools (List.replicate n false)) := rfl
  simp only [bre] at nmb
  have cl := fun (c : Nat) => hcl (ky F c) (ky_le F c)
  refine sndQ_body (K := (KA A0)) ka_ok mixed noNum (m := w.toNat + full.length + 1) Tryz.func36 ?_
  generalize hQ : retQ _ _ _ _ _ _ = Q0
  refine body_go (c := Tryz.f36.body.getD .skip) (n := 70) rfl rfl (by simp only [↓reduceIte, T.setList, T.set_e, T.set_n, Nat.reduceDiv, Nat.reduceMod, Nat.reduceEqDiff, Nat.reduceSub, Nat.reduceAdd, Nat.zero_add] <;> rfl) ?_
  simp only [Tryz.f36, Option.getD_some]
  repeat' (first | refine st ?_ | ((with_reducible apply (r_drawG (id := 1) (js := [(0, 0), (1, 1), (2, 0), (3, 4), (4, 0), (5, 16), (6, 63), (7, 127), (8, 255)]))); (focus kernel_rfl); (focus kernel_rfl); (focus (exact sd1))) | ((with_reducible apply g_end); (focus (simp only [List.length_cons, List.length_nil, Nat.reduceAdd, Nat.zero_add] <;> rfl)); simp only [withH_mk, addAll_nil, addAll_cons, ↓reduceIte, withH_mk, ky_inj, hget_hset_ite, Nat.reduceAdd, Nat.reduceEqDiff, Nat.reduceSub, Int.reduceNeg, T.set_n, T.set_e, Nat.reduceDiv, Nat.reduceMod, mad1_t, addAll_nil, addAll_cons, cl]) | ((with_reducible apply g_undef); (focus rfl); (focus (simp only [↓reduceIte, Nat.reduceEqDiff, Nat.reduceSub, T.set_n, T.set_e, Nat.reduceDiv, Nat.reduceMod, wantedA_none] <;> rfl)); (focus (exact sd6))) | ((with_reducible apply g_pure); (focus rfl); (focus rfl); (focus rfl); (focus (simp only [↓reduceIte, Fr.ev, evParts, AV.cells, pureOp, List.length_cons, List.length_nil, List.getElem?_cons_zero, List.getElem?_cons_succ, Nat.zero_add, Nat.reduceAdd, Nat.reduceEqDiff, Nat.reduceSub, pBuild, pBuild2, fieldsOk, buildParts, T.get_n, T.set_n, T.set_e, Nat.reduceDiv, Nat.reduceMod, sz38, sz83, sz84, zr98, Tryz.underlying98] <;> rfl)); (focus (exact sd6))) | ((with_reducible apply g_alloc); (focus rfl); (focus rfl); (focus rfl); (focus (simp only [keyOf_mk] <;> rfl)); (focus (simp only [↓reduceIte, allocOp, Fr.ev, nVar, AV.cells, rowOf_mk, Nat.reduceAdd, Nat.reduceEqDiff, Nat.reduceSub, T.get_n, T.set_n, T.set_e, Nat.reduceDiv, Nat.reduceMod, Tryz.underlying83, nmb] <;> rfl)); (focus (simp only [Nat.reduceAdd, cl])); (focus (exact sd6))) | ((with_reducible apply r_drawL); (focus kernel_rfl); (focus kernel_rfl); (focus (exact sd1))) | ((with_reducible (first | apply r_any | apply r_cond)); focus (simp only [↓reduceIte, clsOf, Fr.ev, ofV, ofA, ofS, put_mk, pureOp, Nat.reduceLT, Nat.reduceEqDiff, Nat.reduceSub, stepOp, stV_mk, T.set_n, T.set_e, Nat.reduceDiv, Nat.reduceMod, stepAny, wantedA_none] <;> rfl)))
  refine r_loopE (j := 0) (R := fun fr s1' => ∃ lc tt h1 s1 s2 c1 c2, fr = ⟨F, lc, 70, tt, [], .no⟩ ∧ s1' = ⟨h1, F + 1⟩ ∧ lc ≤ 100000000000000000000001000 ∧ 9 ≤ lc ∧ Low F h h1 ∧ hget h1 (ky F 8) = some (mkRow [s1, s2, .slice (ky F 2) 0 0 n (some n), .slice (ky F 4) 0 0 n (some n), .slice (ky F 6) 0 0 n (some n)] 0) ∧ GrA h1 F c1 1 s1 (iL (List.replicate w.toNat 0)) ∧ GrA h1 F c2 1 s2 (iL (List.replicate w.toNat (-1))) ∧ (s1 = .nils ∧ w.toNat = 0 ∨ s1 = .slice (ky F c1) 0 0 w.toNat none) ∧ (s2 = .nils ∧ w.toNat = 0 ∨ s2 = .slice (ky F c2) 0 0 w.toNat none) ∧ c1 ≠ c2 ∧ c1 ≠ 2 ∧ c1 ≠ 4 ∧ c1 ≠ 6 ∧ c1 ≠ 8 ∧ c2 ≠ 2 ∧ c2 ≠ 4 ∧ c2 ≠ 6 ∧ c2 ≠ 8 ∧ c1 < lc ∧ c2 < lc ∧ hget h1 (ky F 2) = some (aRow (bools (List.replicate n false))) ∧ hget h1 (ky F 4) = some (aRow (bools (List.replicate n false))) ∧ hget h1 (ky F 6) = some (aRow (bools (List.replicate n false))) ∧ tt.get 0 = some (.int .i64 (n : Int)) ∧ tt.get 1 = some (.int .i64 w) ∧ tt.get 2 = some fu ∧ tt.get 7 = some (.ptr (ky F 8) 0)) (I := fun nn fr s1' => ∃ lc tt h1 i s1 s2 c1 c2, fr = ⟨F, lc, 70, tt, [], .no⟩ ∧ s1' = ⟨h1, F + 1⟩ ∧ i ≤ w.toNat ∧ nn = w.toNat - i ∧ lc + nn * 1000 ≤ 100000000000000000000000000 ∧ 9 ≤ lc ∧ Low F h h1 ∧ hget h1 (ky F 8) = some (mkRow [s1, s2, .slice (ky F 2) 0 0 n (some n), .slice (ky F 4) 0 0 n (some n), .slice (ky F 6) 0 0 n (some n)] 0) ∧ GrA h1 F c1 1 s1 (iL (List.replicate i 0)) ∧ GrA h1 F c2 1 s2 (iL (List.replicate i (-1))) ∧ (s1 = .nils ∧ i = 0 ∨ s1 = .slice (ky F c1) 0 0 i none) ∧ (s2 = .nils ∧ i = 0 ∨ s2 = .slice (ky F c2) 0 0 i none) ∧ c1 ≠ c2 ∧ c1 ≠ 2 ∧ c1 ≠ 4 ∧ c1 ≠ 6 ∧ c1 ≠ 8 ∧ c2 ≠ 2 ∧ c2 ≠ 4 ∧ c2 ≠ 6 ∧ c2 ≠ 8 ∧ c1 < lc ∧ c2 < lc ∧ hget h1 (ky F 2) = some (aRow (bools (List.replicate n false))) ∧ hget h1 (ky F 4) = some (aRow (bools (List.replicate n false))) ∧ hget h1 (ky F 6) = some (aRow (bools (List.replicate n false))) ∧ tt.get 0 = some (.int .i64 (n : Int)) ∧ tt.get 1 = some (.int .i64 w) ∧ tt.get 2 = some fu ∧ tt.get 7 = some (.ptr (ky F 8) 0) ∧ tt.get 8 = some (.int .i64 (i : Int))) (n := w.toNat) ?_ ?_ ?_ ?_
  · omega
  · exact ⟨_, _, _, 0, .nils, .nils, 0, 1, rfl, rfl, Nat.zero_le _, (Nat.sub_zero _).symm, by omega, by omega, by repeat (first | exact Low.refl F h | refine Low.set ?_ (Nat.le_refl F)), by simp only [hget_hset_ite, ky_inj, Nat.reduceEqDiff, ↓reduceIte], GrA.nil, GrA.nil, .inl ⟨rfl, rfl⟩, .inl ⟨rfl, rfl⟩, by omega, by omega, by omega, by omega, by omega, by omega, by omega, by omega, by omega, by omega, by omega, by simp only [hget_hset_ite, ↓reduceIte], by simp only [hget_hset_ite, ky_inj, Nat.reduceEqDiff, ↓reduceIte], by simp only [hget_hset_ite, ky_inj, Nat.reduceEqDiff, ↓reduceIte], sd8, sd8, sd8, sd8, sd8⟩
  · rintro nn fr s1' ⟨lc, tt, h1, i, s1, s2, c1, c2, rfl, rfl, hi, rfl, hlc, hl9, hlow, hb, hA, hB, sh1, sh2, d12, d1a, d1b, d1c, d1d, d2a, d2b, d2c, d2d, hc1, hc2, r2, r4, r6, u0, u1, u2, u7, u8⟩
    by_cases hil : i < w.toNat
    rotate_left
    · repeat' (first | refine st ?_ | ((with_reducible apply r_drawL); (focus kernel_rfl); (focus kernel_rfl); (focus (exact sd1))) | ((with_reducible (first | apply r_any | apply r_cond)); focus (simp only [↓reduceIte, clsOf, Fr.ev, put_mk, pureOp, pBin, binA, intOp_lss, Nat.reduceLT, Nat.reduceEqDiff, binA, stepOp, stV_mk, stepAny, wantedA_none, Tget_set, ls_f (show ¬ (i : Int) < w by omega)] <;> rfl)))
      have hend : i = w.toNat := by omega
      subst hend
      exact exit_at ⟨_, _, _, s1, s2, c1, c2, rfl, rfl, by omega, by omega, hlow, hb, hA, hB, sh1, sh2, d12, d1a, d1b, d1c, d1d, d2a, d2b, d2c, d2d, by omega, by omega, r2, r4, r6, sd8, sd8, sd8, sd8⟩
    obtain ⟨h3, ap1, hA3, m3⟩ := GrA.app (P := Tryz.prog) (t := 84) (t2 := 84) (k := lc + 3 + 6) (f := F + 1) (h := (hset h1 (ky F (lc + 3 + 5)) (mkRow [.int .i64 0] 1))) (N := iL [0]) (hA.set (by omega)) Tryz.underlying84 Tryz.underlying84 sz3 byI zoI (src_I1 (by rw [hget_hset, if_pos rfl])) (by simp [iL]) (by decide) (iL_one _) rfl (by rw [iL_len, iL_len, List.length_replicate]; simp; omega) (by decide)
    have g3 : ∀ c, c ≠ lc + 3 + 5 → c ≠ lc + 3 + 6 → c ≠ c1 → hget h3 (ky F c) = hget h1 (ky F c) := fun c q1 q2 q3 => by rw [m3 _ (by rw [Ne, ky_inj]; exact q2) (by rw [Ne, ky_inj]; exact q3), hget_hset, if_neg (by rw [ky_inj]; exact q1)]
    have hb3 := (g3 8 (by omega) (by omega) (by omega)).trans hb
    obtain ⟨h5, ap2, hB5, m5⟩ := GrA.app (P := Tryz.prog) (t := 38) (t2 := 38) (k := lc + 13 + 6) (f := F + 1) (h := (hset (hset h3 (ky F 8) (mkRow [(.slice (ky F (lc + 3 + 6)) 0 0 (iL (List.replicate i 0) ++ iL [0]).length none), s2, .slice (ky F 2) 0 0 n (some n), .slice (ky F 4) 0 0 n (some n), .slice (ky F 6) 0 0 n (some n)] 0)) (ky F (lc + 13 + 5)) (mkRow [.int .i64 (-1)] 1))) (N := iL [-1]) (((hB.move (g3 c2 (by omega) (by omega) (by omega))).set (by omega)).set (by omega)) Tryz.underlying38 Tryz.underlying38 sz2 byI6 zoI6 (src_I1 (by rw [hget_hset, if_pos rfl])) (by simp [iL]) (by decide) (iL_one _) rfl (by rw [iL_len, iL_len, List.length_replicate]; simp; omega) (by decide)
    have g5 : ∀ c, c ≠ lc + 13 + 5 → c ≠ lc + 13 + 6 → c ≠ c2 → c ≠ 8 → hget h5 (ky F c) = hget h3 (ky F c) := fun c q1 q2 q3 q4 => by rw [m5 _ (by rw [Ne, ky_inj]; exact q2) (by rw [Ne, ky_inj]; exact q3), hget_hset, if_neg (by rw [ky_inj]; exact q1), hget_hset, if_neg (by rw [ky_inj]; exact q4)]
    have hb5 : hget h5 (ky F 8) = some (mkRow [(.slice (ky F (lc + 3 + 6)) 0 0 (iL (List.replicate i 0) ++ iL [0]).length none), s2, .slice (ky F 2) 0 0 n (some n), .slice (ky F 4) 0 0 n (some n), .slice (ky F 6) 0 0 n (some n)] 0) := by rw [m5 _ (by rw [Ne, ky_inj]; omega) (by rw [Ne, ky_inj]; omega), hget_hset, if_neg (by rw [ky_inj]; omega), hget_hset, if_pos rfl]
    have n1 : (8 = lc + 3 + 5) = False := eq_false (by omega)
    have n2 : (8 = lc + 13 + 5) = False := eq_false (by omega)
    have low3 : Low F h h3 := fun j hj => (m3 j (by have := ky_le F (lc + 3 + 6); omega) (by have := ky_le F c1; omega)).trans ((show Low F h (hset h1 (ky F (lc + 3 + 5)) (mkRow [.int .i64 0] 1)) from hlow.set (Nat.le_refl F)) j hj)
    have low5 : Low F h h5 := fun j hj => (m5 j (by have := ky_le F (lc + 13 + 6); omega) (by have := ky_le F c2; omega)).trans ((show Low F h (hset (hset h3 (ky F 8) (mkRow [(.slice (ky F (lc + 3 + 6)) 0 0 (iL (List.replicate i 0) ++ iL [0]).length none), s2, .slice (ky F 2) 0 0 n (some n), .slice (ky F 4) 0 0 n (some n), .slice (ky F 6) 0 0 n (some n)] 0)) (ky F (lc + 13 + 5)) (mkRow [.int .i64 (-1)] 1)) from (low3.set (Nat.le_refl F)).set (Nat.le_refl F)) j hj)
    have ad := intOp_add (P := Tryz.prog) (t := 3) (show inR ((i : Int) + 1) by unfold inR; omega)
    repeat' (first | refine st ?_ | ((with_reducible apply r_drawL); (focus kernel_rfl); (focus kernel_rfl); (focus (exact sd1))) | ((with_reducible (first | apply r_any | apply r_cond)); focus (simp only [↓reduceIte, clsOf, clsCall, newBlk, allocOp, Fr.ev, evParts, ofV, ofA, ofS, AV.cells, put_mk, put_none, upd_mk, keyOf_mk, pureOp, readOp, pFA, pFA1, pFA2, rLd, rdAB_row, oneCell_one, hget_same, pBin, binA, intOp_lss, List.length_cons, List.length_nil, List.getElem?_cons_zero, List.getElem?_cons_succ, List.drop_zero, List.drop_succ_cons, List.take_succ_cons, List.take_zero, Nat.zero_add, Nat.add_zero, Nat.reduceAdd, Nat.reduceLT, Nat.reduceLeDiff, Nat.reduceEqDiff, and_self, Nat.add_eq, loadA_w, loadW_s, aSt_w, stOut_s, wrAB_row, ovr, List.set_cons_zero, List.set_cons_succ, allCell, ic_sl, heavyCall, actOp, pNil, binA, Int.reduceNeg, stepOp, stHeavy, stV_mk, stB_mk, stO_mk, sz38, ag38, Tryz.underlying38, sz84, ag84, Tryz.underlying84, Tryz.underlying98, stepAny, wantedA_none, Tget_set, ls_t (show (i : Int) < w by omega), hb, hb3, hb5, nBS_I1, nBS_I6, aBuiltin, aApp, aApp2, outOf, ap1, ap2, ad] <;> rfl)))
    refine r_rq_n (k := w.toNat - (i + 1)) (by omega) ⟨_, _, _, i + 1, _, _, lc + 3 + 6, lc + 13 + 6, rfl, rfl, by omega, rfl, by omega, by omega, low5.set (Nat.le_refl F), by rw [hget_hset, if_pos rfl], ?_, ?_, .inr ?_, .inr ?_, by omega, by omega, by omega, by omega, by omega, by omega, by omega, by omega, by omega, by omega, by omega, ?_, ?_, ?_, sd8, sd8, sd8, sd8, sd8⟩
    · rw [iL_rep]; exact (hA3.move (g5 _ (by omega) (by omega) (by omega) (by omega))).set (by omega)
    · rw [iL_rep]; exact hB5.set (by omega)
    · rw [List.length_append, iL_len, iL_len, List.length_replicate]; rfl
    · rw [List.length_append, iL_len, iL_len, List.length_replicate]; rfl
    · rw [hget_hset, if_neg (by rw [ky_inj]; omega), g5 2 (by omega) (by omega) (by omega) (by omega), g3 2 (by omega) (by omega) (by omega)]; exact r2
    · rw [hget_hset, if_neg (by rw [ky_inj]; omega), g5 4 (by omega) (by omega) (by omega) (by omega), g3 4 (by omega) (by omega) (by omega)]; exact r4
    · rw [hget_hset, if_neg (by rw [ky_inj]; omega), g5 6 (by omega) (by omega) (by omega) (by omega), g3 6 (by omega) (by omega) (by omega)]; exact r6
  rintro fr s1' ⟨lc0, tt, h1, s1, s2, c1, c2, rfl, rfl, hlc0, hl9, hlow, hb, hA, hB, sh1, sh2, d12, d1a, d1b, d1c, d1d, d2a, d2b, d2c, d2d, hc1, hc2, r2, r4, r6, u0, u1, u2, u7⟩
  have RA1 := row_of hA sh1
  have RA2 := row_of hB sh2
  repeat' (first | refine st ?_ | ((with_reducible apply r_drawL); (focus kernel_rfl); (focus kernel_rfl); (focus (exact sd1))) | ((with_reducible (first | apply r_any | apply r_cond)); focus (simp only [↓reduceIte, clsOf, Fr.ev, ofV, ofA, ofS, put_mk, pureOp, Nat.reduceLT, stepOp, stV_mk, stepAny, wantedA_none] <;> rfl)))
  refine r_loop (I := fun nn fr s1' => ∃ lc tt h2 i, fr = ⟨F, lc, 70, tt, [], .no⟩ ∧ s1' = ⟨h2, F + 1⟩ ∧ i ≤ full.length ∧ nn = full.length - i ∧ lc + nn * 1000 ≤ 1000000000000000000000000000 ∧ Low F h h2 ∧ (∀ c, c ≠ 2 → hget h2 (ky F c) = hget h1 (ky F c)) ∧ hget h2 (ky F 2) = some (aRow (bools (fullL n (full.take i)))) ∧ tt.get 0 = some (.int .i64 (n : Int)) ∧ tt.get 1 = some (.int .i64 w) ∧ tt.get 2 = some fu ∧ tt.get 7 = some (.ptr (ky F 8) 0) ∧ tt.get 9 = some (.int .i64 (i : Int))) (n := full.length) ?_ ?_ ?_
  · omega
  · exact ⟨_, _, _, 0, rfl, rfl, Nat.zero_le _, (Nat.sub_zero _).symm, by omega, hlow, fun c _ => rfl, r2, sd8, sd8, sd8, sd8, sd8⟩
  rintro nn fr s1' ⟨lc, tt, h2, i, rfl, rfl, hi, rfl, hlc, hlow2, hq, hr2, u0, u1, u2, u7, u9⟩
  have hS2 := hlow2.same hw
  have hb2 := (hq 8 (by decide)).trans hb
  by_cases hil : i < full.length
  rotate_left
  · repeat' (first | refine st ?_ | ((with_reducible apply r_drawL); (focus kernel_rfl); (focus kernel_rfl); (focus (exact sd1))) | ((with_reducible (first | apply r_any | apply r_cond)); focus (simp only [↓reduceIte, clsOf, clsCall, Fr.ev, put_mk, pureOp, readOp, pBin, binA, intOp_lss, List.getElem?_cons_zero, Nat.reduceLT, Nat.reduceEqDiff, binA, stepOp, stV_mk, stepAny, wantedA_none, rCall, rLen, Tget_set, lF, lt_f hil] <;> rfl)))
    subst hQ
    refine ret_back (by simp only [Tryz.results36, resultOf, resultsA, resultA, List.toList_toArray, Fr.ev, Tget_set, ↓reduceIte] <;> rfl) ?_
    have hend : full.take i = full := List.take_of_length_le (by omega)
    rw [hend] at hr2
    refine ⟨_, _, rfl, ⟨8, c1, c2, 2, 4, 6, s1, s2, rfl, hb2, RA1.move (hq _ d1a), RA2.move (hq _ d2a), hr2, (hq 4 (by decide)).trans r4, (hq 6 (by decide)).trans r6, ?_, ?_⟩, hlow0.trans hlow2, (hlow0.trans hlow2).same hwf⟩
    · simp only [List.nodup_cons, List.mem_cons, List.not_mem_nil, or_false, not_or, List.nodup_nil, and_true, not_false_eq_true]
      omega
    · intro c hc
      simp only [List.mem_cons, List.not_mem_nil, or_false] at hc
      omega
  obtain ⟨v, hv⟩ : ∃ v, full[i]? = some v := ⟨full[i], by simp⟩
  obtain ⟨b, o, eo, cap, rfl, hbl, rv⟩ := int_at hw hF0 hS2 hv
  have ad := intOp_add (P := Tryz.prog) (t := 3) (show inR ((i : Int) + 1) by unfold inR; omega)
  have hft : fullL n (full.take (i + 1)) = (if 0 ≤ v ∧ v < (n : Int) then (fullL n (full.take i)).set v.toNat true else fullL n (full.take i)) := by unfold fullL; rw [foldl_take hv]
  by_cases h0 : 0 ≤ v
  · by_cases h1n : v < (n : Int)
    · obtain ⟨s, rfl⟩ : ∃ s : Nat, v = s := ⟨v.toNat, by omega⟩
      have hsn : s < n := by omega
      have ws := fun (h3 : Heap) => wr_a (h := h3) (id := ky F 2) (xs := bools (fullL n (full.take i))) (j := s) (v := .bool true) (by rw [bools_len]; unfold fullL; rw [fullL_len, List.length_replicate]; exact hsn) rfl
      rw [bools_set] at ws
      rw [if_pos ⟨h0, h1n⟩, Int.toNat_natCast] at hft
      repeat' (first | refine st ?_ | ((with_reducible apply (r_drawG (id := 11) (js := [(0, 0), (1, 1), (2, 3), (3, 7), (4, 0), (5, 0), (6, 48), (7, 112), (8, 255), (9, 511)]))); (focus kernel_rfl); (focus kernel_rfl); (focus (exact sd1))) | ((with_reducible apply g_end); (focus (simp only [List.length_cons, List.length_nil, Nat.add_assoc, Nat.reduceAdd, Nat.zero_add] <;> rfl)); simp only [withH_mk, addAll_nil, withH_mk, addAll_nil]) | ((with_reducible apply g_undef); (focus rfl); (focus (simp only [wantedA_none] <;> rfl)); (focus (exact sd6))) | ((with_reducible apply g_pure); (focus rfl); (focus rfl); (focus rfl); (focus (simp only [↓reduceIte, Fr.ev, pureOp, pFA, pFA1, pFA2, List.getElem?_cons_zero, List.getElem?_cons_succ, Nat.zero_add, Nat.reduceEqDiff, Nat.add_eq, pNil, sz83, Tryz.underlying98, Tget_set, u2, u7, u9, pIA_s Tryz.underlying38 sz2 hil, pIA_s Tryz.underlying83 sz4 hsn] <;> rfl)); (focus (exact sd6))) | ((with_reducible apply g_read); (focus rfl); (focus rfl); (focus rfl); (focus (simp only [↓reduceIte, Fr.ev, readOp, rLd, rdAB_row, oneCell_one, List.length_cons, List.length_nil, List.drop_zero, List.drop_succ_cons, List.take_succ_cons, List.take_zero, Nat.zero_add, Nat.reduceAdd, Nat.reduceLeDiff, loadA_w, loadW_s, sz2, ag2, sz83, ag83, Tget_set, addMade_nil, rv, hb2] <;> rfl)); (focus (exact sd6))) | ((with_reducible apply g_act); (focus rfl); (focus rfl); (focus rfl); (focus rfl); (focus (simp only [heavy, ↓reduceIte, Fr.ev, ofV, ofA, ofS, AV.cells, withH_mk, List.length_cons, List.length_nil, Nat.zero_add, aSt_w, stOut_s, actOp, sz4, Tget_set, addMade_nil, hr2, ws] <;> rfl)); (focus (exact sd6)); (focus (simp only [decide_true, Nat.reduceDiv, Nat.reduceMod, Nat.testBit_eq_decide_div_mod_eq, Nat.reducePow, readsLeft_nil, readsLeft_cons, rdl1_t, readsOk_nil] <;> rfl)); (focus (simp only [addMade_nil, asideOk_nil] <;> rfl))) | ((with_reducible apply r_drawL); (focus kernel_rfl); (focus kernel_rfl); (focus (exact sd1))) | ((with_reducible (first | apply r_any | apply r_cond)); focus (simp only [↓reduceIte, clsOf, clsCall, Fr.ev, ofV, ofA, ofS, put_mk, pureOp, readOp, rLd, oneCell_one, pBin, binA, intOp_lss, intOp_geq, pPick, List.getElem?_cons_zero, Nat.reduceLT, Nat.reduceEqDiff, loadA_w, loadW_s, binA, stepOp, stV_mk, sz2, ag2, stepAny, wantedA_none, rCall, rLen, Tget_set, lF, lt_t hil, pIA_s Tryz.underlying38 sz2 hil, rv, ge_t h0, ls_t h1n, ad] <;> rfl)))
      exact r_rq_n (k := full.length - (i + 1)) (by omega) ⟨_, _, _, i + 1, rfl, rfl, by omega, rfl, by omega, hlow2.set (Nat.le_refl F), fun c hc => by rw [hget_hset, if_neg (by rw [ky_inj]; exact hc)]; exact hq c hc, by rw [hget_hset, if_pos rfl, hft], sd8, sd8, sd8, sd8, sd8⟩
    · rw [if_neg (fun h => h1n h.2)] at hft
      repeat' (first | refine st ?_ | ((with_reducible apply r_drawL); (focus kernel_rfl); (focus kernel_rfl); (focus (exact sd1))) | ((with_reducible (first | apply r_any | apply r_cond)); focus (simp only [↓reduceIte, clsOf, clsCall, Fr.ev, ofV, ofA, ofS, put_mk, pureOp, readOp, rLd, oneCell_one, pBin, binA, intOp_lss, intOp_geq, pPick, List.getElem?_cons_zero, Nat.reduceLT, Nat.reduceEqDiff, loadA_w, loadW_s, binA, stepOp, stV_mk, sz2, ag2, stepAny, wantedA_none, rCall, rLen, Tget_set, lF, lt_t hil, pIA_s Tryz.underlying38 sz2 hil, rv, ge_t h0, ls_f h1n, ad] <;> rfl)))
      exact r_rq_n (k := full.length - (i + 1)) (by omega) ⟨_, _, _, i + 1, rfl, rfl, by omega, rfl, by omega, hlow2, hq, by rw [hft]; exact hr2, sd8, sd8, sd8, sd8, sd8⟩
  · rw [if_neg (fun h => h0 h.1)] at hft
    repeat' (first | refine st ?_ | ((with_reducible apply r_drawL); (focus kernel_rfl); (focus kernel_rfl); (focus (exact sd1))) | ((with_reducible (first | apply r_any | apply r_cond)); focus (simp only [↓reduceIte, wantedA_eq, gBool_t, clsOf, clsCall, Fr.ev, ofV, ofA, ofS, put_mk, pureOp, readOp, rLd, oneCell_one, pBin, binA, intOp_lss, intOp_geq, pPick, List.getElem?_cons_zero, List.getElem?_cons_succ, Nat.reduceLT, Nat.reduceEqDiff, loadA_w, loadW_s, binA, stepOp, stV_mk, sz2, ag2, stepAny, wantedA_none, rCall, rLen, Tget_set, lF, lt_t hil, pIA_s Tryz.underlying38 sz2 hil, rv, ge_f h0, ad] <;> rfl)))
    exact r_rq_n (k := full.length - (i + 1)) (by omega) ⟨_, _, _, i + 1, rfl, rfl, by omega, rfl, by omega, hlow2, hq, by rw [hft]; exact hr2, sd8, sd8, sd8, sd8, sd8⟩

end Go.Proofs.YtfhgiadogeephaaGreatDoor

namespace Go.Proofs.YtfhgiadogeephaaGreatDoor
open Go Go.Ai
set_option maxRecDepth 100000

theorem FootP.same {h h1 : Heap} {a : AV} {R W : List (List Tx)} (e : FootP h a R W) (hs : SameH h h1) : FootP h1 a R W := by
  obtain ⟨X, h1, h2, h3, h4⟩ := e
  exact ⟨X, h1.same hs, h2, h3, fun i x hx => let ⟨r, w, k1, k2, k3⟩ := h4 i x hx; ⟨r, w, k1, k2.same hs, k3.same hs⟩⟩
theorem FootP.len {h h2 : Heap} {a : AV} {R W : List (List Tx)} (e : FootP h a R W) : rLen1 Tryz.prog h2 37 (some a) = some (.int .i64 (R.length : Int)) := by
  obtain ⟨X, h1, h2, _⟩ := e
  rw [rLen1_L Tryz.underlying37 h1, h2]
theorem FootP.cell {h : Heap} {a : AV} {R W : List (List Tx)} (e : FootP h a R W) : isCell a = true := by
  obtain ⟨X, h1, _⟩ := e
  exact isCell_L h1
theorem FootP.self {h : Heap} {a : AV} {R W : List (List Tx)} (e : FootP h a R W) : avEq a a = true := by
  obtain ⟨X, h1, _⟩ := e
  exact av_self_L h1
theorem foot2 {h : Heap} {F : Nat} {a : AV} {R W : List (List Tx)} (hw : Wf ⟨h, F⟩) (e : FootP h a R W) {i : Nat} (hi : i < R.length) : ∃ b o eo cap r w, a = .slice b o eo R.length cap ∧ b < ky F 0 ∧ rdAB (hget h b) (o + i * 2) 1 = some [r] ∧ rdAB (hget h b) (o + i * 2 + 1) 1 = some [w] ∧ LstP h ksT r (tL (atL R i)) ∧ LstP h ksT w (tL (atL W i)) := by
  obtain ⟨X, h1, h2, _, h4⟩ := e
  have hX : i < X.length := by omega
  obtain ⟨b, o, eo, cap, e, h0, hp⟩ := h1.at hX
  obtain ⟨r, w, k1, k2, k3⟩ := h4 i _ (show X[i]? = some X[i] by simp [hX])
  have p0 := hp 0 1 (by decide)
  have p1 := hp 1 1 (by decide)
  rw [k1] at p0 p1
  exact ⟨b, o, eo, cap, r, w, by rw [e, h2], rd_low hw h0, p0, p1, k2, k3⟩
def smF (R W : List (List Tx)) : Nat → Nat
  | 0 => 0
  | i + 1 => smF R W i + ((atL R i).length + (atL W i).length)
theorem smF_mono {R W : List (List Tx)} {i : Nat} : ∀ {n : Nat}, i < n → (atL R i).length + (atL W i).length ≤ smF R W n
  | 0, h => absurd h (Nat.not_lt_zero _)
  | n + 1, h => by
    rw [smF]
    by_cases hi : i = n
    · subst hi; omega
    · have := smF_mono (R := R) (W := W) (show i < n by omega); omega
noncomputable def wid (R W : List (List Tx)) (nf ne : Nat) (w : Int) : Bool := decide (60 < (R.length : Int)) || decide (1500 < (smF R W (min R.length 100) : Int)) || decide (200 < (nf : Int)) || decide (400 < (ne : Int)) || decide (200 < w)
theorem wid_f {R W : List (List Tx)} {nf ne : Nat} {w : Int} (h : wid R W nf ne w = false) (hW : W.length = R.length) : R.length ≤ 60 ∧ nf ≤ 200 ∧ ne ≤ 400 ∧ w ≤ 200 ∧ ∀ i, (atL R i).length + (atL W i).length ≤ 1500 := by
  unfold wid at h
  simp only [Bool.or_eq_false_iff, decide_eq_false_iff_not] at h
  obtain ⟨⟨⟨⟨h1, h2⟩, h3⟩, h4⟩, h5⟩ := h
  refine ⟨by omega, by omega, by omega, by omega, fun i => ?_⟩
  by_cases hi : i < R.length
  · have := smF_mono (R := R) (W := W) (show i < min R.length 100 by omega)
    omega
  · unfold atL
    rw [List.getElem?_eq_none (by omega), List.getElem?_eq_none (by omega)]
    simp
set_option maxHeartbeats 8000000 in
theorem wideA (h : Heap) (F : Nat) (feet fu e : AV) (w : Int) (whole : Bool) (R W : List (List Tx)) (full : List Int) (ds : List Ev) (hFt : FootP h feet R W) (hF : LstP h ks1 fu (iL full)) (hD : LstP h ksD e (evL ds)) (hb : ∀ i, (atL R i).length + (atL W i).length ≤ 10000000) :
    Snd Tryz.prog [] 10 [.agg [feet, .int .i64 w, fu, e, .bool whole]] ⟨h, F⟩ [.val (.bool (wid R W full.length ds.length w)) ⟨h, F⟩] := by
  refine snd_val (by simp [Kin]) fun hw => ?_
  have mxl : maxLen = 9223372036854775807 := by decide
  have lT := fun (h2 : Heap) => hFt.len (h2 := h2)
  have lD := fun (h2 : Heap) => rLen1_L (h2 := h2) Tryz.underlying39 hD
  rw [evL_len] at lD
  have lF := fun (h2 : Heap) => rLen1_L (h2 := h2) Tryz.underlying38 hF
  rw [iL_len] at lF
  have hTl : R.length ≤ maxLen := by
    obtain ⟨X, hX, e, _⟩ := hFt
    rw [← e]; exact hX.len
  refine sndQ_body (K := (KA A0)) ka_ok mixed noNum (m := 101) Tryz.func10 ?_
  generalize hQ : retQ _ _ _ _ _ _ = Q0
  refine body_go (c := Tryz.f10.body.getD .skip) (n := 58) rfl rfl (by simp only [↓reduceIte, T.setList, T.set_e] <;> rfl) ?_
  simp only [Tryz.f10, Option.getD_some]
  repeat' (first | refine st ?_ | ((with_reducible apply r_drawL); (focus kernel_rfl); (focus kernel_rfl); (focus (exact sd1))) | ((with_reducible (first | apply r_any | apply r_cond)); focus (simp only [↓reduceIte, clsOf, newBlk, allocOp, Fr.ev, ofV, ofA, ofS, nVar, AV.cells, rowOf_mk, put_mk, upd_mk, keyOf_mk, pureOp, Nat.add_zero, Nat.reduceLT, Nat.reduceEqDiff, Nat.reduceSub, stepOp, stV_mk, stB_mk, T.get_n, T.set_n, T.set_e, Nat.reduceDiv, Nat.reduceMod, stepAny, wantedA_none] <;> rfl)))
  refine r_loopE (j := 0) (R := fun fr s1 => ∃ lc tt N, fr = ⟨F, lc, 58, tt, [], .no⟩ ∧ s1 = ⟨(hset h (ky F 0) (mkRow [feet, .int .i64 w, fu, e, .bool whole] 0)), F + 1⟩ ∧ lc ≤ 100000000000000000000001000 ∧ N = smF R W (min R.length 100) ∧ tt.get 1 = some (.ptr (ky F 0) 0) ∧ tt.get 3 = some (.int .i64 (N : Int))) (I := fun nn fr s1 => ∃ lc tt i, fr = ⟨F, lc, 58, tt, [], .no⟩ ∧ s1 = ⟨(hset h (ky F 0) (mkRow [feet, .int .i64 w, fu, e, .bool whole] 0)), F + 1⟩ ∧ i ≤ R.length ∧ i ≤ 100 ∧ nn = 100 - i ∧ lc + nn * 1000 ≤ 100000000000000000000000000 ∧ smF R W i ≤ i * 10000000 ∧ tt.get 1 = some (.ptr (ky F 0) 0) ∧ tt.get 3 = some (.int .i64 (smF R W i : Int)) ∧ tt.get 4 = some (.int .i64 (i : Int))) (n := 100) ?_ ?_ ?_ ?_
  · omega
  · exact ⟨_, _, 0, rfl, rfl, Nat.zero_le _, by omega, rfl, by omega, by simp [smF], sd8, sd8, sd8⟩
  · rintro nn fr s1 ⟨lc, tt, i, rfl, rfl, hi, hi5, rfl, hlc, hN, u1, u3, u4⟩
    by_cases hil : i < R.length
    · by_cases h5 : (i : Int) < 100
      · obtain ⟨b, o, eo, cap, r, w', rfl, hbk, r0, r1, hr, hw'⟩ := foot2 hw hFt hil
        have lR := fun (h2 : Heap) => rLen1_L (h2 := h2) Tryz.underlying68 hr
        have lW := fun (h2 : Heap) => rLen1_L (h2 := h2) Tryz.underlying68 hw'
        rw [tL_len] at lR lW
        have hbi := hb i
        have ad1 : intOp Tryz.prog .add 3 .i64 .i64 (smF R W i : Int) ((atL R i).length : Int) = some (.int .i64 ((smF R W i + (atL R i).length : Nat) : Int)) := intOp_add (by unfold inR; omega)
        have ad2 : intOp Tryz.prog .add 3 .i64 .i64 ((smF R W i + (atL R i).length : Nat) : Int) ((atL W i).length : Int) = some (.int .i64 ((smF R W i + (atL R i).length + (atL W i).length : Nat) : Int)) := intOp_add (by unfold inR; omega)
        have ad := intOp_add (P := Tryz.prog) (t := 3) (show inR ((i : Int) + 1) by unfold inR; omega)
        repeat' (first | refine st ?_ | ((with_reducible apply (r_drawW (id := 5) (js := [0, 1, 2, 3, 4, 5, 6, 7, 8, 9, 10, 11, 12, 13, 14, 15, 16, 17]))); (focus kernel_rfl); (focus kernel_rfl); (focus (exact sd1))) | ((with_reducible apply d_end); (focus (simp only [List.length_cons, List.length_nil, Nat.add_assoc, Nat.reduceAdd, Nat.zero_add] <;> rfl))) | ((with_reducible apply d_any); (focus rfl); (iterate 2 (focus (simp only [↓reduceIte, clsOf, clsCall, Fr.ev, put_mk, pureOp, readOp, pFA, pFA1, pFA2, rLd, rdAB_row, oneCell_one, hget_same, hget_hset_ite, pBin, binA, List.length_cons, List.length_nil, List.getElem?_cons_zero, List.getElem?_cons_succ, List.drop_zero, List.take_succ_cons, List.take_zero, Nat.zero_add, Nat.add_zero, Nat.reduceAdd, Nat.reduceLT, Nat.reduceLeDiff, Nat.reduceEqDiff, Nat.add_eq, loadA_w, loadW_s, binA, stepOp, stV_mk, sz37, ag37, Tryz.underlying41, sz68, ag68, Tryz.underlying74, stepAny, wantedA_none, readSelf, av_int, av_sl, rCall, rLen, Tget_set, u1, u3, u4, pIA_s Tryz.underlying37 sz74 hil, r0, r1, ky_old hbk, lR, lW, ad1, ad2, av_self_L hr, av_self_L hw'] <;> rfl))); (focus (first | exact SameH.refl _ | (simp only [sameT, sameS hw]; done)))) | ((with_reducible apply r_drawL); (focus kernel_rfl); (focus kernel_rfl); (focus (exact sd1))) | ((with_reducible (first | apply r_any | apply r_cond)); focus (simp only [↓reduceIte, clsOf, clsCall, Fr.ev, ofV, ofA, ofS, put_mk, pureOp, readOp, pFA, pFA1, pFA2, rLd, rdAB_row, oneCell_one, hget_same, pBin, binA, intOp_lss, pPick, List.length_cons, List.length_nil, List.getElem?_cons_zero, List.drop_zero, List.take_succ_cons, List.take_zero, Nat.zero_add, Nat.add_zero, Nat.reduceAdd, Nat.reduceLT, Nat.reduceLeDiff, Nat.reduceEqDiff, Nat.add_eq, loadA_w, loadW_s, binA, stepOp, stV_mk, sz37, ag37, Tryz.underlying41, stepAny, wantedA_none, rCall, rLen, Tget_set, u1, lT, lt_t hil, ls_t h5, ad] <;> rfl)))
        have hs1 : smF R W (i + 1) = smF R W i + (atL R i).length + (atL W i).length := by rw [smF]; omega
        exact r_rq_n (k := 100 - (i + 1)) (by omega) ⟨_, _, i + 1, rfl, rfl, by omega, by omega, rfl, by omega, by omega, sd8, (by first | (simp only [Tget_set, Nat.reduceEqDiff, ↓reduceIte, hs1] <;> rfl) | rfl), sd8⟩
      · repeat' (first | refine st ?_ | ((with_reducible apply r_drawL); (focus kernel_rfl); (focus kernel_rfl); (focus (exact sd1))) | ((with_reducible (first | apply r_any | apply r_cond)); focus (simp only [↓reduceIte, clsOf, clsCall, Fr.ev, ofV, ofA, ofS, put_mk, pureOp, readOp, pFA, pFA1, pFA2, rLd, rdAB_row, oneCell_one, hget_same, pBin, binA, intOp_lss, pPick, List.length_cons, List.length_nil, List.getElem?_cons_zero, List.drop_zero, List.take_succ_cons, List.take_zero, Nat.zero_add, Nat.add_zero, Nat.reduceAdd, Nat.reduceLT, Nat.reduceLeDiff, Nat.reduceEqDiff, Nat.add_eq, loadA_w, loadW_s, binA, stepOp, stV_mk, sz37, ag37, Tryz.underlying41, stepAny, wantedA_none, rCall, rLen, Tget_set, u1, lT, lt_t hil, ls_f h5] <;> rfl)))
        exact exit_at ⟨_, _, smF R W i, rfl, rfl, by omega, by rw [show min R.length 100 = i by omega], sd8, sd8⟩
    · repeat' (first | refine st ?_ | ((with_reducible apply r_drawL); (focus kernel_rfl); (focus kernel_rfl); (focus (exact sd1))) | ((with_reducible (first | apply r_any | apply r_cond)); focus (simp only [↓reduceIte, wantedA_eq, gBool_t, clsOf, clsCall, Fr.ev, ofV, ofA, ofS, put_mk, pureOp, readOp, pFA, pFA1, pFA2, rLd, rdAB_row, oneCell_one, hget_same, pBin, binA, intOp_lss, pPick, List.length_cons, List.length_nil, List.getElem?_cons_zero, List.getElem?_cons_succ, List.drop_zero, List.take_succ_cons, List.take_zero, Nat.zero_add, Nat.add_zero, Nat.reduceAdd, Nat.reduceLT, Nat.reduceLeDiff, Nat.reduceEqDiff, Nat.add_eq, loadA_w, loadW_s, binA, stepOp, stV_mk, sz37, ag37, Tryz.underlying41, stepAny, wantedA_none, rCall, rLen, Tget_set, u1, lT, lt_f hil] <;> rfl)))
      exact exit_at ⟨_, _, smF R W i, rfl, rfl, by omega, by rw [show min R.length 100 = i by omega], sd8, sd8⟩
  rintro fr s1 ⟨lc, tt, N, rfl, rfl, hlc, hN, u1, u3⟩
  obtain ⟨x1, z1⟩ : ∃ v, decide (60 < (R.length : Int)) = v := ⟨_, rfl⟩
  obtain ⟨x2, z2⟩ : ∃ v, decide (1500 < (N : Int)) = v := ⟨_, rfl⟩
  obtain ⟨x3, z3⟩ : ∃ v, decide (200 < (full.length : Int)) = v := ⟨_, rfl⟩
  obtain ⟨x4, z4⟩ : ∃ v, decide (400 < (ds.length : Int)) = v := ⟨_, rfl⟩
  obtain ⟨x5, z5⟩ : ∃ v, decide (200 < w) = v := ⟨_, rfl⟩
  have hv : wid R W full.length ds.length w = (x1 || x2 || x3 || x4 || x5) := by
    unfold wid
    rw [← hN, z1, z2, z3, z4, z5]
  have hc : x1 = true ∨ (x1 = false ∧ x2 = true) ∨ (x1 = false ∧ x2 = false ∧ x3 = true) ∨ (x1 = false ∧ x2 = false ∧ x3 = false ∧ x4 = true) ∨ (x1 = false ∧ x2 = false ∧ x3 = false ∧ x4 = false) := by
    cases x1 <;> cases x2 <;> cases x3 <;> cases x4 <;> simp
  rcases hc with rfl | ⟨rfl, rfl⟩ | ⟨rfl, rfl, rfl⟩ | ⟨rfl, rfl, rfl, rfl⟩ | ⟨rfl, rfl, rfl, rfl⟩
  all_goals
    repeat' (first | refine st ?_ | ((with_reducible apply r_drawL); (focus kernel_rfl); (focus kernel_rfl); (focus (exact sd1))) | ((with_reducible (first | apply r_any | apply r_cond)); focus (simp only [↓reduceIte, wantedA_eq, gBool_f, Bool.not_true, clsOf, clsCall, Fr.ev, ofV, ofA, ofS, put_mk, pureOp, readOp, pFA, pFA1, pFA2, rLd, rdAB_row, oneCell_one, hget_same, pBin, binA, intOp_gtr, pPick, List.length_cons, List.length_nil, List.getElem?_cons_zero, List.getElem?_cons_succ, List.drop_zero, List.drop_succ_cons, List.take_succ_cons, List.take_zero, Nat.zero_add, Nat.add_zero, Nat.reduceAdd, Nat.reduceLT, Nat.reduceLeDiff, Nat.reduceEqDiff, Nat.add_eq, loadA_w, loadW_s, binA, stepOp, stV_mk, sz3, ag3, sz37, ag37, sz38, ag38, sz39, ag39, Tryz.underlying41, stepAny, wantedA_none, rCall, rLen, Tget_set, u1, lT, lF, lD, z1, z2, z3, z4, z5] <;> rfl)))
    subst hQ
    refine ret_back (by simp only [Tryz.results10, resultOf, resultsA, resultA, List.toList_toArray, Fr.ev, Tget_set, ↓reduceIte] <;> rfl) ?_
    exact ⟨_, out_eq (by rw [hv]; rfl), by repeat (first | exact Same.base _ _ _ | refine Same.hset hw ?_ (ky_le _ _))⟩

end Go.Proofs.YtfhgiadogeephaaGreatDoor

