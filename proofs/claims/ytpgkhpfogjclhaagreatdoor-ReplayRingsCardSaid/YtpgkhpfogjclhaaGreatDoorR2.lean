/- A part of the proof of the law ReplayRings. CONDITIONS: those that each theorem names. -/
import Derived.Test.YtpgkhpfogjclhaaGreatDoorR1
namespace Go.Proofs.YtpgkhpfogjclhaaGreatDoor
open Go Go.Ai
set_option maxRecDepth 100000

theorem max0 {z : St} (n : Int) : aMx z (some [.int .i64 n, .int .i64 0]) = some [.val (.int .i64 (n.toNat : Int)) z] := by
  simp only [aMx, decide_true, ltInt]
  by_cases h : n < 0
  · rw [decide_eq_true h]; simp only; rw [show n.toNat = 0 by omega]; rfl
  · rw [decide_eq_false h]; simp only; rw [show ((n.toNat : Nat) : Int) = n by omega]
set_option maxHeartbeats 4000000 in
theorem graph38 (h : Heap) (F : Nat) (n : Int) (a : AV) (L : List (List AV)) (hA : LstP h ksE a L) (hn : n ≤ 1000) (hL : L.length ≤ 1000) :
    SndQ Tryz.prog [] 38 [.int .i64 n, a] ⟨h, F⟩ (fun o => ∃ v h', o = .val v ⟨h', F + 1⟩ ∧ Low F h h' ∧ SameH h h' ∧ Lst2I F (F + 1) h' ksN v ((gOf n.toNat (edgesL L)).map iL)) := by
  have mxl : maxLen = 9223372036854775807 := by decide
  refine sndQ_wf fun hwf => sndQ_clean fun h0 hw hlow hcl => ?_
  have hA0 : LstI 0 F h0 ksE a L := (hA.below hwf (by decide)).move ((EqI.refl 0 F h).call hlow (Nat.le_refl F))
  have hnN : n.toNat ≤ 1000 := by omega
  obtain ⟨N, hN⟩ : ∃ N, n.toNat = N := ⟨_, rfl⟩
  refine sndQ_body (K := KN) kn_ok mixed noNum (m := L.length + 1) Tryz.func38 ?_
  generalize hQ : retQ _ _ _ _ _ _ = Q0
  refine body_go (c := Tryz.f38.body.getD .skip) (n := 42) rfl rfl (by simp only [↓reduceIte, T.setList, T.set_e, T.set_n, Nat.reduceDiv, Nat.reduceMod, Nat.reduceEqDiff, Nat.zero_add] <;> rfl) ?_
  simp only [Tryz.f38, Option.getD_some]
  repeat' (first
  | with_reducible refine r_seq ?_
  | with_reducible refine r_next ?_
  | with_reducible refine r_block ?_
  | with_reducible refine r_seq_exit ?_
  | with_reducible refine r_seq_ret ?_
  | with_reducible refine r_blk_n ?_
  | with_reducible refine r_blk_ret ?_
  | with_reducible refine r_blk_hit ?_
  | with_reducible refine r_blk_miss rfl ?_
  | with_reducible refine r_skip ?_
  | with_reducible refine r_exit ?_
  | with_reducible refine r_ret ?_
  | with_reducible refine r_rq_exit ?_
  | with_reducible refine r_rq_ret ?_
  | ((with_reducible apply r_regA); (focus (simp only [List.append_eq, List.cons_append, List.nil_append] <;> rfl)); (focus (first | exact Nat.le_of_ble_eq_true rfl | (simp only [List.length_cons, List.length_nil]; omega))))
  | ((with_reducible refine r_reg (List.toList_toArray) ?_ ?_); focus (first | exact Nat.le_of_ble_eq_true rfl | (simp only [List.length_cons, List.length_nil]; omega)))
  | ((with_reducible apply r_drawL); (focus kernel_rfl); (focus kernel_rfl); (focus (first | exact Nat.le_of_ble_eq_true rfl | (simp only [List.length_cons, List.length_nil]; omega))))
  | ((with_reducible apply r_end); focus (simp only [Nat.reduceAdd, Nat.zero_add] <;> rfl))
  | ((with_reducible (first | apply r_move | apply r_assign)); (focus (simp only [Tget_set, T.get_n, Nat.reduceEqDiff, Nat.reduceDiv, Nat.reduceMod, Nat.reduceSub, ↓reduceIte] <;> rfl)); (focus (exact Nat.le_of_ble_eq_true rfl)))
  | ((with_reducible apply r_condT); (focus (simp only [Tget_set, T.get_n, T.get_e, Nat.reduceEqDiff, Nat.reduceDiv, Nat.reduceMod, Nat.reduceSub, ↓reduceIte, if_true, if_false] <;> rfl)))
  | ((with_reducible (first | apply r_any | apply r_cond)); focus (simp only [↓reduceIte, clsOf, clsCall, newBlk, allocOp, Fr.ev, evs, ofV, ofA, ofS, put_mk, upd_mk, keyOf_mk, pureOp, readOp, List.getElem?_cons_zero, Nat.zero_add, Nat.reduceAdd, Nat.reduceLT, Nat.reduceEqDiff, Nat.reduceSub, heavyCall, stepOp, stHeavy, stV_mk, stB_mk, stO_mk, T.get_n, T.set_n, T.set_e, Nat.reduceDiv, Nat.reduceMod, Tryz.underlying78, stepAny, wantedA_none, rCall, rLen, rLen1_L Tryz.underlying37 hA0.p, aBuiltin, max0 n, hN, nMS_a sz38 by38 zr38 rfl (show 24 * N ≤ 1073741824 by omega) (show N ≤ 1073741824 by omega)] <;> rfl))
  | (with_reducible rw [ifQ_t])
  | (with_reducible rw [ifQ_f])
  | (with_reducible refine ifQ_intro ?_ ?_ <;> intro hb))
  refine r_loop (I := fun nn fr s1 => ∃ lc tt h1 i xs, fr = ⟨F, lc, 42, tt, [], .no⟩ ∧ s1 = ⟨h1, F + 1⟩ ∧ i ≤ L.length ∧ nn = L.length - i ∧ 8 ≤ lc ∧ lc + nn * 1000 ≤ 100000000000000000000000000 ∧ tt.get 0 = some (.int .i64 n) ∧ tt.get 5 = some (.slice (ky F 3) 0 0 N (some N)) ∧ tt.get 11 = some a ∧ tt.get 12 = some (.int .i64 (L.length : Int)) ∧ tt.get 13 = some (.int .i64 (i : Int)) ∧ Low F h0 h1 ∧ (∀ c, lc ≤ c → c ≤ 200000000000000000000000000 → hget h1 (ky F c) = none) ∧ GR h1 F lc 3 (gOf N ((edgesL L).take i)) xs) (n := L.length) ?_ ?_ ?_
  · omega
  · refine ⟨_, _, _, 0, List.replicate N .nils, rfl, rfl, Nat.zero_le _, (Nat.sub_zero _).symm, by omega, by omega, (by first | (simp only [T.get_n, ↓reduceIte] <;> rfl) | rfl), (by first | (simp only [T.get_n, Nat.reduceEqDiff, Nat.reduceDiv, Nat.reduceMod, Nat.reduceSub, ↓reduceIte] <;> rfl) | rfl), (by first | (simp only [T.get_n, Nat.reduceEqDiff, Nat.reduceDiv, Nat.reduceMod, Nat.reduceSub, ↓reduceIte] <;> rfl) | rfl), (by first | (simp only [T.get_n, Nat.reduceEqDiff, Nat.reduceDiv, Nat.reduceMod, Nat.reduceSub, ↓reduceIte] <;> rfl) | rfl), (by first | (simp only [T.get_n, Nat.reduceEqDiff, Nat.reduceDiv, Nat.reduceMod, Nat.reduceSub, ↓reduceIte] <;> rfl) | rfl), (Low.refl F h0).set (Nat.le_refl F), fun c h1 _ => ?_, ?_⟩
    · rw [hget_hset_ite, if_neg (by rw [ky_inj]; omega)]; exact hcl _ (ky_le F c)
    · rw [List.take_zero, gOf_nil]; exact GR.new N (by rw [hget_hset_ite, if_pos rfl]) (by omega)
  rintro nn fr s1 ⟨lc, tt, h1, i, xs, rfl, rfl, hi, rfl, hl0, hlc, u0, u5, u11, u12, u13, hS, hC, hR⟩
  by_cases hil : i < L.length
  · obtain ⟨b, o, eo, cap, x, y, rfl, hb1, hb2, hxy, r0, r1, r2⟩ := edge_at (hA0.move ((EqI.refl 0 F h0).call hS (Nat.le_refl F))) hil
    have htk : (edgesL L).take (i + 1) = (edgesL L).take i ++ [(x, y)] := by rw [List.take_add_one, hxy]; rfl
    by_cases hx : 0 ≤ x ∧ x < n
    · by_cases hy : 0 ≤ y ∧ y < n
      · obtain ⟨u, rfl⟩ := Int.eq_ofNat_of_zero_le hx.1
        have huN : u < N := by omega
        have hok : okE N ((u : Int), y) := ⟨by simp, by simp; omega, hy.1, by show y < (N : Int); omega⟩
        have hG : (gOf N ((edgesL L).take i))[u]? = some (outs N ((edgesL L).take i) u) := gOf_get huN
        have hgl : (outs N ((edgesL L).take i) u).length ≤ 1000 := by have := outs_len N ((edgesL L).take i) u; rw [List.length_take, edgesL_len] at this; omega
        obtain ⟨xu, hxs⟩ := hR.at hG
        have hux : u < xs.length := (List.getElem?_eq_some_iff.1 hxs).1
        have hrow2 := hR.row
        have hR2 : GR (hset (hset h1 (ky F (lc + 1 + 2)) (mkRow [.int .i64 0, .int .i64 0] 0)) (ky F (lc + 1 + 2)) (mkRow [.int .i64 (u : Int), .int .i64 y] 0)) F lc 3 (gOf N ((edgesL L).take i)) xs := (hR.set (by omega)).set (by omega)
        have hn10 : hget h1 (ky F (lc + 15 + 10)) = none := hC _ (by omega) (by omega)
        have ap := fun (key : Nat) => app_ints2 (P := Tryz.prog) (key := key) (f := F + 1) (a := 15) (b := 10) (x := y) (cap := some 1) Tryz.underlying38 sz2 by2 zo2 (by omega) (hR2.il hG hxs) hgl
        have hk3 := fun (h' : Heap) => hR.kill_get (h2 := h') (k := 3) hG hxs (.inr rfl)
        have hkx := fun (h' : Heap) => hR.kill_get (h2 := h') (k := lc + 1 + 2) hG hxs (.inl (by omega))
        have hk10 := fun (h' : Heap) => hR.kill_get (h2 := h') (k := lc + 15 + 10) hG hxs (.inl (by omega))
        have x1 : (3 = lc + 1 + 2) = False := eq_false (by omega)
        have x2 : (3 = lc + 15 + 10) = False := eq_false (by omega)
        have x3 : (3 = lc + 15 + 11) = False := eq_false (by omega)
        have x4 : (lc + 1 + 2 = 3) = False := eq_false (by omega)
        have x5 : (lc + 1 + 2 = lc + 15 + 10) = False := eq_false (by omega)
        have x6 : (lc + 1 + 2 = lc + 15 + 11) = False := eq_false (by omega)
        have x7 : (lc + 15 + 10 = 3) = False := eq_false (by omega)
        have x8 : (lc + 15 + 10 = lc + 1 + 2) = False := eq_false (by omega)
        have x9 : (lc + 15 + 10 = lc + 15 + 11) = False := eq_false (by omega)
        have x10 : (lc + 15 + 11 = 3) = False := eq_false (by omega)
        have x11 : (lc + 15 + 11 = lc + 1 + 2) = False := eq_false (by omega)
        have x12 : (lc + 15 + 11 = lc + 15 + 10) = False := eq_false (by omega)
        repeat' (first
        | with_reducible refine r_seq ?_
        | with_reducible refine r_next ?_
        | with_reducible refine r_block ?_
        | with_reducible refine r_seq_exit ?_
        | with_reducible refine r_seq_ret ?_
        | with_reducible refine r_blk_n ?_
        | with_reducible refine r_blk_ret ?_
        | with_reducible refine r_blk_hit ?_
        | with_reducible refine r_blk_miss rfl ?_
        | with_reducible refine r_skip ?_
        | with_reducible refine r_exit ?_
        | with_reducible refine r_ret ?_
        | with_reducible refine r_rq_exit ?_
        | with_reducible refine r_rq_ret ?_
        | ((with_reducible apply r_regA); (focus (simp only [List.append_eq, List.cons_append, List.nil_append] <;> rfl)); (focus (first | exact Nat.le_of_ble_eq_true rfl | (simp only [List.length_cons, List.length_nil]; omega))))
        | ((with_reducible refine r_reg (List.toList_toArray) ?_ ?_); focus (first | exact Nat.le_of_ble_eq_true rfl | (simp only [List.length_cons, List.length_nil]; omega)))
        | ((with_reducible apply (r_drawG (js := [(0, 0), (1, 0), (2, 2), (3, 0), (4, 0), (5, 16), (6, 56), (7, 120), (8, 0), (9, 256), (10, 768), (11, 2040), (12, 4095), (13, 8191)]))); (focus kernel_rfl); (focus kernel_rfl); (focus (first | exact Nat.le_of_ble_eq_true rfl | (simp only [List.length_cons, List.length_nil]; omega))))
        | ((with_reducible apply g_end); (focus (simp only [List.length_cons, List.length_nil, Nat.add_assoc, Nat.reduceAdd, Nat.zero_add] <;> rfl)); simp only [withH_mk, addAll_nil, addAll_cons, ↓reduceIte, withH_mk, ky_inj, hget_same, hget_hset_ite, mad1_o, addAll_nil, addAll_cons, hk10, x7, x9])
        | ((with_reducible apply g_undef); (focus rfl); (focus (simp only [wantedA_none] <;> rfl)); (focus (simp only [put_mk, put_none, Nat.reduceLT, ↓reduceIte, if_true, if_false] <;> rfl)))
        | ((with_reducible apply g_pure); (focus rfl); (focus rfl); (focus (first | rfl | (simp only [↓reduceIte, wantedA_eq, gBool_t, gBool_f, Bool.not_true, Bool.not_false, Bool.not_not, clsOf, clsCall, newBlk, allocOp, ev_tmp, Fr.ev, evs, evParts, ofV, ofA, ofS, ofSs, ofAs, nVar, AV.cells, rowOf_mk, put_mk, put_none, upd_mk, withH_mk, keyOf_mk, ky_inj, pureOp, readOp, T.get_e, pFA, pFA1, pFA2, rLd, rdAB_row, oneCell_one, someAgg_s, hget_same, hget_hset_ite, pBin, binA, intOp_eql, intOp_neq, intOp_lss, intOp_leq, intOp_gtr, intOp_geq, pPick, List.length_cons, List.length_nil, List.getElem?_cons_zero, List.getElem?_cons_succ, List.drop_zero, List.drop_succ_cons, List.take_succ_cons, List.take_zero, Nat.zero_add, Nat.add_zero, Nat.reduceAdd, Nat.reduceLT, Nat.reduceLeDiff, Nat.reduceEqDiff, Nat.reduceMul, Nat.reduceSub, Nat.succ_eq_add_one, if_true, if_false, true_and, and_true, and_self, List.toList_toArray, Nat.add_eq, Nat.mul_eq, Nat.sub_eq, loadA_w, loadW_a, loadW_s, aSt_w, stOut_s, wrAB_row, ovr, List.set_cons_zero, List.set_cons_succ, allCell, isCell, pUn_not, callTo_s, heavyCall, target, actOp, pEx, List.nil_append, List.append_nil, pNil, pBuild, pBuild2, fieldsOk, buildParts, List.getElem?_nil, pMkF, binA, eqIn, eqGuardOk, pF, pF1, partA, beq_self_eq_true, bne_self_eq_false, decide_true, decide_false, Int.reduceBEq, Int.reduceBNe, Int.reduceLT, Int.reduceLE, Int.reduceEq, Int.reduceNeg, Int.reduceAdd, Int.reduceSub, Bool.and_true, Bool.true_and, Bool.and_false, Bool.false_and, stepOp, stHeavy, stV_mk, stB_mk, stO_mk, T.get_n, T.set_n, T.set_e, Nat.reduceDiv, Nat.reduceMod, ofNat_z, sz2, ag2, zr2, Tryz.underlying2, sz3, ag3, zr3, Tryz.underlying3, sz37, ag37, zr37, Tryz.underlying37, sz38, ag38, zr38, Tryz.underlying38, sz78, ag78, zr78, Tryz.underlying78, sz83, ag83, zr83, Tryz.underlying83, stepAny, wantedA_none, rCall, rLen, rLen1_str, rLen1_sl, lenA, Tget_set, natOf_c, Nat.testBit_eq_decide_div_mod_eq, Nat.reducePow, addMade_nil, addMade_cons, mad1_t, mad1_o, mad1_f, addAll_nil, addAll_cons, readsLeft_nil, readsLeft_cons, rdl1_t, rdl1_f, readsOk_nil, readsOk_cons, rok1_s, asideOk_nil, asideOk_cons, asd1_n, asd1_s, av_str, av_int, av_bool, av_ptr, av_sl, av_nils, av_nili, av_agg, av_if, avs_nil, avs_cons, Bool.and_self, u0, u5, u11, u12, u13, hrow2, hxs, pIA_s Tryz.underlying78 sz38 huN, rd_a hxs, nBS_int sz2 zr2, hn10, aBuiltin, aApp, aApp2, ap, outOf, hk3, hkx, hk10, wr_a (v := .slice (ky F (lc + 15 + 11)) 0 0 (outs N ((edgesL L).take i) u ++ [y]).length none) hux rfl, x1, x2, x3, x4, x5, x6, x7, x8, x9, x10, x11, x12] <;> rfl))); (focus (simp only [↓reduceIte, Fr.ev, pureOp, pFA, pFA1, pFA2, List.getElem?_cons_zero, List.getElem?_cons_succ, Nat.zero_add, Nat.add_zero, Nat.reduceEqDiff, Nat.add_eq, sz2, Tryz.underlying83, Tget_set, u5, pIA_s Tryz.underlying78 sz38 huN] <;> rfl)); (focus (simp only [put_mk, Nat.reduceLT, ↓reduceIte] <;> rfl)))
        | ((with_reducible apply g_read); (focus rfl); (focus rfl); (focus (first | rfl | (simp only [↓reduceIte, wantedA_eq, gBool_t, gBool_f, Bool.not_true, Bool.not_false, Bool.not_not, clsOf, clsCall, newBlk, allocOp, ev_tmp, Fr.ev, evs, evParts, ofV, ofA, ofS, ofSs, ofAs, nVar, AV.cells, rowOf_mk, put_mk, put_none, upd_mk, withH_mk, keyOf_mk, ky_inj, pureOp, readOp, T.get_e, pFA, pFA1, pFA2, rLd, rdAB_row, oneCell_one, someAgg_s, hget_same, hget_hset_ite, pBin, binA, intOp_eql, intOp_neq, intOp_lss, intOp_leq, intOp_gtr, intOp_geq, pPick, List.length_cons, List.length_nil, List.getElem?_cons_zero, List.getElem?_cons_succ, List.drop_zero, List.drop_succ_cons, List.take_succ_cons, List.take_zero, Nat.zero_add, Nat.add_zero, Nat.reduceAdd, Nat.reduceLT, Nat.reduceLeDiff, Nat.reduceEqDiff, Nat.reduceMul, Nat.reduceSub, Nat.succ_eq_add_one, if_true, if_false, true_and, and_true, and_self, List.toList_toArray, Nat.add_eq, Nat.mul_eq, Nat.sub_eq, loadA_w, loadW_a, loadW_s, aSt_w, stOut_s, wrAB_row, ovr, List.set_cons_zero, List.set_cons_succ, allCell, isCell, pUn_not, callTo_s, heavyCall, target, actOp, pEx, List.nil_append, List.append_nil, pNil, pBuild, pBuild2, fieldsOk, buildParts, List.getElem?_nil, pMkF, binA, eqIn, eqGuardOk, pF, pF1, partA, beq_self_eq_true, bne_self_eq_false, decide_true, decide_false, Int.reduceBEq, Int.reduceBNe, Int.reduceLT, Int.reduceLE, Int.reduceEq, Int.reduceNeg, Int.reduceAdd, Int.reduceSub, Bool.and_true, Bool.true_and, Bool.and_false, Bool.false_and, stepOp, stHeavy, stV_mk, stB_mk, stO_mk, T.get_n, T.set_n, T.set_e, Nat.reduceDiv, Nat.reduceMod, ofNat_z, sz2, ag2, zr2, Tryz.underlying2, sz3, ag3, zr3, Tryz.underlying3, sz37, ag37, zr37, Tryz.underlying37, sz38, ag38, zr38, Tryz.underlying38, sz78, ag78, zr78, Tryz.underlying78, sz83, ag83, zr83, Tryz.underlying83, stepAny, wantedA_none, rCall, rLen, rLen1_str, rLen1_sl, lenA, Tget_set, natOf_c, Nat.testBit_eq_decide_div_mod_eq, Nat.reducePow, addMade_nil, addMade_cons, mad1_t, mad1_o, mad1_f, addAll_nil, addAll_cons, readsLeft_nil, readsLeft_cons, rdl1_t, rdl1_f, readsOk_nil, readsOk_cons, rok1_s, asideOk_nil, asideOk_cons, asd1_n, asd1_s, av_str, av_int, av_bool, av_ptr, av_sl, av_nils, av_nili, av_agg, av_if, avs_nil, avs_cons, Bool.and_self, u0, u5, u11, u12, u13, hrow2, hxs, pIA_s Tryz.underlying78 sz38 huN, rd_a hxs, nBS_int sz2 zr2, hn10, aBuiltin, aApp, aApp2, ap, outOf, hk3, hkx, hk10, wr_a (v := .slice (ky F (lc + 15 + 11)) 0 0 (outs N ((edgesL L).take i) u ++ [y]).length none) hux rfl, x1, x2, x3, x4, x5, x6, x7, x8, x9, x10, x11, x12] <;> rfl))); (focus (simp only [↓reduceIte, Fr.ev, ky_inj, readOp, rLd, rdAB_row, oneCell_one, hget_same, hget_hset_ite, List.length_cons, List.length_nil, List.drop_zero, List.drop_succ_cons, List.take_succ_cons, List.take_zero, Nat.zero_add, Nat.reduceAdd, Nat.reduceLeDiff, loadA_w, loadW_s, sz2, ag2, sz38, ag38, Tget_set, addMade_nil, hrow2, rd_a hxs, x1] <;> rfl)); (focus (simp only [put_mk, Nat.reduceLT, ↓reduceIte] <;> rfl)))
        | ((with_reducible apply g_alloc); (focus rfl); (focus rfl); (focus (first | rfl | (simp only [↓reduceIte, wantedA_eq, gBool_t, gBool_f, Bool.not_true, Bool.not_false, Bool.not_not, clsOf, clsCall, newBlk, allocOp, ev_tmp, Fr.ev, evs, evParts, ofV, ofA, ofS, ofSs, ofAs, nVar, AV.cells, rowOf_mk, put_mk, put_none, upd_mk, withH_mk, keyOf_mk, ky_inj, pureOp, readOp, T.get_e, pFA, pFA1, pFA2, rLd, rdAB_row, oneCell_one, someAgg_s, hget_same, hget_hset_ite, pBin, binA, intOp_eql, intOp_neq, intOp_lss, intOp_leq, intOp_gtr, intOp_geq, pPick, List.length_cons, List.length_nil, List.getElem?_cons_zero, List.getElem?_cons_succ, List.drop_zero, List.drop_succ_cons, List.take_succ_cons, List.take_zero, Nat.zero_add, Nat.add_zero, Nat.reduceAdd, Nat.reduceLT, Nat.reduceLeDiff, Nat.reduceEqDiff, Nat.reduceMul, Nat.reduceSub, Nat.succ_eq_add_one, if_true, if_false, true_and, and_true, and_self, List.toList_toArray, Nat.add_eq, Nat.mul_eq, Nat.sub_eq, loadA_w, loadW_a, loadW_s, aSt_w, stOut_s, wrAB_row, ovr, List.set_cons_zero, List.set_cons_succ, allCell, isCell, pUn_not, callTo_s, heavyCall, target, actOp, pEx, List.nil_append, List.append_nil, pNil, pBuild, pBuild2, fieldsOk, buildParts, List.getElem?_nil, pMkF, binA, eqIn, eqGuardOk, pF, pF1, partA, beq_self_eq_true, bne_self_eq_false, decide_true, decide_false, Int.reduceBEq, Int.reduceBNe, Int.reduceLT, Int.reduceLE, Int.reduceEq, Int.reduceNeg, Int.reduceAdd, Int.reduceSub, Bool.and_true, Bool.true_and, Bool.and_false, Bool.false_and, stepOp, stHeavy, stV_mk, stB_mk, stO_mk, T.get_n, T.set_n, T.set_e, Nat.reduceDiv, Nat.reduceMod, ofNat_z, sz2, ag2, zr2, Tryz.underlying2, sz3, ag3, zr3, Tryz.underlying3, sz37, ag37, zr37, Tryz.underlying37, sz38, ag38, zr38, Tryz.underlying38, sz78, ag78, zr78, Tryz.underlying78, sz83, ag83, zr83, Tryz.underlying83, stepAny, wantedA_none, rCall, rLen, rLen1_str, rLen1_sl, lenA, Tget_set, natOf_c, Nat.testBit_eq_decide_div_mod_eq, Nat.reducePow, addMade_nil, addMade_cons, mad1_t, mad1_o, mad1_f, addAll_nil, addAll_cons, readsLeft_nil, readsLeft_cons, rdl1_t, rdl1_f, readsOk_nil, readsOk_cons, rok1_s, asideOk_nil, asideOk_cons, asd1_n, asd1_s, av_str, av_int, av_bool, av_ptr, av_sl, av_nils, av_nili, av_agg, av_if, avs_nil, avs_cons, Bool.and_self, u0, u5, u11, u12, u13, hrow2, hxs, pIA_s Tryz.underlying78 sz38 huN, rd_a hxs, nBS_int sz2 zr2, hn10, aBuiltin, aApp, aApp2, ap, outOf, hk3, hkx, hk10, wr_a (v := .slice (ky F (lc + 15 + 11)) 0 0 (outs N ((edgesL L).take i) u ++ [y]).length none) hux rfl, x1, x2, x3, x4, x5, x6, x7, x8, x9, x10, x11, x12] <;> rfl))); (focus (simp only [keyOf_mk] <;> rfl)); (focus (simp only [↓reduceIte, allocOp, Fr.ev, evParts, Tryz.underlying38, Tget_set, nBS_int sz2 zr2] <;> rfl)); (focus (simp only [↓reduceIte, ky_inj, hget_hset_ite, hn10, x8])); (focus (simp only [put_mk, Nat.reduceLT, ↓reduceIte] <;> rfl)))
        | ((with_reducible apply g_act); (focus rfl); (focus rfl); (focus rfl); (focus (first | rfl | (simp only [↓reduceIte, wantedA_eq, gBool_t, gBool_f, Bool.not_true, Bool.not_false, Bool.not_not, clsOf, clsCall, newBlk, allocOp, ev_tmp, Fr.ev, evs, evParts, ofV, ofA, ofS, ofSs, ofAs, nVar, AV.cells, rowOf_mk, put_mk, put_none, upd_mk, withH_mk, keyOf_mk, ky_inj, pureOp, readOp, T.get_e, pFA, pFA1, pFA2, rLd, rdAB_row, oneCell_one, someAgg_s, hget_same, hget_hset_ite, pBin, binA, intOp_eql, intOp_neq, intOp_lss, intOp_leq, intOp_gtr, intOp_geq, pPick, List.length_cons, List.length_nil, List.getElem?_cons_zero, List.getElem?_cons_succ, List.drop_zero, List.drop_succ_cons, List.take_succ_cons, List.take_zero, Nat.zero_add, Nat.add_zero, Nat.reduceAdd, Nat.reduceLT, Nat.reduceLeDiff, Nat.reduceEqDiff, Nat.reduceMul, Nat.reduceSub, Nat.succ_eq_add_one, if_true, if_false, true_and, and_true, and_self, List.toList_toArray, Nat.add_eq, Nat.mul_eq, Nat.sub_eq, loadA_w, loadW_a, loadW_s, aSt_w, stOut_s, wrAB_row, ovr, List.set_cons_zero, List.set_cons_succ, allCell, isCell, pUn_not, callTo_s, heavyCall, target, actOp, pEx, List.nil_append, List.append_nil, pNil, pBuild, pBuild2, fieldsOk, buildParts, List.getElem?_nil, pMkF, binA, eqIn, eqGuardOk, pF, pF1, partA, beq_self_eq_true, bne_self_eq_false, decide_true, decide_false, Int.reduceBEq, Int.reduceBNe, Int.reduceLT, Int.reduceLE, Int.reduceEq, Int.reduceNeg, Int.reduceAdd, Int.reduceSub, Bool.and_true, Bool.true_and, Bool.and_false, Bool.false_and, stepOp, stHeavy, stV_mk, stB_mk, stO_mk, T.get_n, T.set_n, T.set_e, Nat.reduceDiv, Nat.reduceMod, ofNat_z, sz2, ag2, zr2, Tryz.underlying2, sz3, ag3, zr3, Tryz.underlying3, sz37, ag37, zr37, Tryz.underlying37, sz38, ag38, zr38, Tryz.underlying38, sz78, ag78, zr78, Tryz.underlying78, sz83, ag83, zr83, Tryz.underlying83, stepAny, wantedA_none, rCall, rLen, rLen1_str, rLen1_sl, lenA, Tget_set, natOf_c, Nat.testBit_eq_decide_div_mod_eq, Nat.reducePow, addMade_nil, addMade_cons, mad1_t, mad1_o, mad1_f, addAll_nil, addAll_cons, readsLeft_nil, readsLeft_cons, rdl1_t, rdl1_f, readsOk_nil, readsOk_cons, rok1_s, asideOk_nil, asideOk_cons, asd1_n, asd1_s, av_str, av_int, av_bool, av_ptr, av_sl, av_nils, av_nili, av_agg, av_if, avs_nil, avs_cons, Bool.and_self, u0, u5, u11, u12, u13, hrow2, hxs, pIA_s Tryz.underlying78 sz38 huN, rd_a hxs, nBS_int sz2 zr2, hn10, aBuiltin, aApp, aApp2, ap, outOf, hk3, hkx, hk10, wr_a (v := .slice (ky F (lc + 15 + 11)) 0 0 (outs N ((edgesL L).take i) u ++ [y]).length none) hux rfl, x1, x2, x3, x4, x5, x6, x7, x8, x9, x10, x11, x12] <;> rfl))); (focus (simp only [heavy, ↓reduceIte, Fr.ev, AV.cells, withH_mk, keyOf_mk, ky_inj, hget_same, hget_hset_ite, List.length_cons, List.length_nil, Nat.zero_add, Nat.reduceEqDiff, aSt_w, stOut_s, heavyCall, actOp, decide_true, Nat.reduceDiv, Nat.reduceMod, sz38, Tget_set, Nat.testBit_eq_decide_div_mod_eq, Nat.reducePow, addMade_nil, addMade_cons, mad1_t, mad1_o, hrow2, hn10, aBuiltin, aApp, aApp2, ap, outOf, hk3, hk10, wr_a (v := .slice (ky F (lc + 15 + 11)) 0 0 (outs N ((edgesL L).take i) u ++ [y]).length none) hux rfl, x1, x2, x3, x8, x9] <;> rfl)); (focus (simp only [put_mk, put_none, Nat.reduceLT, ↓reduceIte] <;> rfl)); (focus (simp only [↓reduceIte, Fr.ev, ky_inj, readOp, rLd, rdAB_row, oneCell_one, hget_same, hget_hset_ite, List.length_cons, List.length_nil, List.drop_zero, List.take_succ_cons, List.take_zero, Nat.zero_add, Nat.reduceAdd, Nat.reduceLeDiff, Nat.reduceEqDiff, loadA_w, loadW_s, decide_true, decide_false, Nat.reduceDiv, Nat.reduceMod, sz2, ag2, Tget_set, Nat.testBit_eq_decide_div_mod_eq, Nat.reducePow, addMade_nil, addMade_cons, mad1_f, readsLeft_nil, readsLeft_cons, rdl1_t, rdl1_f, readsOk_nil, readsOk_cons, rok1_s, av_int, Bool.and_self, hkx, hk10, x5, x6, x9] <;> rfl)); (focus (simp only [↓reduceIte, ky_inj, hget_same, hget_hset_ite, decide_true, Nat.reduceDiv, Nat.reduceMod, Nat.testBit_eq_decide_div_mod_eq, Nat.reducePow, addMade_nil, addMade_cons, mad1_t, mad1_o, asideOk_nil, asideOk_cons, asd1_s, hn10, hk10, x7, x8, x9] <;> rfl)))
        | ((with_reducible apply r_drawL); (focus kernel_rfl); (focus kernel_rfl); (focus (first | exact Nat.le_of_ble_eq_true rfl | (simp only [List.length_cons, List.length_nil]; omega))))
        | ((with_reducible apply r_end); focus (simp only [Nat.add_assoc, Nat.reduceAdd, Nat.zero_add] <;> rfl))
        | ((with_reducible (first | apply r_move | apply r_assign)); (focus (simp only [Tget_set, Nat.reduceEqDiff, ↓reduceIte, u0] <;> rfl)); (focus (exact Nat.le_of_ble_eq_true rfl)))
        | ((with_reducible apply r_condT); (focus (simp only [Tget_set, ↓reduceIte] <;> rfl)))
        | ((with_reducible (first | apply r_any | apply r_cond)); focus (simp only [↓reduceIte, wantedA_eq, gBool_t, clsOf, clsCall, newBlk, allocOp, Fr.ev, evs, ofV, ofA, ofS, nVar, AV.cells, rowOf_mk, put_mk, put_none, upd_mk, keyOf_mk, pureOp, readOp, pFA, pFA1, pFA2, rLd, rdAB_row, oneCell_one, someAgg_s, hget_same, pBin, binA, intOp_lss, pPick, List.length_cons, List.length_nil, List.getElem?_cons_zero, List.getElem?_cons_succ, List.drop_zero, List.drop_succ_cons, List.take_succ_cons, List.take_zero, Nat.zero_add, Nat.add_zero, Nat.reduceAdd, Nat.reduceLT, Nat.reduceLeDiff, Nat.reduceEqDiff, and_self, Nat.add_eq, loadA_w, loadW_a, loadW_s, aSt_w, stOut_s, wrAB_row, ovr, List.set_cons_zero, List.set_cons_succ, allCell, isCell, callTo_s, heavyCall, target, actOp, List.nil_append, List.append_nil, binA, stepOp, stHeavy, stV_mk, stB_mk, stO_mk, sz2, ag2, sz83, ag83, zr83, Tryz.underlying83, stepAny, wantedA_none, Tget_set, u0, u11, u12, u13, lt_t hil, pIA_s Tryz.underlying37 sz83 hil, r0, kn_fn, KNf, dec_t hx, dec_t hy, intOp_add (inR_succ hil (show L.length ≤ maxLen by omega))] <;> rfl))
        | (with_reducible rw [ifQ_t])
        | (with_reducible rw [ifQ_f])
        | (with_reducible refine ifQ_intro ?_ ?_ <;> intro hb))
        have hg2 : gOf N ((edgesL L).take (i + 1)) = (gOf N ((edgesL L).take i)).set u (outs N ((edgesL L).take i) u ++ [y]) := by rw [htk]; exact gOf_hit rfl hok
        refine r_rq_n (k := L.length - (i + 1)) (by omega) ⟨_, _, _, i + 1, xs.set u (.slice (ky F (lc + 15 + 11)) 0 0 (outs N ((edgesL L).take i) u ++ [y]).length none), rfl, rfl, by omega, rfl, by omega, by omega, (by first | (simp only [Tget_set, Nat.reduceEqDiff, ↓reduceIte, u0] <;> rfl) | rfl), (by first | (simp only [Tget_set, Nat.reduceEqDiff, ↓reduceIte, u5] <;> rfl) | rfl), (by first | (simp only [Tget_set, Nat.reduceEqDiff, ↓reduceIte, u11] <;> rfl) | rfl), (by first | (simp only [Tget_set, Nat.reduceEqDiff, ↓reduceIte, u12] <;> rfl) | rfl), (by first | (simp only [Tget_set, ↓reduceIte] <;> rfl) | rfl), ?_, ?_, ?_⟩
        · refine ((?_ : Low F h0 _).set (Nat.le_refl F)).set (Nat.le_refl F)
          have : Low F h0 (hset (hset (hset h1 (ky F (lc + 1 + 2)) (mkRow [.int .i64 0, .int .i64 0] 0)) (ky F (lc + 1 + 2)) (mkRow [.int .i64 (u : Int), .int .i64 y] 0)) (ky F (lc + 15 + 10)) (mkRow [.int .i64 y] 1)) := ((hS.set (Nat.le_refl F)).set (Nat.le_refl F)).set (Nat.le_refl F)
          exact this.kill (hR2.il hG hxs)
        · intro c h2 h3
          rw [hget_hset_ite, if_neg (by rw [ky_inj]; omega), hget_hset_ite, if_neg (by rw [ky_inj]; omega), hR.kill_get hG hxs (.inl (by omega)), hget_hset_ite, if_neg (by rw [ky_inj]; omega), hget_hset_ite, if_neg (by rw [ky_inj]; omega), hget_hset_ite, if_neg (by rw [ky_inj]; omega)]
          exact hC c (by omega) h3
        · rw [hg2]
          exact (hR2.grow hG hxs (by omega) fun c hc => by rw [hget_hset_ite, if_neg (by rw [ky_inj]; omega)]).up (by omega)
      · have hg : gOf N ((edgesL L).take (i + 1)) = gOf N ((edgesL L).take i) := by rw [htk, gOf_miss]; rintro ⟨k1, k2, k3, k4⟩; simp only at k1 k2 k3 k4; exact hy ⟨by omega, by omega⟩
        repeat' (first
        | with_reducible refine r_seq ?_
        | with_reducible refine r_next ?_
        | with_reducible refine r_block ?_
        | with_reducible refine r_seq_exit ?_
        | with_reducible refine r_seq_ret ?_
        | with_reducible refine r_blk_n ?_
        | with_reducible refine r_blk_ret ?_
        | with_reducible refine r_blk_hit ?_
        | with_reducible refine r_blk_miss rfl ?_
        | with_reducible refine r_skip ?_
        | with_reducible refine r_exit ?_
        | with_reducible refine r_ret ?_
        | with_reducible refine r_rq_exit ?_
        | with_reducible refine r_rq_ret ?_
        | ((with_reducible apply r_regA); (focus (simp only [List.append_eq, List.cons_append, List.nil_append] <;> rfl)); (focus (first | exact Nat.le_of_ble_eq_true rfl | (simp only [List.length_cons, List.length_nil]; omega))))
        | ((with_reducible refine r_reg (List.toList_toArray) ?_ ?_); focus (first | exact Nat.le_of_ble_eq_true rfl | (simp only [List.length_cons, List.length_nil]; omega)))
        | ((with_reducible apply r_drawL); (focus kernel_rfl); (focus kernel_rfl); (focus (first | exact Nat.le_of_ble_eq_true rfl | (simp only [List.length_cons, List.length_nil]; omega))))
        | ((with_reducible apply r_end); focus (simp only [Nat.add_assoc, Nat.reduceAdd, Nat.zero_add] <;> rfl))
        | ((with_reducible (first | apply r_move | apply r_assign)); (focus (simp only [Tget_set, Nat.reduceEqDiff, ↓reduceIte, u0] <;> rfl)); (focus (exact Nat.le_of_ble_eq_true rfl)))
        | ((with_reducible apply r_condT); (focus (simp only [Tget_set, ↓reduceIte] <;> rfl)))
        | ((with_reducible (first | apply r_any | apply r_cond)); focus (simp only [↓reduceIte, wantedA_eq, gBool_t, clsOf, clsCall, newBlk, allocOp, Fr.ev, evs, ofV, ofA, ofS, nVar, AV.cells, rowOf_mk, put_mk, put_none, upd_mk, keyOf_mk, pureOp, readOp, pFA, pFA1, pFA2, rLd, rdAB_row, oneCell_one, someAgg_s, hget_same, pBin, binA, intOp_lss, pPick, List.length_cons, List.length_nil, List.getElem?_cons_zero, List.getElem?_cons_succ, List.drop_zero, List.drop_succ_cons, List.take_succ_cons, List.take_zero, Nat.zero_add, Nat.add_zero, Nat.reduceAdd, Nat.reduceLT, Nat.reduceLeDiff, Nat.reduceEqDiff, and_self, Nat.add_eq, loadA_w, loadW_a, loadW_s, aSt_w, stOut_s, wrAB_row, ovr, List.set_cons_zero, List.set_cons_succ, allCell, isCell, callTo_s, heavyCall, target, actOp, List.nil_append, List.append_nil, binA, stepOp, stHeavy, stV_mk, stB_mk, stO_mk, sz2, ag2, sz83, ag83, zr83, Tryz.underlying83, stepAny, wantedA_none, Tget_set, u0, u11, u12, u13, lt_t hil, pIA_s Tryz.underlying37 sz83 hil, r0, kn_fn, KNf, dec_t hx, dec_f hy, intOp_add (inR_succ hil (show L.length ≤ maxLen by omega))] <;> rfl))
        | (with_reducible rw [ifQ_t])
        | (with_reducible rw [ifQ_f])
        | (with_reducible refine ifQ_intro ?_ ?_ <;> intro hb))
        refine r_rq_n (k := L.length - (i + 1)) (by omega) ⟨_, _, _, i + 1, xs, rfl, rfl, by omega, rfl, by omega, by omega, (by first | (simp only [Tget_set, Nat.reduceEqDiff, ↓reduceIte, u0] <;> rfl) | rfl), (by first | (simp only [Tget_set, Nat.reduceEqDiff, ↓reduceIte, u5] <;> rfl) | rfl), (by first | (simp only [Tget_set, Nat.reduceEqDiff, ↓reduceIte, u11] <;> rfl) | rfl), (by first | (simp only [Tget_set, Nat.reduceEqDiff, ↓reduceIte, u12] <;> rfl) | rfl), (by first | (simp only [Tget_set, ↓reduceIte] <;> rfl) | rfl), (hS.set (Nat.le_refl F)).set (Nat.le_refl F), ?_, ?_⟩
        · intro c h2 h3
          rw [hget_hset_ite, if_neg (by rw [ky_inj]; omega), hget_hset_ite, if_neg (by rw [ky_inj]; omega)]
          exact hC c (by omega) h3
        · rw [hg]; exact ((hR.set (by omega)).set (by omega)).up (by omega)
    · have hg : gOf N ((edgesL L).take (i + 1)) = gOf N ((edgesL L).take i) := by rw [htk, gOf_miss]; rintro ⟨k1, k2, k3, k4⟩; simp only at k1 k2 k3 k4; exact hx ⟨by omega, by omega⟩
      repeat' (first
      | with_reducible refine r_seq ?_
      | with_reducible refine r_next ?_
      | with_reducible refine r_block ?_
      | with_reducible refine r_seq_exit ?_
      | with_reducible refine r_seq_ret ?_
      | with_reducible refine r_blk_n ?_
      | with_reducible refine r_blk_ret ?_
      | with_reducible refine r_blk_hit ?_
      | with_reducible refine r_blk_miss rfl ?_
      | with_reducible refine r_skip ?_
      | with_reducible refine r_exit ?_
      | with_reducible refine r_ret ?_
      | with_reducible refine r_rq_exit ?_
      | with_reducible refine r_rq_ret ?_
      | ((with_reducible apply r_regA); (focus (simp only [List.append_eq, List.cons_append, List.nil_append] <;> rfl)); (focus (first | exact Nat.le_of_ble_eq_true rfl | (simp only [List.length_cons, List.length_nil]; omega))))
      | ((with_reducible refine r_reg (List.toList_toArray) ?_ ?_); focus (first | exact Nat.le_of_ble_eq_true rfl | (simp only [List.length_cons, List.length_nil]; omega)))
      | ((with_reducible apply r_drawL); (focus kernel_rfl); (focus kernel_rfl); (focus (first | exact Nat.le_of_ble_eq_true rfl | (simp only [List.length_cons, List.length_nil]; omega))))
      | ((with_reducible apply r_end); focus (simp only [Nat.add_assoc, Nat.reduceAdd, Nat.zero_add] <;> rfl))
      | ((with_reducible (first | apply r_move | apply r_assign)); (focus (simp only [Tget_set, Nat.reduceEqDiff, ↓reduceIte, u0] <;> rfl)); (focus (exact Nat.le_of_ble_eq_true rfl)))
      | ((with_reducible apply r_condT); (focus (simp only [Tget_set, ↓reduceIte] <;> rfl)))
      | ((with_reducible (first | apply r_any | apply r_cond)); focus (simp only [↓reduceIte, wantedA_eq, gBool_t, clsOf, clsCall, newBlk, allocOp, Fr.ev, evs, ofV, ofA, ofS, nVar, AV.cells, rowOf_mk, put_mk, put_none, upd_mk, keyOf_mk, pureOp, readOp, pFA, pFA1, pFA2, rLd, rdAB_row, oneCell_one, someAgg_s, hget_same, pBin, binA, intOp_lss, pPick, List.length_cons, List.length_nil, List.getElem?_cons_zero, List.getElem?_cons_succ, List.drop_zero, List.take_succ_cons, List.take_zero, Nat.zero_add, Nat.add_zero, Nat.reduceAdd, Nat.reduceLT, Nat.reduceLeDiff, Nat.reduceEqDiff, and_self, Nat.add_eq, loadA_w, loadW_a, loadW_s, aSt_w, stOut_s, wrAB_row, ovr, List.set_cons_zero, List.set_cons_succ, allCell, isCell, callTo_s, heavyCall, target, actOp, List.nil_append, List.append_nil, binA, stepOp, stHeavy, stV_mk, stB_mk, stO_mk, sz2, ag2, sz83, ag83, zr83, Tryz.underlying83, stepAny, wantedA_none, Tget_set, u11, u12, u13, lt_t hil, pIA_s Tryz.underlying37 sz83 hil, r0, kn_fn, KNf, dec_f hx, intOp_add (inR_succ hil (show L.length ≤ maxLen by omega))] <;> rfl))
      | (with_reducible rw [ifQ_t])
      | (with_reducible rw [ifQ_f])
      | (with_reducible refine ifQ_intro ?_ ?_ <;> intro hb))
      refine r_rq_n (k := L.length - (i + 1)) (by omega) ⟨_, _, _, i + 1, xs, rfl, rfl, by omega, rfl, by omega, by omega, (by first | (simp only [Tget_set, Nat.reduceEqDiff, ↓reduceIte, u0] <;> rfl) | rfl), (by first | (simp only [Tget_set, Nat.reduceEqDiff, ↓reduceIte, u5] <;> rfl) | rfl), (by first | (simp only [Tget_set, Nat.reduceEqDiff, ↓reduceIte, u11] <;> rfl) | rfl), (by first | (simp only [Tget_set, Nat.reduceEqDiff, ↓reduceIte, u12] <;> rfl) | rfl), (by first | (simp only [Tget_set, ↓reduceIte] <;> rfl) | rfl), (hS.set (Nat.le_refl F)).set (Nat.le_refl F), ?_, ?_⟩
      · intro c h2 h3
        rw [hget_hset_ite, if_neg (by rw [ky_inj]; omega), hget_hset_ite, if_neg (by rw [ky_inj]; omega)]
        exact hC c (by omega) h3
      · rw [hg]; exact ((hR.set (by omega)).set (by omega)).up (by omega)
  · have hend : i = L.length := by omega
    rw [hend, List.take_of_length_le (by rw [edgesL_len]; exact Nat.le_refl _)] at hR
    repeat' (first
    | with_reducible refine r_seq ?_
    | with_reducible refine r_next ?_
    | with_reducible refine r_block ?_
    | with_reducible refine r_seq_exit ?_
    | with_reducible refine r_seq_ret ?_
    | with_reducible refine r_blk_n ?_
    | with_reducible refine r_blk_ret ?_
    | with_reducible refine r_blk_hit ?_
    | with_reducible refine r_blk_miss rfl ?_
    | with_reducible refine r_skip ?_
    | with_reducible refine r_exit ?_
    | with_reducible refine r_ret ?_
    | with_reducible refine r_rq_exit ?_
    | with_reducible refine r_rq_ret ?_
    | ((with_reducible apply r_regA); (focus (simp only [List.append_eq, List.cons_append, List.nil_append] <;> rfl)); (focus (first | exact Nat.le_of_ble_eq_true rfl | (simp only [List.length_cons, List.length_nil]; omega))))
    | ((with_reducible refine r_reg (List.toList_toArray) ?_ ?_); focus (first | exact Nat.le_of_ble_eq_true rfl | (simp only [List.length_cons, List.length_nil]; omega)))
    | ((with_reducible apply r_drawL); (focus kernel_rfl); (focus kernel_rfl); (focus (first | exact Nat.le_of_ble_eq_true rfl | (simp only [List.length_cons, List.length_nil]; omega))))
    | ((with_reducible apply r_end); focus (simp only [Nat.add_assoc, Nat.reduceAdd, Nat.zero_add] <;> rfl))
    | ((with_reducible (first | apply r_move | apply r_assign)); (focus (simp only [Tget_set, Nat.reduceEqDiff, ↓reduceIte, u5] <;> rfl)); (focus (exact Nat.le_of_ble_eq_true rfl)))
    | ((with_reducible apply r_condT); (focus (simp only [Tget_set, ↓reduceIte] <;> rfl)))
    | ((with_reducible (first | apply r_any | apply r_cond)); focus (simp only [↓reduceIte, clsOf, Fr.ev, put_mk, pureOp, pBin, binA, intOp_lss, Nat.reduceLT, binA, stepOp, stV_mk, stepAny, wantedA_none, u12, u13, lt_f hil] <;> rfl))
    | (with_reducible rw [ifQ_t])
    | (with_reducible rw [ifQ_f])
    | (with_reducible refine ifQ_intro ?_ ?_ <;> intro hb))
    subst hQ
    refine ret_back (by simp only [Tryz.results38, resultOf, resultsA, resultA, List.toList_toArray, Fr.ev, Tget_set, ↓reduceIte] <;> rfl) ?_
    have hlow' := hlow.trans hS
    refine ⟨_, _, rfl, hlow', hlow'.same hwf, ?_⟩
    have := hR.lst (by omega) (fun g hg => ?_) (by rw [gOf_len]; omega)
    · rw [gOf_len] at this; rw [hN]; exact this
    · obtain ⟨u, _, rfl⟩ := List.mem_map.1 hg
      refine ⟨by have := outs_len N (edgesL L) u; rw [edgesL_len] at this; omega, fun z hz => ?_⟩
      obtain ⟨v, rfl, hv⟩ := mem_outs.1 hz
      have := hv.2.2
      omega

end Go.Proofs.YtpgkhpfogjclhaaGreatDoor
