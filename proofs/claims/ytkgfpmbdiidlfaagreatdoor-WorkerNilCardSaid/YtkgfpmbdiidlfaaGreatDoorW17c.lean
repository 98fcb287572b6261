/- A part of the proof of the law WorkerNil. CONDITIONS: those that each theorem names. -/
import Derived.Test.YtkgfpmbdiidlfaaGreatDoorW17a
import Derived.Test.YtkgfpmbdiidlfaaGreatDoorS17Live
import Derived.Test.YtkgfpmbdiidlfaaGreatDoorEngineD
namespace Go.Proofs.YtkgfpmbdiidlfaaGreatDoor
open Go Go.Ai
set_option maxRecDepth 100000
noncomputable def K1 : CallF := fun f args s => match f, args with
  | 5, [] => some [.val (.bool true) s]
  | 6, [.nilp] => some [.val (.tup [.agg [.int .i64 0, .int .i64 0, .int .i64 0, .int .i64 0, .nils], .bool false]) s]
  | 7, [.nilp, .nilp, .int .i64 _] => some [.val (.tup [.nilp, .int .i64 2]) s]
  | 8, [.nilp, _] => some [.val (.bool false) s]
  | 9, [.nilp] => some [.val (.bool false) s]
  | 10, [.nilp] => some [.val (.int .i64 0) s]
  | 12, [.int .i64 n] => some [.val (.int .i64 n) s]
  | _, _ => none
theorem k1_ok : KOK Tryz.prog [] K1 := by
  intro f args s outs h
  obtain ⟨h0, F⟩ := s
  unfold K1 at h
  split at h
  · cases h; obtain ⟨_, hc⟩ := body5; exact snd_true x2_ok mixed noNum run5 Tryz.func5 hc _
  · cases h; exact release_nil _ _
  · cases h; exact new_nil _ _ _
  · cases h; exact take_nil _ _ _
  · cases h; exact step_nil _ _
  · cases h; exact phase_nil _ _
  · cases h; exact num_ok _ _ _
  · cases h

theorem seq_nil (h : Heap) (F : Nat) : Snd Tryz.prog [] 11 [.nilp] ⟨h, F⟩ [.val (.int .i64 (-1)) ⟨h, F⟩] := by
  refine snd_val (by simp [Kin]) fun hw => ?_
  refine sndQ_body (K := K1) k1_ok mixed noNum (m := 0) Tryz.func11 ?_
  generalize hQ : retQ _ _ _ _ _ _ = Q0
  refine body_go (c := Tryz.f11.body.getD .skip) (n := 11) rfl rfl (by simp only [↓reduceIte, T.setList, T.set_e] <;> rfl) ?_
  simp only [Tryz.f11, Option.getD_some]
  repeat' (first
      | with_reducible refine r_seq ?_
      | with_reducible refine r_next ?_
      | with_reducible refine r_block ?_
      | with_reducible refine r_seq_exit ?_
      | with_reducible refine r_seq_ret ?_
      | with_reducible refine r_blk_n ?_
      | with_reducible refine r_blk_ret ?_
      | with_reducible refine r_blk_hit ?_
      | with_reducible refine r_blk_miss rfl ?_
      | with_reducible refine r_skip ?_
      | with_reducible refine r_exit ?_
      | with_reducible refine r_ret ?_
      | ((with_reducible refine r_reg (List.toList_toArray) ?_ ?_); focus (simp only [List.length_cons, List.length_nil, Nat.reduceAdd, Nat.reduceLeDiff, Nat.zero_add]; done))
      | ((with_reducible apply r_end); focus (simp only [Nat.reduceAdd, Nat.zero_add] <;> rfl))
      | ((with_reducible apply r_step); focus (simp only [↓reduceIte, clsOf, clsCall, Fr.ev, evs, ofV, ofA, ofS, put_mk, pureOp, pBin, binA, intOp_eql, Nat.reduceLT, Nat.reduceEqDiff, Nat.reduceSub, callTo_s, heavyCall, target, List.nil_append, List.append_nil, binA, beq_self_eq_true, Int.reduceNeg, stepOp, stHeavy, stV_mk, stO_mk, T.get_n, T.set_n, T.set_e, Nat.reduceDiv, Nat.reduceMod, K1] <;> rfl))
      | ((with_reducible apply r_stepT); ((focus (simp only [↓reduceIte, wantedA_eq, gBool_t, gBool_f, Bool.not_true, Bool.not_false, Bool.not_not, clsOf, clsCall, newBlk, allocOp, ev_tmp, Fr.ev, evs, evParts, ofV, ofA, ofS, ofSs, ofAs, nVar, AV.cells, rowOf_mk, put_mk, put_none, upd_mk, withH_mk, keyOf_mk, ky_inj, pureOp, readOp, T.get_e, pFA, pFA1, pFA2, rLd, rdAB_row, oneCell_one, someAgg_s, hget_same, hget_hset_ite, pBin, binA, intOp_eql, intOp_neq, intOp_lss, intOp_leq, intOp_gtr, intOp_geq, pPick, List.length_cons, List.length_nil, List.getElem?_cons_zero, List.getElem?_cons_succ, List.drop_zero, List.drop_succ_cons, List.take_succ_cons, List.take_zero, Nat.zero_add, Nat.add_zero, Nat.reduceAdd, Nat.reduceLT, Nat.reduceLeDiff, Nat.reduceEqDiff, Nat.reduceMul, Nat.reduceSub, Nat.succ_eq_add_one, if_true, if_false, true_and, and_true, and_self, List.toList_toArray, Nat.add_eq, Nat.mul_eq, Nat.sub_eq, loadA_w, loadW_a, loadW_s, aSt_w, stOut_s, wrAB_row, ovr, List.set_cons_zero, List.set_cons_succ, allCell, isCell, pUn_not, callTo_s, heavyCall, target, actOp, pEx, List.nil_append, List.append_nil, pNil, pBuild, pBuild2, fieldsOk, buildParts, List.getElem?_nil, pMkF, binA, eqIn, eqGuardOk, pF, pF1, partA, beq_self_eq_true, bne_self_eq_false, decide_true, decide_false, Int.reduceBEq, Int.reduceBNe, Int.reduceLT, Int.reduceLE, Int.reduceEq, Int.reduceNeg, Int.reduceAdd, Int.reduceSub, Bool.and_true, Bool.true_and, Bool.and_false, Bool.false_and, stepOp, stHeavy, stV_mk, stB_mk, stO_mk, T.get_n, T.set_n, T.set_e, Nat.reduceDiv, Nat.reduceMod, sz2, ag2, zr2, Tryz.underlying2, sz3, ag3, zr3, Tryz.underlying3, sz4, ag4, zr4, Tryz.underlying4, sz9, ag9, zr9, Tryz.underlying9, sz23, ag23, zr23, Tryz.underlying23, sz24, ag24, zr24, Tryz.underlying24, sz26, ag26, zr26, Tryz.underlying26, sz27, ag27, zr27, Tryz.underlying27, sz29, ag29, zr29, Tryz.underlying29, sz31, ag31, zr31, Tryz.underlying31, sz33, ag33, zr33, Tryz.underlying33, sz34, ag34, zr34, Tryz.underlying34, sz36, ag36, zr36, Tryz.underlying36, sz48, ag48, zr48, Tryz.underlying48, sz49, ag49, zr49, Tryz.underlying49, sz55, ag55, zr55, Tryz.underlying55, sz61, ag61, zr61, Tryz.underlying61, sz62, ag62, zr62, Tryz.underlying62, sz63, ag63, zr63, Tryz.underlying63, sz70, ag70, zr70, Tryz.underlying70, sz73, ag73, zr73, Tryz.underlying73, K1]; done))); focus (simp only [↓reduceIte, wantedA_eq, gBool_t, gBool_f, Bool.not_true, Bool.not_false, Bool.not_not, clsOf, clsCall, newBlk, allocOp, ev_tmp, Fr.ev, evs, evParts, ofV, ofA, ofS, ofSs, ofAs, nVar, AV.cells, rowOf_mk, put_mk, put_none, upd_mk, withH_mk, keyOf_mk, ky_inj, pureOp, readOp, T.get_e, pFA, pFA1, pFA2, rLd, rdAB_row, oneCell_one, someAgg_s, hget_same, hget_hset_ite, pBin, binA, intOp_eql, intOp_neq, intOp_lss, intOp_leq, intOp_gtr, intOp_geq, pPick, List.length_cons, List.length_nil, List.getElem?_cons_zero, List.getElem?_cons_succ, List.drop_zero, List.drop_succ_cons, List.take_succ_cons, List.take_zero, Nat.zero_add, Nat.add_zero, Nat.reduceAdd, Nat.reduceLT, Nat.reduceLeDiff, Nat.reduceEqDiff, Nat.reduceMul, Nat.reduceSub, Nat.succ_eq_add_one, if_true, if_false, true_and, and_true, and_self, List.toList_toArray, Nat.add_eq, Nat.mul_eq, Nat.sub_eq, loadA_w, loadW_a, loadW_s, aSt_w, stOut_s, wrAB_row, ovr, List.set_cons_zero, List.set_cons_succ, allCell, isCell, pUn_not, callTo_s, heavyCall, target, actOp, pEx, List.nil_append, List.append_nil, pNil, pBuild, pBuild2, fieldsOk, buildParts, List.getElem?_nil, pMkF, binA, eqIn, eqGuardOk, pF, pF1, partA, beq_self_eq_true, bne_self_eq_false, decide_true, decide_false, Int.reduceBEq, Int.reduceBNe, Int.reduceLT, Int.reduceLE, Int.reduceEq, Int.reduceNeg, Int.reduceAdd, Int.reduceSub, Bool.and_true, Bool.true_and, Bool.and_false, Bool.false_and, stepOp, stHeavy, stV_mk, stB_mk, stO_mk, T.get_n, T.set_n, T.set_e, Nat.reduceDiv, Nat.reduceMod, sz2, ag2, zr2, Tryz.underlying2, sz3, ag3, zr3, Tryz.underlying3, sz4, ag4, zr4, Tryz.underlying4, sz9, ag9, zr9, Tryz.underlying9, sz23, ag23, zr23, Tryz.underlying23, sz24, ag24, zr24, Tryz.underlying24, sz26, ag26, zr26, Tryz.underlying26, sz27, ag27, zr27, Tryz.underlying27, sz29, ag29, zr29, Tryz.underlying29, sz31, ag31, zr31, Tryz.underlying31, sz33, ag33, zr33, Tryz.underlying33, sz34, ag34, zr34, Tryz.underlying34, sz36, ag36, zr36, Tryz.underlying36, sz48, ag48, zr48, Tryz.underlying48, sz49, ag49, zr49, Tryz.underlying49, sz55, ag55, zr55, Tryz.underlying55, sz61, ag61, zr61, Tryz.underlying61, sz62, ag62, zr62, Tryz.underlying62, sz63, ag63, zr63, Tryz.underlying63, sz70, ag70, zr70, Tryz.underlying70, sz73, ag73, zr73, Tryz.underlying73, K1] <;> rfl))
      | ((with_reducible apply r_stepF); ((focus (simp only [↓reduceIte, wantedA_eq, gBool_t, gBool_f, Bool.not_true, Bool.not_false, Bool.not_not, clsOf, clsCall, newBlk, allocOp, ev_tmp, Fr.ev, evs, evParts, ofV, ofA, ofS, ofSs, ofAs, nVar, AV.cells, rowOf_mk, put_mk, put_none, upd_mk, withH_mk, keyOf_mk, ky_inj, pureOp, readOp, T.get_e, pFA, pFA1, pFA2, rLd, rdAB_row, oneCell_one, someAgg_s, hget_same, hget_hset_ite, pBin, binA, intOp_eql, intOp_neq, intOp_lss, intOp_leq, intOp_gtr, intOp_geq, pPick, List.length_cons, List.length_nil, List.getElem?_cons_zero, List.getElem?_cons_succ, List.drop_zero, List.drop_succ_cons, List.take_succ_cons, List.take_zero, Nat.zero_add, Nat.add_zero, Nat.reduceAdd, Nat.reduceLT, Nat.reduceLeDiff, Nat.reduceEqDiff, Nat.reduceMul, Nat.reduceSub, Nat.succ_eq_add_one, if_true, if_false, true_and, and_true, and_self, List.toList_toArray, Nat.add_eq, Nat.mul_eq, Nat.sub_eq, loadA_w, loadW_a, loadW_s, aSt_w, stOut_s, wrAB_row, ovr, List.set_cons_zero, List.set_cons_succ, allCell, isCell, pUn_not, callTo_s, heavyCall, target, actOp, pEx, List.nil_append, List.append_nil, pNil, pBuild, pBuild2, fieldsOk, buildParts, List.getElem?_nil, pMkF, binA, eqIn, eqGuardOk, pF, pF1, partA, beq_self_eq_true, bne_self_eq_false, decide_true, decide_false, Int.reduceBEq, Int.reduceBNe, Int.reduceLT, Int.reduceLE, Int.reduceEq, Int.reduceNeg, Int.reduceAdd, Int.reduceSub, Bool.and_true, Bool.true_and, Bool.and_false, Bool.false_and, stepOp, stHeavy, stV_mk, stB_mk, stO_mk, T.get_n, T.set_n, T.set_e, Nat.reduceDiv, Nat.reduceMod, sz2, ag2, zr2, Tryz.underlying2, sz3, ag3, zr3, Tryz.underlying3, sz4, ag4, zr4, Tryz.underlying4, sz9, ag9, zr9, Tryz.underlying9, sz23, ag23, zr23, Tryz.underlying23, sz24, ag24, zr24, Tryz.underlying24, sz26, ag26, zr26, Tryz.underlying26, sz27, ag27, zr27, Tryz.underlying27, sz29, ag29, zr29, Tryz.underlying29, sz31, ag31, zr31, Tryz.underlying31, sz33, ag33, zr33, Tryz.underlying33, sz34, ag34, zr34, Tryz.underlying34, sz36, ag36, zr36, Tryz.underlying36, sz48, ag48, zr48, Tryz.underlying48, sz49, ag49, zr49, Tryz.underlying49, sz55, ag55, zr55, Tryz.underlying55, sz61, ag61, zr61, Tryz.underlying61, sz62, ag62, zr62, Tryz.underlying62, sz63, ag63, zr63, Tryz.underlying63, sz70, ag70, zr70, Tryz.underlying70, sz73, ag73, zr73, Tryz.underlying73, K1]; done))); focus (simp only [↓reduceIte, put_mk, T.set_n, T.set_e, Nat.reduceDiv, Nat.reduceMod, Nat.reduceLT, Nat.reduceEqDiff, Nat.reduceSub, if_true, if_false, Nat.reduceAdd] <;> rfl))
      | ((with_reducible apply r_cond); focus (simp only [↓reduceIte, Fr.ev, Nat.reduceEqDiff, Nat.reduceSub, T.get_n, Nat.reduceDiv, Nat.reduceMod] <;> rfl))
      | (with_reducible rw [ifQ_t])
      | (with_reducible rw [ifQ_f])
      | (with_reducible refine ifQ_intro ?_ ?_ <;> intro hb))
  all_goals
    subst hQ
    refine ret_back (by simp only [↓reduceIte, Fr.ev, Nat.reduceEqDiff, Nat.reduceSub, List.toList_toArray, Int.reduceNeg, T.get_n, Nat.reduceDiv, Nat.reduceMod, Tryz.results11, resultOf, resultsA, resultA] <;> rfl) ⟨_, rfl, ?_⟩
    repeat (first | exact Same.base _ _ _ | refine Same.hset hw ?_ (ky_le _ _))

noncomputable def K2 : CallF := fun f args s => match f, args with
  | 11, [.nilp] => some [.val (.int .i64 (-1)) s]
  | f, args => K1 f args s
theorem k2_ok : KOK Tryz.prog [] K2 := by
  intro f args s outs h
  unfold K2 at h
  split at h
  · cases h; obtain ⟨h0, F⟩ := s; exact seq_nil _ _
  · exact k1_ok _ _ _ _ h
theorem k2_at (f : FuncId) (args : List AV) (s : St) (h : f ≠ 11) : K2 f args s = K1 f args s := by
  unfold K2; split
  · exact absurd rfl h
  · rfl

theorem nil_law (as' : List AV) (hl : as'.length = 9) (n : Int) (h : Heap) (F : Nat) : SndQ Tryz.prog [] 4 [.agg as', .int .i64 n] ⟨h, F⟩ (fun o => ∃ s', o = .val (.bool true) s') := by
  refine sndQ_body (K := K2) k2_ok mixed noNum (m := 0) Tryz.func4 ?_
  generalize hQ : retQ _ _ _ _ _ _ = Q0
  refine body_go (c := Tryz.f4.body.getD .skip) (n := 60) rfl rfl (by simp only [↓reduceIte, T.setList, T.set_e, T.set_n, Nat.reduceDiv, Nat.reduceMod, Nat.reduceEqDiff, Nat.zero_add] <;> rfl) ?_
  simp only [Tryz.f4, Option.getD_some]
  repeat' (first
      | with_reducible refine r_seq ?_
      | with_reducible refine r_next ?_
      | with_reducible refine r_block ?_
      | with_reducible refine r_seq_exit ?_
      | with_reducible refine r_seq_ret ?_
      | with_reducible refine r_blk_n ?_
      | with_reducible refine r_blk_ret ?_
      | with_reducible refine r_blk_hit ?_
      | with_reducible refine r_blk_miss rfl ?_
      | with_reducible refine r_skip ?_
      | with_reducible refine r_exit ?_
      | with_reducible refine r_ret ?_
      | ((with_reducible refine r_reg (List.toList_toArray) ?_ ?_); focus (simp only [List.length_cons, List.length_nil, Nat.reduceAdd, Nat.reduceLeDiff, Nat.zero_add]; done))
      | ((with_reducible apply r_end); focus (simp only [Nat.reduceAdd, Nat.zero_add] <;> rfl))
      | ((with_reducible apply r_step); focus (simp only [↓reduceIte, Bool.not_false, clsOf, clsCall, newBlk, allocOp, Fr.ev, evs, ofV, ofA, ofS, nVar, AV.cells, rowOf_mk, put_mk, put_none, upd_mk, keyOf_mk, ky_inj, pureOp, readOp, rLd, rdAB_row, someAgg_s, hget_same, hget_hset_ite, pPick, List.length_cons, List.length_nil, List.getElem?_cons_zero, List.getElem?_cons_succ, List.drop_zero, Nat.zero_add, Nat.add_zero, Nat.reduceAdd, Nat.reduceLT, Nat.reduceLeDiff, Nat.reduceEqDiff, Nat.reduceSub, and_self, loadA_w, loadW_a, aSt_w, stOut_s, wrAB_row, ovr, List.set_cons_zero, List.set_cons_succ, allCell, isCell, pUn_not, callTo_s, heavyCall, target, actOp, pEx, List.nil_append, List.append_nil, Int.reduceNeg, stepOp, stHeavy, stV_mk, stB_mk, stO_mk, T.get_n, T.set_n, T.set_e, Nat.reduceDiv, Nat.reduceMod, sz33, ag33, sz36, zr36, K2, K1, hl] <;> rfl))
      | ((with_reducible apply r_stepT); ((focus (simp only [↓reduceIte, wantedA_eq, gBool_t, List.getElem?_cons_zero, List.getElem?_cons_succ, Nat.reduceEqDiff, Nat.reduceSub, Int.reduceNeg, T.get_n, Nat.reduceDiv, Nat.reduceMod]; done))); focus (simp only [↓reduceIte, Bool.not_false, clsOf, clsCall, Fr.ev, evs, ofV, ofA, ofS, put_mk, pureOp, readOp, pFA, pFA1, pFA2, rLd, rdAB_row, oneCell_one, hget_same, pBin, binA, intOp_eql, List.length_cons, List.length_nil, List.getElem?_cons_zero, List.getElem?_cons_succ, List.drop_zero, List.drop_succ_cons, List.take_succ_cons, List.take_zero, Nat.zero_add, Nat.reduceAdd, Nat.reduceLT, Nat.reduceLeDiff, Nat.reduceEqDiff, Nat.reduceSub, Nat.add_eq, loadA_w, loadW_s, pUn_not, callTo_s, heavyCall, target, List.nil_append, List.append_nil, binA, eqIn, eqGuardOk, beq_self_eq_true, Int.reduceNeg, stepOp, stHeavy, stV_mk, stO_mk, T.get_n, T.set_n, T.set_e, Nat.reduceDiv, Nat.reduceMod, sz3, ag3, Tryz.underlying34, Tryz.underlying36, K2, K1] <;> rfl))
      | ((with_reducible apply r_stepF); ((focus (simp only [↓reduceIte, wantedA_eq, gBool_t, gBool_f, Bool.not_true, Bool.not_false, Bool.not_not, clsOf, clsCall, newBlk, allocOp, ev_tmp, Fr.ev, evs, evParts, ofV, ofA, ofS, ofSs, ofAs, nVar, AV.cells, rowOf_mk, put_mk, put_none, upd_mk, withH_mk, keyOf_mk, ky_inj, pureOp, readOp, T.get_e, pFA, pFA1, pFA2, rLd, rdAB_row, oneCell_one, someAgg_s, hget_same, hget_hset_ite, pBin, binA, intOp_eql, intOp_neq, intOp_lss, intOp_leq, intOp_gtr, intOp_geq, pPick, List.length_cons, List.length_nil, List.getElem?_cons_zero, List.getElem?_cons_succ, List.drop_zero, List.drop_succ_cons, List.take_succ_cons, List.take_zero, Nat.zero_add, Nat.add_zero, Nat.reduceAdd, Nat.reduceLT, Nat.reduceLeDiff, Nat.reduceEqDiff, Nat.reduceMul, Nat.reduceSub, Nat.succ_eq_add_one, if_true, if_false, true_and, and_true, and_self, List.toList_toArray, Nat.add_eq, Nat.mul_eq, Nat.sub_eq, loadA_w, loadW_a, loadW_s, aSt_w, stOut_s, wrAB_row, ovr, List.set_cons_zero, List.set_cons_succ, allCell, isCell, pUn_not, callTo_s, heavyCall, target, actOp, pEx, List.nil_append, List.append_nil, pNil, pBuild, pBuild2, fieldsOk, buildParts, List.getElem?_nil, pMkF, binA, eqIn, eqGuardOk, pF, pF1, partA, beq_self_eq_true, bne_self_eq_false, decide_true, decide_false, Int.reduceBEq, Int.reduceBNe, Int.reduceLT, Int.reduceLE, Int.reduceEq, Int.reduceNeg, Int.reduceAdd, Int.reduceSub, Bool.and_true, Bool.true_and, Bool.and_false, Bool.false_and, stepOp, stHeavy, stV_mk, stB_mk, stO_mk, T.get_n, T.set_n, T.set_e, Nat.reduceDiv, Nat.reduceMod, sz2, ag2, zr2, Tryz.underlying2, sz3, ag3, zr3, Tryz.underlying3, sz4, ag4, zr4, Tryz.underlying4, sz9, ag9, zr9, Tryz.underlying9, sz23, ag23, zr23, Tryz.underlying23, sz24, ag24, zr24, Tryz.underlying24, sz26, ag26, zr26, Tryz.underlying26, sz27, ag27, zr27, Tryz.underlying27, sz29, ag29, zr29, Tryz.underlying29, sz31, ag31, zr31, Tryz.underlying31, sz33, ag33, zr33, Tryz.underlying33, sz34, ag34, zr34, Tryz.underlying34, sz36, ag36, zr36, Tryz.underlying36, sz39, ag39, zr39, Tryz.underlying39, sz48, ag48, zr48, Tryz.underlying48, sz49, ag49, zr49, Tryz.underlying49, sz55, ag55, zr55, Tryz.underlying55, K2, K1, hl]; done))); focus (simp only [↓reduceIte, put_mk, T.set_n, T.set_e, Nat.reduceDiv, Nat.reduceMod, Nat.reduceLT, Nat.reduceEqDiff, Nat.reduceSub, if_true, if_false, Nat.reduceAdd] <;> rfl))
      | ((with_reducible apply r_cond); focus (simp only [↓reduceIte, wantedA_eq, gBool_t, gBool_f, Bool.not_true, Bool.not_false, Bool.not_not, clsOf, clsCall, newBlk, allocOp, ev_tmp, Fr.ev, evs, evParts, ofV, ofA, ofS, ofSs, ofAs, nVar, AV.cells, rowOf_mk, put_mk, put_none, upd_mk, withH_mk, keyOf_mk, ky_inj, pureOp, readOp, T.get_e, pFA, pFA1, pFA2, rLd, rdAB_row, oneCell_one, someAgg_s, hget_same, hget_hset_ite, pBin, binA, intOp_eql, intOp_neq, intOp_lss, intOp_leq, intOp_gtr, intOp_geq, pPick, List.length_cons, List.length_nil, List.getElem?_cons_zero, List.getElem?_cons_succ, List.drop_zero, List.drop_succ_cons, List.take_succ_cons, List.take_zero, Nat.zero_add, Nat.add_zero, Nat.reduceAdd, Nat.reduceLT, Nat.reduceLeDiff, Nat.reduceEqDiff, Nat.reduceMul, Nat.reduceSub, Nat.succ_eq_add_one, if_true, if_false, true_and, and_true, and_self, List.toList_toArray, Nat.add_eq, Nat.mul_eq, Nat.sub_eq, loadA_w, loadW_a, loadW_s, aSt_w, stOut_s, wrAB_row, ovr, List.set_cons_zero, List.set_cons_succ, allCell, isCell, pUn_not, callTo_s, heavyCall, target, actOp, pEx, List.nil_append, List.append_nil, pNil, pBuild, pBuild2, fieldsOk, buildParts, List.getElem?_nil, pMkF, binA, eqIn, eqGuardOk, pF, pF1, partA, beq_self_eq_true, bne_self_eq_false, decide_true, decide_false, Int.reduceBEq, Int.reduceBNe, Int.reduceLT, Int.reduceLE, Int.reduceEq, Int.reduceNeg, Int.reduceAdd, Int.reduceSub, Bool.and_true, Bool.true_and, Bool.and_false, Bool.false_and, stepOp, stHeavy, stV_mk, stB_mk, stO_mk, T.get_n, T.set_n, T.set_e, Nat.reduceDiv, Nat.reduceMod, sz2, ag2, zr2, Tryz.underlying2, sz3, ag3, zr3, Tryz.underlying3, sz4, ag4, zr4, Tryz.underlying4, sz9, ag9, zr9, Tryz.underlying9, sz23, ag23, zr23, Tryz.underlying23, sz24, ag24, zr24, Tryz.underlying24, sz26, ag26, zr26, Tryz.underlying26, sz27, ag27, zr27, Tryz.underlying27, sz29, ag29, zr29, Tryz.underlying29, sz31, ag31, zr31, Tryz.underlying31, sz33, ag33, zr33, Tryz.underlying33, sz34, ag34, zr34, Tryz.underlying34, sz36, ag36, zr36, Tryz.underlying36, sz39, ag39, zr39, Tryz.underlying39, sz48, ag48, zr48, Tryz.underlying48, sz49, ag49, zr49, Tryz.underlying49, sz55, ag55, zr55, Tryz.underlying55, K2, K1, hl] <;> rfl))
      | (with_reducible rw [ifQ_t])
      | (with_reducible rw [ifQ_f])
      | (with_reducible refine ifQ_intro ?_ ?_ <;> intro hb))
  subst hQ
  refine ret_back (by simp only [↓reduceIte, Fr.ev, Nat.reduceEqDiff, Nat.reduceSub, List.toList_toArray, Int.reduceNeg, T.get_n, Nat.reduceDiv, Nat.reduceMod, Tryz.results4, resultOf, resultsA, resultA] <;> rfl) ⟨_, rfl⟩

end Go.Proofs.YtkgfpmbdiidlfaaGreatDoor
