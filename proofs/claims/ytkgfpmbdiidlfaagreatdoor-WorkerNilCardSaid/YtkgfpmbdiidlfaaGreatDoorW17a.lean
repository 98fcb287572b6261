/- A part of the proof of the law WorkerNil. CONDITIONS: those that each theorem names. -/
import Derived.Test.YtkgfpmbdiidlfaaGreatDoorEngineC
import Derived.Test.YtkgfpmbdiidlfaaGreatDoorS17Types
namespace Go.Proofs.YtkgfpmbdiidlfaaGreatDoor
open Go Go.Ai
set_option maxRecDepth 100000

theorem phase_nil (h : Heap) (F : Nat) : Snd Tryz.prog [] 10 [.nilp] ⟨h, F⟩ [.val (.int .i64 0) ⟨h, F⟩] := by
  refine snd_val (by simp [Kin]) fun hw => ?_
  refine sndQ_body (K := K0) kok0 mixed noNum (m := 0) Tryz.func10 ?_
  generalize hQ : retQ _ _ _ _ _ _ = Q0
  refine body_go (c := Tryz.f10.body.getD .skip) (n := 9) rfl rfl (by simp only [↓reduceIte, T.setList, T.set_e] <;> rfl) ?_
  simp only [Tryz.f10, Option.getD_some]
  repeat' (first
      | with_reducible refine r_seq ?_
      | with_reducible refine r_next ?_
      | with_reducible refine r_block ?_
      | with_reducible refine r_seq_exit ?_
      | with_reducible refine r_seq_ret ?_
      | with_reducible refine r_blk_n ?_
      | with_reducible refine r_blk_ret ?_
      | with_reducible refine r_blk_hit ?_
      | with_reducible refine r_blk_miss rfl ?_
      | with_reducible refine r_skip ?_
      | with_reducible refine r_exit ?_
      | with_reducible refine r_ret ?_
      | ((with_reducible refine r_reg (List.toList_toArray) ?_ ?_); focus (simp only [List.length_cons, List.length_nil, Nat.reduceAdd, Nat.reduceLeDiff, Nat.zero_add]; done))
      | ((with_reducible apply r_end); focus (simp only [Nat.reduceAdd, Nat.zero_add] <;> rfl))
      | ((with_reducible apply r_step); focus (simp only [↓reduceIte, clsOf, Fr.ev, ofV, ofA, ofS, put_mk, pureOp, pBin, binA, Nat.reduceLT, Nat.reduceEqDiff, Nat.reduceSub, binA, eqIn, eqGuardOk, stepOp, stV_mk, T.get_n, T.set_n, T.set_e, Nat.reduceDiv, Nat.reduceMod, Tryz.underlying34] <;> rfl))
      | ((with_reducible apply r_stepT); ((focus (simp only [↓reduceIte, wantedA_eq, gBool_t, gBool_f, Bool.not_true, Bool.not_false, Bool.not_not, clsOf, clsCall, newBlk, allocOp, ev_tmp, Fr.ev, evs, evParts, ofV, ofA, ofS, ofSs, ofAs, nVar, AV.cells, rowOf_mk, put_mk, put_none, upd_mk, withH_mk, keyOf_mk, ky_inj, pureOp, readOp, T.get_e, pFA, pFA1, pFA2, rLd, rdAB_row, oneCell_one, someAgg_s, hget_same, hget_hset_ite, pBin, binA, intOp_eql, intOp_neq, intOp_lss, intOp_leq, intOp_gtr, intOp_geq, pPick, List.length_cons, List.length_nil, List.getElem?_cons_zero, List.getElem?_cons_succ, List.drop_zero, List.drop_succ_cons, List.take_succ_cons, List.take_zero, Nat.zero_add, Nat.add_zero, Nat.reduceAdd, Nat.reduceLT, Nat.reduceLeDiff, Nat.reduceEqDiff, Nat.reduceMul, Nat.reduceSub, Nat.succ_eq_add_one, if_true, if_false, true_and, and_true, and_self, List.toList_toArray, Nat.add_eq, Nat.mul_eq, Nat.sub_eq, loadA_w, loadW_a, loadW_s, aSt_w, stOut_s, wrAB_row, ovr, List.set_cons_zero, List.set_cons_succ, allCell, isCell, pUn_not, callTo_s, heavyCall, target, actOp, pEx, List.nil_append, List.append_nil, pNil, pBuild, pBuild2, fieldsOk, buildParts, List.getElem?_nil, pMkF, binA, eqIn, eqGuardOk, pF, pF1, partA, beq_self_eq_true, bne_self_eq_false, decide_true, decide_false, Int.reduceBEq, Int.reduceBNe, Int.reduceLT, Int.reduceLE, Int.reduceEq, Int.reduceNeg, Int.reduceAdd, Int.reduceSub, Bool.and_true, Bool.true_and, Bool.and_false, Bool.false_and, stepOp, stHeavy, stV_mk, stB_mk, stO_mk, T.get_n, T.set_n, T.set_e, Nat.reduceDiv, Nat.reduceMod, sz2, ag2, zr2, Tryz.underlying2, sz3, ag3, zr3, Tryz.underlying3, sz4, ag4, zr4, Tryz.underlying4, sz9, ag9, zr9, Tryz.underlying9, sz23, ag23, zr23, Tryz.underlying23, sz24, ag24, zr24, Tryz.underlying24, sz26, ag26, zr26, Tryz.underlying26, sz27, ag27, zr27, Tryz.underlying27, sz29, ag29, zr29, Tryz.underlying29, sz31, ag31, zr31, Tryz.underlying31, sz33, ag33, zr33, Tryz.underlying33, sz34, ag34, zr34, Tryz.underlying34, sz36, ag36, zr36, Tryz.underlying36, sz48, ag48, zr48, Tryz.underlying48, sz49, ag49, zr49, Tryz.underlying49, sz55, ag55, zr55, Tryz.underlying55, sz61, ag61, zr61, Tryz.underlying61, sz62, ag62, zr62, Tryz.underlying62, sz63, ag63, zr63, Tryz.underlying63, sz70, ag70, zr70, Tryz.underlying70, sz73, ag73, zr73, Tryz.underlying73]; done))); focus (simp only [↓reduceIte, wantedA_eq, gBool_t, gBool_f, Bool.not_true, Bool.not_false, Bool.not_not, clsOf, clsCall, newBlk, allocOp, ev_tmp, Fr.ev, evs, evParts, ofV, ofA, ofS, ofSs, ofAs, nVar, AV.cells, rowOf_mk, put_mk, put_none, upd_mk, withH_mk, keyOf_mk, ky_inj, pureOp, readOp, T.get_e, pFA, pFA1, pFA2, rLd, rdAB_row, oneCell_one, someAgg_s, hget_same, hget_hset_ite, pBin, binA, intOp_eql, intOp_neq, intOp_lss, intOp_leq, intOp_gtr, intOp_geq, pPick, List.length_cons, List.length_nil, List.getElem?_cons_zero, List.getElem?_cons_succ, List.drop_zero, List.drop_succ_cons, List.take_succ_cons, List.take_zero, Nat.zero_add, Nat.add_zero, Nat.reduceAdd, Nat.reduceLT, Nat.reduceLeDiff, Nat.reduceEqDiff, Nat.reduceMul, Nat.reduceSub, Nat.succ_eq_add_one, if_true, if_false, true_and, and_true, and_self, List.toList_toArray, Nat.add_eq, Nat.mul_eq, Nat.sub_eq, loadA_w, loadW_a, loadW_s, aSt_w, stOut_s, wrAB_row, ovr, List.set_cons_zero, List.set_cons_succ, allCell, isCell, pUn_not, callTo_s, heavyCall, target, actOp, pEx, List.nil_append, List.append_nil, pNil, pBuild, pBuild2, fieldsOk, buildParts, List.getElem?_nil, pMkF, binA, eqIn, eqGuardOk, pF, pF1, partA, beq_self_eq_true, bne_self_eq_false, decide_true, decide_false, Int.reduceBEq, Int.reduceBNe, Int.reduceLT, Int.reduceLE, Int.reduceEq, Int.reduceNeg, Int.reduceAdd, Int.reduceSub, Bool.and_true, Bool.true_and, Bool.and_false, Bool.false_and, stepOp, stHeavy, stV_mk, stB_mk, stO_mk, T.get_n, T.set_n, T.set_e, Nat.reduceDiv, Nat.reduceMod, sz2, ag2, zr2, Tryz.underlying2, sz3, ag3, zr3, Tryz.underlying3, sz4, ag4, zr4, Tryz.underlying4, sz9, ag9, zr9, Tryz.underlying9, sz23, ag23, zr23, Tryz.underlying23, sz24, ag24, zr24, Tryz.underlying24, sz26, ag26, zr26, Tryz.underlying26, sz27, ag27, zr27, Tryz.underlying27, sz29, ag29, zr29, Tryz.underlying29, sz31, ag31, zr31, Tryz.underlying31, sz33, ag33, zr33, Tryz.underlying33, sz34, ag34, zr34, Tryz.underlying34, sz36, ag36, zr36, Tryz.underlying36, sz48, ag48, zr48, Tryz.underlying48, sz49, ag49, zr49, Tryz.underlying49, sz55, ag55, zr55, Tryz.underlying55, sz61, ag61, zr61, Tryz.underlying61, sz62, ag62, zr62, Tryz.underlying62, sz63, ag63, zr63, Tryz.underlying63, sz70, ag70, zr70, Tryz.underlying70, sz73, ag73, zr73, Tryz.underlying73] <;> rfl))
      | ((with_reducible apply r_stepF); ((focus (simp only [↓reduceIte, wantedA_eq, gBool_t, gBool_f, Bool.not_true, Bool.not_false, Bool.not_not, clsOf, clsCall, newBlk, allocOp, ev_tmp, Fr.ev, evs, evParts, ofV, ofA, ofS, ofSs, ofAs, nVar, AV.cells, rowOf_mk, put_mk, put_none, upd_mk, withH_mk, keyOf_mk, ky_inj, pureOp, readOp, T.get_e, pFA, pFA1, pFA2, rLd, rdAB_row, oneCell_one, someAgg_s, hget_same, hget_hset_ite, pBin, binA, intOp_eql, intOp_neq, intOp_lss, intOp_leq, intOp_gtr, intOp_geq, pPick, List.length_cons, List.length_nil, List.getElem?_cons_zero, List.getElem?_cons_succ, List.drop_zero, List.drop_succ_cons, List.take_succ_cons, List.take_zero, Nat.zero_add, Nat.add_zero, Nat.reduceAdd, Nat.reduceLT, Nat.reduceLeDiff, Nat.reduceEqDiff, Nat.reduceMul, Nat.reduceSub, Nat.succ_eq_add_one, if_true, if_false, true_and, and_true, and_self, List.toList_toArray, Nat.add_eq, Nat.mul_eq, Nat.sub_eq, loadA_w, loadW_a, loadW_s, aSt_w, stOut_s, wrAB_row, ovr, List.set_cons_zero, List.set_cons_succ, allCell, isCell, pUn_not, callTo_s, heavyCall, target, actOp, pEx, List.nil_append, List.append_nil, pNil, pBuild, pBuild2, fieldsOk, buildParts, List.getElem?_nil, pMkF, binA, eqIn, eqGuardOk, pF, pF1, partA, beq_self_eq_true, bne_self_eq_false, decide_true, decide_false, Int.reduceBEq, Int.reduceBNe, Int.reduceLT, Int.reduceLE, Int.reduceEq, Int.reduceNeg, Int.reduceAdd, Int.reduceSub, Bool.and_true, Bool.true_and, Bool.and_false, Bool.false_and, stepOp, stHeavy, stV_mk, stB_mk, stO_mk, T.get_n, T.set_n, T.set_e, Nat.reduceDiv, Nat.reduceMod, sz2, ag2, zr2, Tryz.underlying2, sz3, ag3, zr3, Tryz.underlying3, sz4, ag4, zr4, Tryz.underlying4, sz9, ag9, zr9, Tryz.underlying9, sz23, ag23, zr23, Tryz.underlying23, sz24, ag24, zr24, Tryz.underlying24, sz26, ag26, zr26, Tryz.underlying26, sz27, ag27, zr27, Tryz.underlying27, sz29, ag29, zr29, Tryz.underlying29, sz31, ag31, zr31, Tryz.underlying31, sz33, ag33, zr33, Tryz.underlying33, sz34, ag34, zr34, Tryz.underlying34, sz36, ag36, zr36, Tryz.underlying36, sz48, ag48, zr48, Tryz.underlying48, sz49, ag49, zr49, Tryz.underlying49, sz55, ag55, zr55, Tryz.underlying55, sz61, ag61, zr61, Tryz.underlying61, sz62, ag62, zr62, Tryz.underlying62, sz63, ag63, zr63, Tryz.underlying63, sz70, ag70, zr70, Tryz.underlying70, sz73, ag73, zr73, Tryz.underlying73]; done))); focus (simp only [↓reduceIte, put_mk, T.set_n, T.set_e, Nat.reduceDiv, Nat.reduceMod, Nat.reduceLT, Nat.reduceEqDiff, Nat.reduceSub, if_true, if_false, Nat.reduceAdd] <;> rfl))
      | ((with_reducible apply r_cond); focus (simp only [↓reduceIte, Fr.ev, Nat.reduceEqDiff, Nat.reduceSub, T.get_n, Nat.reduceDiv, Nat.reduceMod] <;> rfl))
      | (with_reducible rw [ifQ_t])
      | (with_reducible rw [ifQ_f])
      | (with_reducible refine ifQ_intro ?_ ?_ <;> intro hb))
  all_goals
    subst hQ
    refine ret_back (by simp only [↓reduceIte, Fr.ev, Nat.reduceEqDiff, Nat.reduceSub, List.toList_toArray, T.get_n, Nat.reduceDiv, Nat.reduceMod, Tryz.results10, resultOf, resultsA, resultA] <;> rfl) ⟨_, rfl, ?_⟩
    repeat (first | exact Same.base _ _ _ | refine Same.hset hw ?_ (ky_le _ _))

theorem step_nil (h : Heap) (F : Nat) : Snd Tryz.prog [] 9 [.nilp] ⟨h, F⟩ [.val (.bool false) ⟨h, F⟩] := by
  refine snd_val (by simp [Kin]) fun hw => ?_
  refine sndQ_body (K := K0) kok0 mixed noNum (m := 0) Tryz.func9 ?_
  generalize hQ : retQ _ _ _ _ _ _ = Q0
  refine body_go (c := Tryz.f9.body.getD .skip) (n := 34) rfl rfl (by simp only [↓reduceIte, T.setList, T.set_e] <;> rfl) ?_
  simp only [Tryz.f9, Option.getD_some]
  repeat' (first
      | with_reducible refine r_seq ?_
      | with_reducible refine r_next ?_
      | with_reducible refine r_block ?_
      | with_reducible refine r_seq_exit ?_
      | with_reducible refine r_seq_ret ?_
      | with_reducible refine r_blk_n ?_
      | with_reducible refine r_blk_ret ?_
      | with_reducible refine r_blk_hit ?_
      | with_reducible refine r_blk_miss rfl ?_
      | with_reducible refine r_skip ?_
      | with_reducible refine r_exit ?_
      | with_reducible refine r_ret ?_
      | ((with_reducible refine r_reg (List.toList_toArray) ?_ ?_); focus (simp only [List.length_cons, List.length_nil, Nat.reduceAdd, Nat.reduceLeDiff, Nat.zero_add]; done))
      | ((with_reducible apply r_end); focus (simp only [Nat.reduceAdd, Nat.zero_add] <;> rfl))
      | ((with_reducible apply r_step); focus (simp only [↓reduceIte, clsOf, Fr.ev, ofV, ofA, ofS, put_mk, pureOp, pBin, binA, pPick, Nat.reduceLT, Nat.reduceEqDiff, Nat.reduceSub, binA, eqIn, eqGuardOk, stepOp, stV_mk, T.get_n, T.set_n, T.set_e, Nat.reduceDiv, Nat.reduceMod, Tryz.underlying34] <;> rfl))
      | ((with_reducible apply r_stepT); ((focus (simp only [↓reduceIte, wantedA_eq, gBool_f, Bool.not_true, List.getElem?_cons_zero, List.getElem?_cons_succ, Nat.reduceEqDiff, Nat.reduceSub, T.get_n, Nat.reduceDiv, Nat.reduceMod]; done))); focus (simp only [↓reduceIte, wantedA_eq, gBool_t, gBool_f, Bool.not_true, Bool.not_false, Bool.not_not, clsOf, clsCall, newBlk, allocOp, ev_tmp, Fr.ev, evs, evParts, ofV, ofA, ofS, ofSs, ofAs, nVar, AV.cells, rowOf_mk, put_mk, put_none, upd_mk, withH_mk, keyOf_mk, ky_inj, pureOp, readOp, T.get_e, pFA, pFA1, pFA2, rLd, rdAB_row, oneCell_one, someAgg_s, hget_same, hget_hset_ite, pBin, binA, intOp_eql, intOp_neq, intOp_lss, intOp_leq, intOp_gtr, intOp_geq, pPick, List.length_cons, List.length_nil, List.getElem?_cons_zero, List.getElem?_cons_succ, List.drop_zero, List.drop_succ_cons, List.take_succ_cons, List.take_zero, Nat.zero_add, Nat.add_zero, Nat.reduceAdd, Nat.reduceLT, Nat.reduceLeDiff, Nat.reduceEqDiff, Nat.reduceMul, Nat.reduceSub, Nat.succ_eq_add_one, if_true, if_false, true_and, and_true, and_self, List.toList_toArray, Nat.add_eq, Nat.mul_eq, Nat.sub_eq, loadA_w, loadW_a, loadW_s, aSt_w, stOut_s, wrAB_row, ovr, List.set_cons_zero, List.set_cons_succ, allCell, isCell, pUn_not, callTo_s, heavyCall, target, actOp, pEx, List.nil_append, List.append_nil, pNil, pBuild, pBuild2, fieldsOk, buildParts, List.getElem?_nil, pMkF, binA, eqIn, eqGuardOk, pF, pF1, partA, beq_self_eq_true, bne_self_eq_false, decide_true, decide_false, Int.reduceBEq, Int.reduceBNe, Int.reduceLT, Int.reduceLE, Int.reduceEq, Int.reduceNeg, Int.reduceAdd, Int.reduceSub, Bool.and_true, Bool.true_and, Bool.and_false, Bool.false_and, stepOp, stHeavy, stV_mk, stB_mk, stO_mk, T.get_n, T.set_n, T.set_e, Nat.reduceDiv, Nat.reduceMod, sz2, ag2, zr2, Tryz.underlying2, sz3, ag3, zr3, Tryz.underlying3, sz4, ag4, zr4, Tryz.underlying4, sz9, ag9, zr9, Tryz.underlying9, sz23, ag23, zr23, Tryz.underlying23, sz24, ag24, zr24, Tryz.underlying24, sz26, ag26, zr26, Tryz.underlying26, sz27, ag27, zr27, Tryz.underlying27, sz29, ag29, zr29, Tryz.underlying29, sz31, ag31, zr31, Tryz.underlying31, sz33, ag33, zr33, Tryz.underlying33, sz34, ag34, zr34, Tryz.underlying34, sz36, ag36, zr36, Tryz.underlying36, sz48, ag48, zr48, Tryz.underlying48, sz49, ag49, zr49, Tryz.underlying49, sz55, ag55, zr55, Tryz.underlying55, sz61, ag61, zr61, Tryz.underlying61, sz62, ag62, zr62, Tryz.underlying62, sz63, ag63, zr63, Tryz.underlying63, sz70, ag70, zr70, Tryz.underlying70, sz73, ag73, zr73, Tryz.underlying73, sz76, ag76, zr76, Tryz.underlying76, sz77, ag77, zr77, Tryz.underlying77] <;> rfl))
      | ((with_reducible apply r_stepF); ((focus (simp only [↓reduceIte, wantedA_eq, gBool_f, Bool.not_true, List.getElem?_cons_zero, List.getElem?_cons_succ, Nat.reduceEqDiff, Nat.reduceSub, T.get_n, Nat.reduceDiv, Nat.reduceMod]; done))); focus (simp only [↓reduceIte, put_mk, T.set_n, T.set_e, Nat.reduceDiv, Nat.reduceMod, Nat.reduceLT, Nat.reduceEqDiff, Nat.reduceSub] <;> rfl))
      | ((with_reducible apply r_cond); focus (simp only [↓reduceIte, Fr.ev, Nat.reduceEqDiff, Nat.reduceSub, T.get_n, Nat.reduceDiv, Nat.reduceMod] <;> rfl))
      | (with_reducible rw [ifQ_t])
      | (with_reducible rw [ifQ_f])
      | (with_reducible refine ifQ_intro ?_ ?_ <;> intro hb))
  all_goals
    subst hQ
    refine ret_back (by simp only [↓reduceIte, Fr.ev, Nat.reduceEqDiff, Nat.reduceSub, List.toList_toArray, T.get_n, Nat.reduceDiv, Nat.reduceMod, Tryz.results9, resultOf, resultsA, resultA] <;> rfl) ⟨_, rfl, ?_⟩
    repeat (first | exact Same.base _ _ _ | refine Same.hset hw ?_ (ky_le _ _))

theorem take_nil (e : AV) (h : Heap) (F : Nat) : Snd Tryz.prog [] 8 [.nilp, e] ⟨h, F⟩ [.val (.bool false) ⟨h, F⟩] := by
  refine snd_val (by simp [Kin]) fun hw => ?_
  refine sndQ_body (K := K0) kok0 mixed noNum (m := 0) Tryz.func8 ?_
  generalize hQ : retQ _ _ _ _ _ _ = Q0
  refine body_go (c := Tryz.f8.body.getD .skip) (n := 45) rfl rfl (by simp only [↓reduceIte, T.setList, T.set_e, T.set_n, Nat.reduceDiv, Nat.reduceMod, Nat.reduceEqDiff, Nat.zero_add] <;> rfl) ?_
  simp only [Tryz.f8, Option.getD_some]
  repeat' (first
      | with_reducible refine r_seq ?_
      | with_reducible refine r_next ?_
      | with_reducible refine r_block ?_
      | with_reducible refine r_seq_exit ?_
      | with_reducible refine r_seq_ret ?_
      | with_reducible refine r_blk_n ?_
      | with_reducible refine r_blk_ret ?_
      | with_reducible refine r_blk_hit ?_
      | with_reducible refine r_blk_miss rfl ?_
      | with_reducible refine r_skip ?_
      | with_reducible refine r_exit ?_
      | with_reducible refine r_ret ?_
      | ((with_reducible refine r_reg (List.toList_toArray) ?_ ?_); focus (simp only [List.length_cons, List.length_nil, Nat.reduceAdd, Nat.reduceLeDiff, Nat.zero_add]; done))
      | ((with_reducible apply r_end); focus (simp only [Nat.reduceAdd, Nat.zero_add] <;> rfl))
      | ((with_reducible apply r_step); focus (simp only [↓reduceIte, clsOf, newBlk, allocOp, Fr.ev, ofV, ofA, ofS, nVar, AV.cells, rowOf_mk, put_mk, upd_mk, keyOf_mk, pureOp, pBin, binA, pPick, Nat.add_zero, Nat.reduceLT, Nat.reduceEqDiff, Nat.reduceSub, binA, eqIn, eqGuardOk, stepOp, stV_mk, stB_mk, T.get_n, T.set_n, T.set_e, Nat.reduceDiv, Nat.reduceMod, Tryz.underlying34] <;> rfl))
      | ((with_reducible apply r_stepT); ((focus (simp only [↓reduceIte, wantedA_eq, gBool_f, Bool.not_true, List.getElem?_cons_zero, List.getElem?_cons_succ, Nat.reduceEqDiff, T.get_n, Nat.reduceDiv, Nat.reduceMod]; done))); focus (simp only [↓reduceIte, wantedA_eq, gBool_t, gBool_f, Bool.not_true, Bool.not_false, Bool.not_not, clsOf, clsCall, newBlk, allocOp, ev_tmp, Fr.ev, evs, evParts, ofV, ofA, ofS, ofSs, ofAs, nVar, AV.cells, rowOf_mk, put_mk, put_none, upd_mk, withH_mk, keyOf_mk, ky_inj, pureOp, readOp, T.get_e, pFA, pFA1, pFA2, rLd, rdAB_row, oneCell_one, someAgg_s, hget_same, hget_hset_ite, pBin, binA, intOp_eql, intOp_neq, intOp_lss, intOp_leq, intOp_gtr, intOp_geq, pPick, List.length_cons, List.length_nil, List.getElem?_cons_zero, List.getElem?_cons_succ, List.drop_zero, List.drop_succ_cons, List.take_succ_cons, List.take_zero, Nat.zero_add, Nat.add_zero, Nat.reduceAdd, Nat.reduceLT, Nat.reduceLeDiff, Nat.reduceEqDiff, Nat.reduceMul, Nat.reduceSub, Nat.succ_eq_add_one, if_true, if_false, true_and, and_true, and_self, List.toList_toArray, Nat.add_eq, Nat.mul_eq, Nat.sub_eq, loadA_w, loadW_a, loadW_s, aSt_w, stOut_s, wrAB_row, ovr, List.set_cons_zero, List.set_cons_succ, allCell, isCell, pUn_not, callTo_s, heavyCall, target, actOp, pEx, List.nil_append, List.append_nil, pNil, pBuild, pBuild2, fieldsOk, buildParts, List.getElem?_nil, pMkF, binA, eqIn, eqGuardOk, pF, pF1, partA, beq_self_eq_true, bne_self_eq_false, decide_true, decide_false, Int.reduceBEq, Int.reduceBNe, Int.reduceLT, Int.reduceLE, Int.reduceEq, Int.reduceNeg, Int.reduceAdd, Int.reduceSub, Bool.and_true, Bool.true_and, Bool.and_false, Bool.false_and, stepOp, stHeavy, stV_mk, stB_mk, stO_mk, T.get_n, T.set_n, T.set_e, Nat.reduceDiv, Nat.reduceMod, sz2, ag2, zr2, Tryz.underlying2, sz3, ag3, zr3, Tryz.underlying3, sz4, ag4, zr4, Tryz.underlying4, sz9, ag9, zr9, Tryz.underlying9, sz23, ag23, zr23, Tryz.underlying23, sz24, ag24, zr24, Tryz.underlying24, sz26, ag26, zr26, Tryz.underlying26, sz27, ag27, zr27, Tryz.underlying27, sz29, ag29, zr29, Tryz.underlying29, sz31, ag31, zr31, Tryz.underlying31, sz33, ag33, zr33, Tryz.underlying33, sz34, ag34, zr34, Tryz.underlying34, sz36, ag36, zr36, Tryz.underlying36, sz48, ag48, zr48, Tryz.underlying48, sz49, ag49, zr49, Tryz.underlying49, sz55, ag55, zr55, Tryz.underlying55, sz61, ag61, zr61, Tryz.underlying61, sz62, ag62, zr62, Tryz.underlying62, sz63, ag63, zr63, Tryz.underlying63, sz70, ag70, zr70, Tryz.underlying70, sz73, ag73, zr73, Tryz.underlying73] <;> rfl))
      | ((with_reducible apply r_stepF); ((focus (simp only [↓reduceIte, wantedA_eq, gBool_f, Bool.not_true, List.getElem?_cons_zero, List.getElem?_cons_succ, Nat.reduceEqDiff, T.get_n, Nat.reduceDiv, Nat.reduceMod]; done))); focus (simp only [↓reduceIte, put_mk, T.set_n, T.set_e, Nat.reduceDiv, Nat.reduceMod, Nat.reduceLT, Nat.reduceEqDiff, Nat.reduceSub] <;> rfl))
      | ((with_reducible apply r_cond); focus (simp only [↓reduceIte, Fr.ev, Nat.reduceEqDiff, Nat.reduceSub, T.get_n, Nat.reduceDiv, Nat.reduceMod] <;> rfl))
      | (with_reducible rw [ifQ_t])
      | (with_reducible rw [ifQ_f])
      | (with_reducible refine ifQ_intro ?_ ?_ <;> intro hb))
  all_goals
    subst hQ
    refine ret_back (by simp only [↓reduceIte, Fr.ev, Nat.reduceEqDiff, Nat.reduceSub, List.toList_toArray, T.get_n, Nat.reduceDiv, Nat.reduceMod, Tryz.results8, resultOf, resultsA, resultA] <;> rfl) ⟨_, rfl, ?_⟩
    repeat (first | exact Same.base _ _ _ | refine Same.hset hw ?_ (ky_le _ _))

theorem num_ok (n : Int) (h : Heap) (F : Nat) : Snd Tryz.prog [] 12 [.int .i64 n] ⟨h, F⟩ [.val (.int .i64 n) ⟨h, F⟩] := by
  refine snd_val (by simp [Kin]) fun hw => ?_
  refine sndQ_body (K := K0) kok0 mixed noNum (m := 0) Tryz.func12 ?_
  generalize hQ : retQ _ _ _ _ _ _ = Q0
  refine body_go (c := Tryz.f12.body.getD .skip) (n := 4) rfl rfl (by simp only [↓reduceIte, T.setList, T.set_e] <;> rfl) ?_
  simp only [Tryz.f12, Option.getD_some]
  repeat' (first
      | with_reducible refine r_seq ?_
      | with_reducible refine r_next ?_
      | with_reducible refine r_block ?_
      | with_reducible refine r_seq_exit ?_
      | with_reducible refine r_seq_ret ?_
      | with_reducible refine r_blk_n ?_
      | with_reducible refine r_blk_ret ?_
      | with_reducible refine r_blk_hit ?_
      | with_reducible refine r_blk_miss rfl ?_
      | with_reducible refine r_skip ?_
      | with_reducible refine r_exit ?_
      | with_reducible refine r_ret ?_
      | ((with_reducible refine r_reg (List.toList_toArray) ?_ ?_); focus (simp only [List.length_cons, List.length_nil, Nat.reduceAdd, Nat.reduceLeDiff, Nat.zero_add]; done))
      | ((with_reducible apply r_end); focus (simp only [Nat.reduceAdd, Nat.zero_add] <;> rfl))
      | ((with_reducible apply r_step); focus (simp only [↓reduceIte, clsOf, Fr.ev, ofV, ofA, ofS, put_mk, pureOp, Nat.reduceLT, Nat.reduceEqDiff, Nat.reduceSub, stepOp, stV_mk, T.get_n, T.set_n, T.set_e, Nat.reduceDiv, Nat.reduceMod] <;> rfl))
      | ((with_reducible apply r_stepT); ((focus (simp only [↓reduceIte, wantedA_eq, gBool_t, gBool_f, Bool.not_true, Bool.not_false, Bool.not_not, clsOf, clsCall, newBlk, allocOp, ev_tmp, Fr.ev, evs, evParts, ofV, ofA, ofS, ofSs, ofAs, nVar, AV.cells, rowOf_mk, put_mk, put_none, upd_mk, withH_mk, keyOf_mk, ky_inj, pureOp, readOp, T.get_e, pFA, pFA1, pFA2, rLd, rdAB_row, oneCell_one, someAgg_s, hget_same, hget_hset_ite, pBin, binA, intOp_eql, intOp_neq, intOp_lss, intOp_leq, intOp_gtr, intOp_geq, pPick, List.length_cons, List.length_nil, List.getElem?_cons_zero, List.getElem?_cons_succ, List.drop_zero, List.drop_succ_cons, List.take_succ_cons, List.take_zero, Nat.zero_add, Nat.add_zero, Nat.reduceAdd, Nat.reduceLT, Nat.reduceLeDiff, Nat.reduceEqDiff, Nat.reduceMul, Nat.reduceSub, Nat.succ_eq_add_one, if_true, if_false, true_and, and_true, and_self, List.toList_toArray, Nat.add_eq, Nat.mul_eq, Nat.sub_eq, loadA_w, loadW_a, loadW_s, aSt_w, stOut_s, wrAB_row, ovr, List.set_cons_zero, List.set_cons_succ, allCell, isCell, pUn_not, callTo_s, heavyCall, target, actOp, pEx, List.nil_append, List.append_nil, pNil, pBuild, pBuild2, fieldsOk, buildParts, List.getElem?_nil, pMkF, binA, eqIn, eqGuardOk, pF, pF1, partA, beq_self_eq_true, bne_self_eq_false, decide_true, decide_false, Int.reduceBEq, Int.reduceBNe, Int.reduceLT, Int.reduceLE, Int.reduceEq, Int.reduceNeg, Int.reduceAdd, Int.reduceSub, Bool.and_true, Bool.true_and, Bool.and_false, Bool.false_and, stepOp, stHeavy, stV_mk, stB_mk, stO_mk, T.get_n, T.set_n, T.set_e, Nat.reduceDiv, Nat.reduceMod]; done))); focus (simp only [↓reduceIte, wantedA_eq, gBool_t, gBool_f, Bool.not_true, Bool.not_false, Bool.not_not, clsOf, clsCall, newBlk, allocOp, ev_tmp, Fr.ev, evs, evParts, ofV, ofA, ofS, ofSs, ofAs, nVar, AV.cells, rowOf_mk, put_mk, put_none, upd_mk, withH_mk, keyOf_mk, ky_inj, pureOp, readOp, T.get_e, pFA, pFA1, pFA2, rLd, rdAB_row, oneCell_one, someAgg_s, hget_same, hget_hset_ite, pBin, binA, intOp_eql, intOp_neq, intOp_lss, intOp_leq, intOp_gtr, intOp_geq, pPick, List.length_cons, List.length_nil, List.getElem?_cons_zero, List.getElem?_cons_succ, List.drop_zero, List.drop_succ_cons, List.take_succ_cons, List.take_zero, Nat.zero_add, Nat.add_zero, Nat.reduceAdd, Nat.reduceLT, Nat.reduceLeDiff, Nat.reduceEqDiff, Nat.reduceMul, Nat.reduceSub, Nat.succ_eq_add_one, if_true, if_false, true_and, and_true, and_self, List.toList_toArray, Nat.add_eq, Nat.mul_eq, Nat.sub_eq, loadA_w, loadW_a, loadW_s, aSt_w, stOut_s, wrAB_row, ovr, List.set_cons_zero, List.set_cons_succ, allCell, isCell, pUn_not, callTo_s, heavyCall, target, actOp, pEx, List.nil_append, List.append_nil, pNil, pBuild, pBuild2, fieldsOk, buildParts, List.getElem?_nil, pMkF, binA, eqIn, eqGuardOk, pF, pF1, partA, beq_self_eq_true, bne_self_eq_false, decide_true, decide_false, Int.reduceBEq, Int.reduceBNe, Int.reduceLT, Int.reduceLE, Int.reduceEq, Int.reduceNeg, Int.reduceAdd, Int.reduceSub, Bool.and_true, Bool.true_and, Bool.and_false, Bool.false_and, stepOp, stHeavy, stV_mk, stB_mk, stO_mk, T.get_n, T.set_n, T.set_e, Nat.reduceDiv, Nat.reduceMod] <;> rfl))
      | ((with_reducible apply r_stepF); ((focus (simp only [↓reduceIte, wantedA_eq, gBool_t, gBool_f, Bool.not_true, Bool.not_false, Bool.not_not, clsOf, clsCall, newBlk, allocOp, ev_tmp, Fr.ev, evs, evParts, ofV, ofA, ofS, ofSs, ofAs, nVar, AV.cells, rowOf_mk, put_mk, put_none, upd_mk, withH_mk, keyOf_mk, ky_inj, pureOp, readOp, T.get_e, pFA, pFA1, pFA2, rLd, rdAB_row, oneCell_one, someAgg_s, hget_same, hget_hset_ite, pBin, binA, intOp_eql, intOp_neq, intOp_lss, intOp_leq, intOp_gtr, intOp_geq, pPick, List.length_cons, List.length_nil, List.getElem?_cons_zero, List.getElem?_cons_succ, List.drop_zero, List.drop_succ_cons, List.take_succ_cons, List.take_zero, Nat.zero_add, Nat.add_zero, Nat.reduceAdd, Nat.reduceLT, Nat.reduceLeDiff, Nat.reduceEqDiff, Nat.reduceMul, Nat.reduceSub, Nat.succ_eq_add_one, if_true, if_false, true_and, and_true, and_self, List.toList_toArray, Nat.add_eq, Nat.mul_eq, Nat.sub_eq, loadA_w, loadW_a, loadW_s, aSt_w, stOut_s, wrAB_row, ovr, List.set_cons_zero, List.set_cons_succ, allCell, isCell, pUn_not, callTo_s, heavyCall, target, actOp, pEx, List.nil_append, List.append_nil, pNil, pBuild, pBuild2, fieldsOk, buildParts, List.getElem?_nil, pMkF, binA, eqIn, eqGuardOk, pF, pF1, partA, beq_self_eq_true, bne_self_eq_false, decide_true, decide_false, Int.reduceBEq, Int.reduceBNe, Int.reduceLT, Int.reduceLE, Int.reduceEq, Int.reduceNeg, Int.reduceAdd, Int.reduceSub, Bool.and_true, Bool.true_and, Bool.and_false, Bool.false_and, stepOp, stHeavy, stV_mk, stB_mk, stO_mk, T.get_n, T.set_n, T.set_e, Nat.reduceDiv, Nat.reduceMod]; done))); focus (simp only [↓reduceIte, put_mk, T.set_n, T.set_e, Nat.reduceDiv, Nat.reduceMod, Nat.reduceLT, Nat.reduceEqDiff, Nat.reduceSub, if_true, if_false, Nat.reduceAdd] <;> rfl))
      | ((with_reducible apply r_cond); focus (simp only [↓reduceIte, wantedA_eq, gBool_t, gBool_f, Bool.not_true, Bool.not_false, Bool.not_not, clsOf, clsCall, newBlk, allocOp, ev_tmp, Fr.ev, evs, evParts, ofV, ofA, ofS, ofSs, ofAs, nVar, AV.cells, rowOf_mk, put_mk, put_none, upd_mk, withH_mk, keyOf_mk, ky_inj, pureOp, readOp, T.get_e, pFA, pFA1, pFA2, rLd, rdAB_row, oneCell_one, someAgg_s, hget_same, hget_hset_ite, pBin, binA, intOp_eql, intOp_neq, intOp_lss, intOp_leq, intOp_gtr, intOp_geq, pPick, List.length_cons, List.length_nil, List.getElem?_cons_zero, List.getElem?_cons_succ, List.drop_zero, List.drop_succ_cons, List.take_succ_cons, List.take_zero, Nat.zero_add, Nat.add_zero, Nat.reduceAdd, Nat.reduceLT, Nat.reduceLeDiff, Nat.reduceEqDiff, Nat.reduceMul, Nat.reduceSub, Nat.succ_eq_add_one, if_true, if_false, true_and, and_true, and_self, List.toList_toArray, Nat.add_eq, Nat.mul_eq, Nat.sub_eq, loadA_w, loadW_a, loadW_s, aSt_w, stOut_s, wrAB_row, ovr, List.set_cons_zero, List.set_cons_succ, allCell, isCell, pUn_not, callTo_s, heavyCall, target, actOp, pEx, List.nil_append, List.append_nil, pNil, pBuild, pBuild2, fieldsOk, buildParts, List.getElem?_nil, pMkF, binA, eqIn, eqGuardOk, pF, pF1, partA, beq_self_eq_true, bne_self_eq_false, decide_true, decide_false, Int.reduceBEq, Int.reduceBNe, Int.reduceLT, Int.reduceLE, Int.reduceEq, Int.reduceNeg, Int.reduceAdd, Int.reduceSub, Bool.and_true, Bool.true_and, Bool.and_false, Bool.false_and, stepOp, stHeavy, stV_mk, stB_mk, stO_mk, T.get_n, T.set_n, T.set_e, Nat.reduceDiv, Nat.reduceMod] <;> rfl))
      | (with_reducible rw [ifQ_t])
      | (with_reducible rw [ifQ_f])
      | (with_reducible refine ifQ_intro ?_ ?_ <;> intro hb))
  all_goals
    subst hQ
    refine ret_back (by simp only [↓reduceIte, Fr.ev, Nat.reduceEqDiff, Nat.reduceSub, List.toList_toArray, T.get_n, Nat.reduceDiv, Nat.reduceMod, Tryz.results12, resultOf, resultsA, resultA] <;> rfl) ⟨_, rfl, ?_⟩
    repeat (first | exact Same.base _ _ _ | refine Same.hset hw ?_ (ky_le _ _))

theorem new_nil (n : Int) (h : Heap) (F : Nat) : Snd Tryz.prog [] 7 [.nilp, .nilp, .int .i64 n] ⟨h, F⟩ [.val (.tup [.nilp, .int .i64 2]) ⟨h, F⟩] := by
  refine snd_val (by simp [Kin, Kins]) fun hw => ?_
  refine sndQ_body (K := K0) kok0 mixed noNum (m := 0) Tryz.func7 ?_
  generalize hQ : retQ _ _ _ _ _ _ = Q0
  refine body_go (c := Tryz.f7.body.getD .skip) (n := 27) rfl rfl (by simp only [↓reduceIte, T.setList, T.set_e, T.set_n, Nat.reduceDiv, Nat.reduceMod, Nat.reduceEqDiff, Nat.reduceSub, Nat.reduceAdd, Nat.zero_add] <;> rfl) ?_
  simp only [Tryz.f7, Option.getD_some]
  repeat' (first
      | with_reducible refine r_seq ?_
      | with_reducible refine r_next ?_
      | with_reducible refine r_block ?_
      | with_reducible refine r_seq_exit ?_
      | with_reducible refine r_seq_ret ?_
      | with_reducible refine r_blk_n ?_
      | with_reducible refine r_blk_ret ?_
      | with_reducible refine r_blk_hit ?_
      | with_reducible refine r_blk_miss rfl ?_
      | with_reducible refine r_skip ?_
      | with_reducible refine r_exit ?_
      | with_reducible refine r_ret ?_
      | ((with_reducible refine r_reg (List.toList_toArray) ?_ ?_); focus (simp only [List.length_cons, List.length_nil, Nat.reduceAdd, Nat.reduceLeDiff, Nat.zero_add]; done))
      | ((with_reducible apply r_end); focus (simp only [Nat.reduceAdd, Nat.zero_add] <;> rfl))
      | ((with_reducible apply r_step); focus (simp only [↓reduceIte, clsOf, Fr.ev, ofV, ofA, ofS, put_mk, pureOp, pBin, binA, pPick, Nat.reduceLT, Nat.reduceEqDiff, Nat.reduceSub, binA, eqIn, eqGuardOk, stepOp, stV_mk, T.get_n, T.set_n, T.set_e, Nat.reduceDiv, Nat.reduceMod, Tryz.underlying55] <;> rfl))
      | ((with_reducible apply r_stepT); ((focus (simp only [↓reduceIte, wantedA_eq, gBool_f, Bool.not_true, List.getElem?_cons_zero, List.getElem?_cons_succ, Nat.reduceEqDiff, Nat.reduceSub, T.get_n, Nat.reduceDiv, Nat.reduceMod]; done))); focus (simp only [↓reduceIte, wantedA_eq, gBool_t, gBool_f, Bool.not_true, Bool.not_false, Bool.not_not, clsOf, clsCall, newBlk, allocOp, ev_tmp, Fr.ev, evs, evParts, ofV, ofA, ofS, ofSs, ofAs, nVar, AV.cells, rowOf_mk, put_mk, put_none, upd_mk, withH_mk, keyOf_mk, ky_inj, pureOp, readOp, T.get_e, pFA, pFA1, pFA2, rLd, rdAB_row, oneCell_one, someAgg_s, hget_same, hget_hset_ite, pBin, binA, intOp_eql, intOp_neq, intOp_lss, intOp_leq, intOp_gtr, intOp_geq, pPick, List.length_cons, List.length_nil, List.getElem?_cons_zero, List.getElem?_cons_succ, List.drop_zero, List.drop_succ_cons, List.take_succ_cons, List.take_zero, Nat.zero_add, Nat.add_zero, Nat.reduceAdd, Nat.reduceLT, Nat.reduceLeDiff, Nat.reduceEqDiff, Nat.reduceMul, Nat.reduceSub, Nat.succ_eq_add_one, if_true, if_false, true_and, and_true, and_self, List.toList_toArray, Nat.add_eq, Nat.mul_eq, Nat.sub_eq, loadA_w, loadW_a, loadW_s, aSt_w, stOut_s, wrAB_row, ovr, List.set_cons_zero, List.set_cons_succ, allCell, isCell, pUn_not, callTo_s, heavyCall, target, actOp, pEx, List.nil_append, List.append_nil, pNil, pBuild, pBuild2, fieldsOk, buildParts, List.getElem?_nil, pMkF, binA, eqIn, eqGuardOk, pF, pF1, partA, beq_self_eq_true, bne_self_eq_false, decide_true, decide_false, Int.reduceBEq, Int.reduceBNe, Int.reduceLT, Int.reduceLE, Int.reduceEq, Int.reduceNeg, Int.reduceAdd, Int.reduceSub, Bool.and_true, Bool.true_and, Bool.and_false, Bool.false_and, stepOp, stHeavy, stV_mk, stB_mk, stO_mk, T.get_n, T.set_n, T.set_e, Nat.reduceDiv, Nat.reduceMod, sz2, ag2, zr2, Tryz.underlying2, sz3, ag3, zr3, Tryz.underlying3, sz4, ag4, zr4, Tryz.underlying4, sz9, ag9, zr9, Tryz.underlying9, sz23, ag23, zr23, Tryz.underlying23, sz24, ag24, zr24, Tryz.underlying24, sz26, ag26, zr26, Tryz.underlying26, sz27, ag27, zr27, Tryz.underlying27, sz29, ag29, zr29, Tryz.underlying29, sz31, ag31, zr31, Tryz.underlying31, sz33, ag33, zr33, Tryz.underlying33, sz36, ag36, zr36, Tryz.underlying36, sz48, ag48, zr48, Tryz.underlying48, sz49, ag49, zr49, Tryz.underlying49, sz55, ag55, zr55, Tryz.underlying55, sz61, ag61, zr61, Tryz.underlying61, sz62, ag62, zr62, Tryz.underlying62, sz63, ag63, zr63, Tryz.underlying63, sz70, ag70, zr70, Tryz.underlying70, sz73, ag73, zr73, Tryz.underlying73] <;> rfl))
      | ((with_reducible apply r_stepF); ((focus (simp only [↓reduceIte, wantedA_eq, gBool_f, Bool.not_true, List.getElem?_cons_zero, List.getElem?_cons_succ, Nat.reduceEqDiff, Nat.reduceSub, T.get_n, Nat.reduceDiv, Nat.reduceMod]; done))); focus (simp only [↓reduceIte, put_mk, T.set_n, T.set_e, Nat.reduceDiv, Nat.reduceMod, Nat.reduceLT, Nat.reduceEqDiff, Nat.reduceSub] <;> rfl))
      | ((with_reducible apply r_cond); focus (simp only [↓reduceIte, Fr.ev, Nat.reduceEqDiff, Nat.reduceSub, T.get_n, Nat.reduceDiv, Nat.reduceMod] <;> rfl))
      | (with_reducible rw [ifQ_t])
      | (with_reducible rw [ifQ_f])
      | (with_reducible refine ifQ_intro ?_ ?_ <;> intro hb))
  all_goals
    subst hQ
    refine ret_back (by simp only [↓reduceIte, Fr.ev, Nat.reduceEqDiff, Nat.reduceSub, List.toList_toArray, T.get_n, Nat.reduceDiv, Nat.reduceMod, Tryz.results7, resultOf, resultsA, resultA] <;> rfl) ⟨_, rfl, ?_⟩
    repeat (first | exact Same.base _ _ _ | refine Same.hset hw ?_ (ky_le _ _))

theorem release_nil (h : Heap) (F : Nat) : Snd Tryz.prog [] 6 [.nilp] ⟨h, F⟩ [.val (.tup [.agg [.int .i64 0, .int .i64 0, .int .i64 0, .int .i64 0, .nils], .bool false]) ⟨h, F⟩] := by
  refine snd_val (by simp [Kin, Kins]) fun hw => ?_
  refine sndQ_body (K := K0) kok0 mixed noNum (m := 0) Tryz.func6 ?_
  generalize hQ : retQ _ _ _ _ _ _ = Q0
  refine body_go (c := Tryz.f6.body.getD .skip) (n := 33) rfl rfl (by simp only [↓reduceIte, T.setList, T.set_e] <;> rfl) ?_
  simp only [Tryz.f6, Option.getD_some]
  repeat' (first
      | with_reducible refine r_seq ?_
      | with_reducible refine r_next ?_
      | with_reducible refine r_block ?_
      | with_reducible refine r_seq_exit ?_
      | with_reducible refine r_seq_ret ?_
      | with_reducible refine r_blk_n ?_
      | with_reducible refine r_blk_ret ?_
      | with_reducible refine r_blk_hit ?_
      | with_reducible refine r_blk_miss rfl ?_
      | with_reducible refine r_skip ?_
      | with_reducible refine r_exit ?_
      | with_reducible refine r_ret ?_
      | ((with_reducible refine r_reg (List.toList_toArray) ?_ ?_); focus (simp only [List.length_cons, List.length_nil, Nat.reduceAdd, Nat.reduceLeDiff, Nat.zero_add]; done))
      | ((with_reducible apply r_end); focus (simp only [Nat.reduceAdd, Nat.zero_add] <;> rfl))
      | ((with_reducible apply r_step); focus (simp only [↓reduceIte, clsOf, newBlk, allocOp, Fr.ev, evParts, ofV, ofA, ofS, nVar, AV.cells, rowOf_mk, put_mk, put_none, upd_mk, keyOf_mk, pureOp, someAgg_s, hget_same, pBin, binA, pPick, List.length_cons, List.length_nil, Nat.zero_add, Nat.add_zero, Nat.reduceAdd, Nat.reduceLT, Nat.reduceLeDiff, Nat.reduceEqDiff, Nat.reduceSub, and_self, aSt_w, stOut_s, wrAB_row, ovr, List.set_cons_zero, List.set_cons_succ, allCell, isCell, actOp, pBuild, pBuild2, fieldsOk, buildParts, binA, eqIn, eqGuardOk, stepOp, stHeavy, stV_mk, stB_mk, stO_mk, T.get_n, T.set_n, T.set_e, Nat.reduceDiv, Nat.reduceMod, sz2, sz3, sz24, Tryz.underlying34, sz36, zr36, Tryz.underlying36] <;> rfl))
      | ((with_reducible apply r_stepT); ((focus (simp only [↓reduceIte, wantedA_eq, gBool_f, Bool.not_true, List.getElem?_cons_zero, List.getElem?_cons_succ, Nat.reduceEqDiff, T.get_n, Nat.reduceDiv, Nat.reduceMod]; done))); focus (simp only [↓reduceIte, wantedA_eq, gBool_t, gBool_f, Bool.not_true, Bool.not_false, Bool.not_not, clsOf, clsCall, newBlk, allocOp, ev_tmp, Fr.ev, evs, evParts, ofV, ofA, ofS, ofSs, ofAs, nVar, AV.cells, rowOf_mk, put_mk, put_none, upd_mk, withH_mk, keyOf_mk, ky_inj, pureOp, readOp, T.get_e, pFA, pFA1, pFA2, rLd, rdAB_row, oneCell_one, someAgg_s, hget_same, hget_hset_ite, pBin, binA, intOp_eql, intOp_neq, intOp_lss, intOp_leq, intOp_gtr, intOp_geq, pPick, List.length_cons, List.length_nil, List.getElem?_cons_zero, List.getElem?_cons_succ, List.drop_zero, List.drop_succ_cons, List.take_succ_cons, List.take_zero, Nat.zero_add, Nat.add_zero, Nat.reduceAdd, Nat.reduceLT, Nat.reduceLeDiff, Nat.reduceEqDiff, Nat.reduceMul, Nat.reduceSub, Nat.succ_eq_add_one, if_true, if_false, true_and, and_true, and_self, List.toList_toArray, Nat.add_eq, Nat.mul_eq, Nat.sub_eq, loadA_w, loadW_a, loadW_s, aSt_w, stOut_s, wrAB_row, ovr, List.set_cons_zero, List.set_cons_succ, allCell, isCell, pUn_not, callTo_s, heavyCall, target, actOp, pEx, List.nil_append, List.append_nil, pNil, pBuild, pBuild2, fieldsOk, buildParts, List.getElem?_nil, pMkF, binA, eqIn, eqGuardOk, pF, pF1, partA, beq_self_eq_true, bne_self_eq_false, decide_true, decide_false, Int.reduceBEq, Int.reduceBNe, Int.reduceLT, Int.reduceLE, Int.reduceEq, Int.reduceNeg, Int.reduceAdd, Int.reduceSub, Bool.and_true, Bool.true_and, Bool.and_false, Bool.false_and, stepOp, stHeavy, stV_mk, stB_mk, stO_mk, T.get_n, T.set_n, T.set_e, Nat.reduceDiv, Nat.reduceMod, sz2, ag2, zr2, Tryz.underlying2, sz3, ag3, zr3, Tryz.underlying3, sz4, ag4, zr4, Tryz.underlying4, sz9, ag9, zr9, Tryz.underlying9, sz23, ag23, zr23, Tryz.underlying23, sz24, ag24, zr24, Tryz.underlying24, sz26, ag26, zr26, Tryz.underlying26, sz27, ag27, zr27, Tryz.underlying27, sz29, ag29, zr29, Tryz.underlying29, sz31, ag31, zr31, Tryz.underlying31, sz33, ag33, zr33, Tryz.underlying33, sz34, ag34, zr34, Tryz.underlying34, sz36, ag36, zr36, Tryz.underlying36, sz48, ag48, zr48, Tryz.underlying48, sz49, ag49, zr49, Tryz.underlying49, sz55, ag55, zr55, Tryz.underlying55, sz61, ag61, zr61, Tryz.underlying61, sz62, ag62, zr62, Tryz.underlying62, sz63, ag63, zr63, Tryz.underlying63, sz70, ag70, zr70, Tryz.underlying70, sz73, ag73, zr73, Tryz.underlying73] <;> rfl))
      | ((with_reducible apply r_stepF); ((focus (simp only [↓reduceIte, wantedA_eq, gBool_f, Bool.not_true, List.getElem?_cons_zero, List.getElem?_cons_succ, Nat.reduceEqDiff, T.get_n, Nat.reduceDiv, Nat.reduceMod]; done))); focus (simp only [↓reduceIte, put_mk, T.set_n, T.set_e, Nat.reduceDiv, Nat.reduceMod, Nat.reduceLT, Nat.reduceEqDiff, Nat.reduceSub] <;> rfl))
      | ((with_reducible apply r_cond); focus (simp only [↓reduceIte, Fr.ev, Nat.reduceEqDiff, Nat.reduceSub, T.get_n, Nat.reduceDiv, Nat.reduceMod] <;> rfl))
      | (with_reducible rw [ifQ_t])
      | (with_reducible rw [ifQ_f])
      | (with_reducible refine ifQ_intro ?_ ?_ <;> intro hb))
  all_goals
    subst hQ
    refine ret_back (by simp only [↓reduceIte, Fr.ev, rdAB_row, someAgg_s, hget_same, List.length_cons, List.length_nil, List.drop_zero, List.take_succ_cons, List.take_zero, Nat.zero_add, Nat.reduceAdd, Nat.reduceLeDiff, Nat.reduceEqDiff, Nat.reduceSub, List.toList_toArray, loadA_w, loadW_a, T.get_n, Nat.reduceDiv, Nat.reduceMod, sz36, ag36, Tryz.results6, resultOf, resultsA, resultA] <;> rfl) ⟨_, rfl, ?_⟩
    repeat (first | exact Same.base _ _ _ | refine Same.hset hw ?_ (ky_le _ _))

end Go.Proofs.YtkgfpmbdiidlfaaGreatDoor
