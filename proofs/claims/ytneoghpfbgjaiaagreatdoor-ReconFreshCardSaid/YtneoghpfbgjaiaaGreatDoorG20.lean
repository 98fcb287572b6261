/- A part of the proof of the law ReconFresh. CONDITIONS: those that each theorem names. -/
import Derived.Test.YtneoghpfbgjaiaaGreatDoorG19
namespace Go.Proofs.YtneoghpfbgjaiaaGreatDoor
open Go Go.Ai
set_option maxRecDepth 100000

set_option maxHeartbeats 8000000 in
theorem law4_small (h : Heap) (F : Nat) (x1 x2 y1 y2 q1 q2 : Int) (n1 n2 : List UInt8) (a a2 r r2 v v2 p p2 : AV) (A A2 R R2 V V2 P P2 : List (List AV)) (hA : LstP h ksV a A) (hA2 : LstP h ksV a2 A2) (hR : LstP h ksT r R) (hR2 : LstP h ksT r2 R2) (hV : LstP h ksT v V) (hV2 : LstP h ksT v2 V2) (hP : LstP h ksI p P) (hP2 : LstP h ksI p2 P2) (it wr : AV) (I W : List (List AV)) (hI : LstP h ksI it I) (hW : LstP h ksW wr W) (hsm : I.length ≤ 300 ∧ P.length ≤ 500 ∧ W.length ≤ 500) : SndQ Tryz.prog [] 4 [.agg [.int .i64 x1, .int .u64 y1, .str n1, a, .int .i64 q1, r, v, p, .int .i64 x2, .int .u64 y2, .str n2, a2, .int .i64 q2, r2, v2, p2, it, wr]] ⟨h, F⟩ (fun o => ∃ s', o = .val (.bool true) s') := by
  refine sndQ_wf fun hw => ?_
  obtain ⟨h3, h5, h6⟩ := hsm
  have e1 : decide ((300 : Int) < (I.length : Int)) = false := decide_eq_false (by omega)
  have e2 : decide ((500 : Int) < (P.length : Int)) = false := decide_eq_false (by omega)
  have e3 : decide ((500 : Int) < (W.length : Int)) = false := decide_eq_false (by omega)
  have e4 : Nat.ble P.length 1000 = true := Nat.ble_eq_true_of_le (by omega)
  have e5 : Nat.ble W.length 1000 = true := Nat.ble_eq_true_of_le (by omega)
  have eself : dec (passP x1 y1 q1 n1 A R V P x1 y1 q1 n1 A R V P) = true := dec_t ⟨⟨rfl, rfl, rfl, rfl⟩, rfl, rfl, rfl, rfl⟩
  have hs0 : SameH h (hset h (ky F 0) (mkRow [.int .i64 x1, .int .u64 y1, .str n1, a, .int .i64 q1, r, v, p, .int .i64 x2, .int .u64 y2, .str n2, a2, .int .i64 q2, r2, v2, p2, it, wr] 0)) := SameH.hset hw (SameH.refl _) (ky_le _ _)
  have hw0 : Wf ⟨hset h (ky F 0) (mkRow [.int .i64 x1, .int .u64 y1, .str n1, a, .int .i64 q1, r, v, p, .int .i64 x2, .int .u64 y2, .str n2, a2, .int .i64 q2, r2, v2, p2, it, wr] 0), F + 1⟩ := wf_hset (wf_up hw (Nat.le_succ F)) (Nat.zero_le _)
  obtain ⟨it2, h2, F2, hsrc, hsame, hI2⟩ := source16 (hset h (ky F 0) (mkRow [.int .i64 x1, .int .u64 y1, .str n1, a, .int .i64 q1, r, v, p, .int .i64 x2, .int .u64 y2, .str n2, a2, .int .i64 q2, r2, v2, p2, it, wr] 0)) (F + 1) it I (hI.same hs0) (by omega)
  have hs1 := hsame hw0
  have hs2 : SameH h h2 := hs0.trans hs1
  have hc0 : hget h2 (ky F 0) = some (mkRow [.int .i64 x1, .int .u64 y1, .str n1, a, .int .i64 q1, r, v, p, .int .i64 x2, .int .u64 y2, .str n2, a2, .int .i64 q2, r2, v2, p2, it, wr] 0) := hs1 _ _ (hget_same _ _ _) (by intro e; cases e)
  refine sndQ_body (K := (point K10 16 [it, .bool false] ⟨hset h (ky F 0) (mkRow [.int .i64 x1, .int .u64 y1, .str n1, a, .int .i64 q1, r, v, p, .int .i64 x2, .int .u64 y2, .str n2, a2, .int .i64 q2, r2, v2, p2, it, wr] 0), F + 1⟩ [.val (.iface 226 (.agg [it2])) ⟨h2, F2⟩])) (point_ok k10_ok hsrc) mixed noNum (m := 0) Tryz.func4 ?_
  generalize hQ : retQ _ _ _ _ _ _ = Q0
  refine body_go (c := Tryz.f4.body.getD .skip) (n := 75) rfl rfl (by simp only [↓reduceIte, T.setList, T.set_e] <;> rfl) ?_
  simp only [Tryz.f4, Option.getD_some]
  repeat' (first
  | with_reducible refine r_seq ?_
  | with_reducible refine r_next ?_
  | with_reducible refine r_block ?_
  | with_reducible refine r_seq_exit ?_
  | with_reducible refine r_seq_ret ?_
  | with_reducible refine r_blk_n ?_
  | with_reducible refine r_blk_ret ?_
  | with_reducible refine r_blk_hit ?_
  | with_reducible refine r_blk_miss rfl ?_
  | with_reducible refine r_skip ?_
  | with_reducible refine r_exit ?_
  | with_reducible refine r_ret ?_
  | with_reducible refine r_rq_exit ?_
  | with_reducible refine r_rq_ret ?_
  | ((with_reducible apply r_regA); (focus (simp only [List.append_eq, List.cons_append, List.nil_append] <;> rfl)); (focus (first | exact Nat.le_of_ble_eq_true rfl | (simp only [List.length_cons, List.length_nil]; omega))))
  | ((with_reducible refine r_reg (List.toList_toArray) ?_ ?_); focus (first | exact Nat.le_of_ble_eq_true rfl | (simp only [List.length_cons, List.length_nil]; omega)))
  | ((with_reducible apply r_end); focus (simp only [Nat.reduceAdd, Nat.zero_add] <;> rfl))
  | ((with_reducible (first | apply r_any | apply r_cond)); focus (simp only [↓reduceIte, wantedA_eq, gBool_f, Bool.not_false, clsOf, clsCall, newBlk, allocOp, Fr.ev, ofV, ofA, ofS, nVar, AV.cells, rowOf_mk, put_mk, upd_mk, keyOf_mk, pureOp, readOp, pFA, pFA1, pFA2, rLd, rdAB_row, oneCell_one, hget_same, pBin, binA, intOp_gtr, pPick, List.length_cons, List.length_nil, List.getElem?_cons_zero, List.getElem?_cons_succ, List.drop_zero, List.drop_succ_cons, List.take_succ_cons, List.take_zero, Nat.zero_add, Nat.add_zero, Nat.reduceAdd, Nat.reduceLT, Nat.reduceLeDiff, Nat.reduceEqDiff, Nat.reduceSub, Nat.add_eq, loadA_w, loadW_s, binA, stepOp, stV_mk, stB_mk, T.get_n, T.set_n, T.set_e, Nat.reduceDiv, Nat.reduceMod, sz27, ag27, sz43, Tryz.underlying43, sz56, ag56, Tryz.underlying58, stepAny, wantedA_none, rCall, rLen, e1, e2, e3, rLen1_L Tryz.underlying27 hI, rLen1_L Tryz.underlying27 hP, rLen1_L Tryz.underlying56 hW, intOp_gtr] <;> rfl))
  | (with_reducible rw [ifQ_t])
  | (with_reducible rw [ifQ_f])
  | ((with_reducible apply (r_drawW (js := [0, 1, 2, 3, 6, 7, 8, 9, 4, 5, 10, 11, 12, 13, 14, 15, 16, 17, 18, 19, 20, 21, 22, 24, 25, 26, 27, 23, 28, 29, 30, 31, 32, 33, 34, 35, 37, 38, 39, 40, 36, 41, 42, 43, 44, 45, 46, 47, 48, 49, 50, 51, 52, 53, 54]))); (focus kernel_rfl); (focus kernel_rfl); (focus (first | exact Nat.le_of_ble_eq_true rfl | (simp only [List.length_cons, List.length_nil]; omega))))
  | ((with_reducible apply d_end); (focus (simp only [List.length_cons, List.length_nil, Nat.reduceAdd, Nat.zero_add] <;> rfl)))
  | ((with_reducible apply d_any); (focus rfl); (iterate 2 (focus (simp only [↓reduceIte, wantedA_eq, gBool_t, Bool.not_false, clsOf, clsCall, Fr.ev, evs, ofV, ofA, ofS, put_mk, pureOp, readOp, pFA, pFA1, pFA2, rLd, rdAB_row, oneCell_one, someAgg_s, hget_same, pBin, binA, pPick, List.length_cons, List.length_nil, List.getElem?_cons_zero, List.getElem?_cons_succ, List.drop_zero, List.drop_succ_cons, List.take_succ_cons, List.take_zero, Nat.zero_add, Nat.add_zero, Nat.reduceAdd, Nat.reduceLT, Nat.reduceLeDiff, Nat.reduceEqDiff, Nat.reduceSub, Nat.add_eq, loadA_w, loadW_a, loadW_s, pUn_not, callTo_s, heavyCall, target, List.nil_append, List.append_nil, binA, eqIn, eqGuardOk, beq_self_eq_true, Bool.and_true, stepOp, stHeavy, stV_mk, stO_mk, T.get_n, T.set_n, T.set_e, Nat.reduceDiv, Nat.reduceMod, Tryz.underlying4, sz27, ag27, sz43, ag43, sz56, ag56, Tryz.underlying58, stepAny, wantedA_none, readSelf, av_str, av_int, av_agg, avs_nil, avs_cons, K10f, k10_fn, e4, e5, eself, point_hit, point_miss (f := 16) (g := 12) (by decide), point_miss (f := 16) (g := 22) (by decide), point_miss (f := 16) (g := 23) (by decide), point_miss (f := 16) (g := 24) (by decide), point_miss (f := 16) (g := 25) (by decide), point_miss (f := 16) (g := 26) (by decide), point_miss (f := 16) (g := 18) (by decide), lstOf_same hA, lstOf_same hA2, lstOf_same hR, lstOf_same hR2, lstOf_same hV, lstOf_same hV2, lstOf_same hP, lstOf_same hP2, lstOf_same hI, lstOf_same hW, lstOf_eq hI2, hs2, hc0, av_self_L hA, av_self_L hA2, av_self_L hR, av_self_L hR2, av_self_L hV, av_self_L hV2, av_self_L hP, av_self_L hP2, av_self_L hI, av_self_L hW] <;> rfl))); (focus (first | exact SameH.refl _ | exact hs1 | (simp only [sameT, sameS hw]; done))))
  | (with_reducible refine ifQ_intro ?_ ?_ <;> intro hb))
  subst hQ
  refine ret_back (by simp only [↓reduceIte, Fr.ev, Nat.reduceEqDiff, Nat.reduceSub, List.toList_toArray, T.get_n, Nat.reduceDiv, Nat.reduceMod, Tryz.results4, resultOf, resultsA, resultA] <;> rfl) ⟨_, rfl⟩

end Go.Proofs.YtneoghpfbgjaiaaGreatDoor

