/- A part of the proof of the law ReconFresh. CONDITIONS: those that each theorem names. -/
import Derived.Test.YtneoghpfbgjaiaaGreatDoorG18
namespace Go.Proofs.YtneoghpfbgjaiaaGreatDoor
open Go Go.Ai
set_option maxRecDepth 100000

theorem sndQ_wf {f : FuncId} {args : List AV} {s : St} {Q : Out → Prop} (h : Wf s → SndQ Tryz.prog [] f args s Q) : SndQ Tryz.prog [] f args s Q := by
  by_cases hw : Wf s
  · exact h hw
  · exact ⟨[], snd_wf fun h1 => absurd h1 hw, by simp⟩
set_option maxHeartbeats 4000000 in
theorem law4_big (h : Heap) (F : Nat) (x1 x2 y1 y2 q1 q2 : Int) (n1 n2 : List UInt8) (a a2 r r2 v v2 p p2 : AV) (A A2 R R2 V V2 P P2 : List (List AV)) (hA : LstP h ksV a A) (hA2 : LstP h ksV a2 A2) (hR : LstP h ksT r R) (hR2 : LstP h ksT r2 R2) (hV : LstP h ksT v V) (hV2 : LstP h ksT v2 V2) (hP : LstP h ksI p P) (hP2 : LstP h ksI p2 P2) (it wr : AV) (I W : List (List AV)) (hI : LstP h ksI it I) (hW : LstP h ksW wr W) (hbig : ¬ (I.length ≤ 300 ∧ P.length ≤ 500 ∧ W.length ≤ 500)) : SndQ Tryz.prog [] 4 [.agg [.int .i64 x1, .int .u64 y1, .str n1, a, .int .i64 q1, r, v, p, .int .i64 x2, .int .u64 y2, .str n2, a2, .int .i64 q2, r2, v2, p2, it, wr]] ⟨h, F⟩ (fun o => ∃ s', o = .val (.bool true) s') := by
  obtain ⟨b1, e1⟩ : ∃ b, decide ((300 : Int) < (I.length : Int)) = b := ⟨_, rfl⟩
  obtain ⟨b2, e2⟩ : ∃ b, decide ((500 : Int) < (P.length : Int)) = b := ⟨_, rfl⟩
  obtain ⟨b3, e3⟩ : ∃ b, decide ((500 : Int) < (W.length : Int)) = b := ⟨_, rfl⟩
  rcases b1 with _ | _
  rcases b2 with _ | _
  rcases b3 with _ | _
  · simp at e1 e2 e3
    exact absurd ⟨by omega, by omega, by omega⟩ hbig
  all_goals
    refine sndQ_body (K := K10) k10_ok mixed noNum (m := 0) Tryz.func4 ?_
    generalize hQ : retQ _ _ _ _ _ _ = Q0
    refine body_go (c := Tryz.f4.body.getD .skip) (n := 75) rfl rfl (by simp only [↓reduceIte, T.setList, T.set_e] <;> rfl) ?_
    simp only [Tryz.f4, Option.getD_some]
    repeat' (first
    | with_reducible refine r_seq ?_
    | with_reducible refine r_next ?_
    | with_reducible refine r_block ?_
    | with_reducible refine r_seq_exit ?_
    | with_reducible refine r_seq_ret ?_
    | with_reducible refine r_blk_n ?_
    | with_reducible refine r_blk_ret ?_
    | with_reducible refine r_blk_hit ?_
    | with_reducible refine r_blk_miss rfl ?_
    | with_reducible refine r_skip ?_
    | with_reducible refine r_exit ?_
    | with_reducible refine r_ret ?_
    | with_reducible refine r_rq_exit ?_
    | with_reducible refine r_rq_ret ?_
    | ((with_reducible apply r_regA); (focus (simp only [List.append_eq, List.cons_append, List.nil_append] <;> rfl)); (focus (first | exact Nat.le_of_ble_eq_true rfl | (simp only [List.length_cons, List.length_nil]; omega))))
    | ((with_reducible refine r_reg (List.toList_toArray) ?_ ?_); focus (first | exact Nat.le_of_ble_eq_true rfl | (simp only [List.length_cons, List.length_nil]; omega)))
    | ((with_reducible apply r_end); focus (simp only [Nat.reduceAdd, Nat.zero_add] <;> rfl))
    | ((with_reducible (first | apply r_any | apply r_cond)); focus (simp only [↓reduceIte, wantedA_eq, gBool_f, Bool.not_true, Bool.not_false, clsOf, clsCall, newBlk, allocOp, Fr.ev, evs, ofV, ofA, ofS, nVar, AV.cells, rowOf_mk, put_mk, upd_mk, keyOf_mk, pureOp, readOp, pFA, pFA1, pFA2, rLd, rdAB_row, oneCell_one, hget_same, pBin, binA, intOp_gtr, pPick, List.length_cons, List.length_nil, List.getElem?_cons_zero, List.getElem?_cons_succ, List.drop_zero, List.drop_succ_cons, List.take_succ_cons, List.take_zero, Nat.zero_add, Nat.add_zero, Nat.reduceAdd, Nat.reduceLT, Nat.reduceLeDiff, Nat.reduceEqDiff, Nat.reduceSub, Nat.add_eq, loadA_w, loadW_s, callTo_s, heavyCall, target, List.append_nil, binA, stepOp, stHeavy, stV_mk, stB_mk, stO_mk, T.get_n, T.set_n, T.set_e, Nat.reduceDiv, Nat.reduceMod, sz27, ag27, sz43, Tryz.underlying43, sz56, ag56, Tryz.underlying58, stepAny, wantedA_none, rCall, rLen, K10f, k10_fn, e1, e2, e3, rLen1_L Tryz.underlying27 hI, rLen1_L Tryz.underlying27 hP, rLen1_L Tryz.underlying56 hW, intOp_gtr] <;> rfl))
    | (with_reducible rw [ifQ_t])
    | (with_reducible rw [ifQ_f])
    | (with_reducible refine ifQ_intro ?_ ?_ <;> intro hb))
    subst hQ
    refine ret_back (by simp only [↓reduceIte, Fr.ev, Nat.reduceEqDiff, Nat.reduceSub, List.toList_toArray, T.get_n, Nat.reduceDiv, Nat.reduceMod, Tryz.results4, resultOf, resultsA, resultA] <;> rfl) ⟨_, rfl⟩


end Go.Proofs.YtneoghpfbgjaiaaGreatDoor

