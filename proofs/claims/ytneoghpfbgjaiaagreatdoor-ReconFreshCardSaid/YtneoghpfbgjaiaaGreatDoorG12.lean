/- A part of the proof of the law ReconFresh. CONDITIONS: those that each theorem names. -/
import Derived.Test.YtneoghpfbgjaiaaGreatDoorG11
namespace Go.Proofs.YtneoghpfbgjaiaaGreatDoor
open Go Go.Ai
set_option maxRecDepth 100000

theorem same73 (h : Heap) (F : Nat) (r r2 v v2 : AV) (R R2 V V2 : List (List AV)) (hR : LstP h ksT r R) (hR2 : LstP h ksT r2 R2) (hV : LstP h ksT v V) (hV2 : LstP h ksT v2 V2) : Snd Tryz.prog [] 73 [.agg [r, v], .agg [r2, v2]] ⟨h, F⟩ [.val (.bool (dec (R = R2 ∧ V = V2))) ⟨h, F⟩] := by
  refine snd_val (by simp [Kin]) fun hw => ?_
  obtain ⟨b1, e1⟩ : ∃ b, dec (R = R2) = b := ⟨_, rfl⟩
  have key : (cond b1 (dec (V = V2)) false) = dec (R = R2 ∧ V = V2) := by
    refine bool_dec ?_
    subst e1
    by_cases h1 : R = R2 <;> simp [h1, dec_iff, dec_t, dec_f]
  rw [← key]
  clear key
  rcases b1 with _ | _
  all_goals
    refine sndQ_body (K := K5) k5_ok mixed noNum (m := 0) Tryz.func73 ?_
    generalize hQ : retQ _ _ _ _ _ _ = Q0
    refine body_go (c := Tryz.f73.body.getD .skip) (n := 17) rfl rfl (by simp only [↓reduceIte, T.setList, T.set_e, T.set_n, Nat.reduceDiv, Nat.reduceMod, Nat.reduceEqDiff, Nat.zero_add] <;> rfl) ?_
    simp only [Tryz.f73, Option.getD_some]
    repeat' (first
    | with_reducible refine r_seq ?_
    | with_reducible refine r_next ?_
    | with_reducible refine r_block ?_
    | with_reducible refine r_seq_exit ?_
    | with_reducible refine r_seq_ret ?_
    | with_reducible refine r_blk_n ?_
    | with_reducible refine r_blk_ret ?_
    | with_reducible refine r_blk_hit ?_
    | with_reducible refine r_blk_miss rfl ?_
    | with_reducible refine r_skip ?_
    | with_reducible refine r_exit ?_
    | with_reducible refine r_ret ?_
    | with_reducible refine r_rq_exit ?_
    | with_reducible refine r_rq_ret ?_
    | ((with_reducible apply r_regA); (focus (simp only [List.append_eq, List.cons_append, List.nil_append] <;> rfl)); (focus (first | exact Nat.le_of_ble_eq_true rfl | (simp only [List.length_cons, List.length_nil]; omega))))
    | ((with_reducible refine r_reg (List.toList_toArray) ?_ ?_); focus (first | exact Nat.le_of_ble_eq_true rfl | (simp only [List.length_cons, List.length_nil]; omega)))
    | ((with_reducible apply r_end); focus (simp only [Nat.reduceAdd, Nat.zero_add] <;> rfl))
    | ((with_reducible (first | apply r_any | apply r_cond)); focus (simp only [↓reduceIte, wantedA_eq, gBool_t, clsOf, clsCall, newBlk, allocOp, Fr.ev, evs, ofV, ofA, ofS, nVar, AV.cells, rowOf_mk, put_mk, upd_mk, keyOf_mk, ky_inj, pureOp, readOp, pFA, pFA1, pFA2, rLd, rdAB_row, oneCell_one, hget_same, hget_hset_ite, pPick, List.length_cons, List.length_nil, List.getElem?_cons_zero, List.getElem?_cons_succ, List.drop_zero, List.drop_succ_cons, List.take_succ_cons, List.take_zero, Nat.zero_add, Nat.add_zero, Nat.reduceAdd, Nat.reduceLT, Nat.reduceLeDiff, Nat.reduceEqDiff, Nat.reduceSub, Nat.add_eq, loadA_w, loadW_s, callTo_s, heavyCall, target, List.nil_append, List.append_nil, stepOp, stHeavy, stV_mk, stB_mk, stO_mk, T.get_n, T.set_n, T.set_e, Nat.reduceDiv, Nat.reduceMod, sz37, ag37, Tryz.underlying39, stepAny, wantedA_none, K5f, k5_fn, lstOf_same hR, lstOf_same hR2, lstOf_same hV, lstOf_same hV2, sameT, sameS hw, e1] <;> rfl))
    | (with_reducible rw [ifQ_t])
    | (with_reducible rw [ifQ_f])
    | (with_reducible refine ifQ_intro ?_ ?_ <;> intro hb))
    subst hQ
    refine ret_back (by simp only [Tryz.results73, resultOf, resultsA, resultA, List.toList_toArray, Fr.ev, T.get_n, Nat.reduceDiv, Nat.reduceMod, Nat.reduceSub, Nat.reduceEqDiff, ↓reduceIte] <;> rfl) ⟨_, rfl, ?_⟩
    repeat (first | exact Same.base _ _ _ | exact Same.refl _ | refine Same.hset hw ?_ (ky_le _ _))

noncomputable def K6f : FuncId → List AV → St → Outs := fun f args s => match f, args with
  | 78, [.agg [.int .i64 x1, .int .u64 y1, .str n1, a], .agg [.int .i64 x2, .int .u64 y2, .str n2, a2]] => match lstOf s.h ksV a, lstOf s.h ksV a2 with
    | some L, some M => some [.val (.bool (dec (reqP x1 y1 n1 L x2 y2 n2 M))) s]
    | _, _ => none
  | 72, [.agg [.int .i64 x1, .int .u64 y1, .str n1, a], .agg [.int .i64 x2, .int .u64 y2, .str n2, a2]] => match lstOf s.h ksV a, lstOf s.h ksV a2 with
    | some L, some M => some [.val (.bool (dec (reqP x1 y1 n1 L x2 y2 n2 M))) s]
    | _, _ => none
  | 73, [.agg [r, v], .agg [r2, v2]] => match lstOf s.h ksT r, lstOf s.h ksT r2, lstOf s.h ksT v, lstOf s.h ksT v2 with
    | some R, some R2, some V, some V2 => some [.val (.bool (dec (R = R2 ∧ V = V2))) s]
    | _, _, _, _ => none
  | f, args => K5f f args s
noncomputable def K6 : CallF := ⟨K6f, fun _ _ _ => none⟩
theorem k6_fn (f : FuncId) (args : List AV) (s : St) : CallF.fn K6 f args s = K6f f args s := rfl
theorem k6_ok : KOK Tryz.prog [] K6 := KOK.table fun f args s outs h => by
  obtain ⟨h0, F⟩ := s
  unfold K6f at h
  split at h
  · split at h
    · rename_i h1 h2; cases h; exact req78 _ _ _ _ _ _ _ _ _ _ _ _ (lstOf_p h1) (lstOf_p h2)
    · cases h
  · split at h
    · rename_i h1 h2; cases h; exact req72 _ _ _ _ _ _ _ _ _ _ _ _ (lstOf_p h1) (lstOf_p h2)
    · cases h
  · split at h
    · rename_i h1 h2 h3 h4; cases h; exact same73 _ _ _ _ _ _ _ _ _ _ (lstOf_p h1) (lstOf_p h2) (lstOf_p h3) (lstOf_p h4)
    · cases h
  · exact k5_ok.fn _ _ _ _ h

def passP (x1 y1 q1 : Int) (n1 : List UInt8) (A R V P : List (List AV)) (x2 y2 q2 : Int) (n2 : List UInt8) (A2 R2 V2 P2 : List (List AV)) : Prop := reqP x1 y1 n1 A x2 y2 n2 A2 ∧ q1 = q2 ∧ R = R2 ∧ V = V2 ∧ P = P2
set_option maxHeartbeats 2000000 in
theorem equal26 (h : Heap) (F : Nat) (x1 x2 y1 y2 q1 q2 : Int) (n1 n2 : List UInt8) (a a2 r r2 v v2 p p2 : AV) (A A2 R R2 V V2 P P2 : List (List AV)) (hA : LstP h ksV a A) (hA2 : LstP h ksV a2 A2) (hR : LstP h ksT r R) (hR2 : LstP h ksT r2 R2) (hV : LstP h ksT v V) (hV2 : LstP h ksT v2 V2) (hP : LstP h ksI p P) (hP2 : LstP h ksI p2 P2) : Snd Tryz.prog [] 26 [.agg [.int .i64 x1, .int .u64 y1, .str n1, a, .int .i64 q1, r, v, p], .agg [.int .i64 x2, .int .u64 y2, .str n2, a2, .int .i64 q2, r2, v2, p2]] ⟨h, F⟩ [.val (.bool (dec (passP x1 y1 q1 n1 A R V P x2 y2 q2 n2 A2 R2 V2 P2))) ⟨h, F⟩] := by
  refine snd_val (by simp [Kin]) fun hw => ?_
  obtain ⟨b1, e1⟩ : ∃ b, dec (reqP x1 y1 n1 A x2 y2 n2 A2) = b := ⟨_, rfl⟩
  obtain ⟨b2, e2⟩ : ∃ b, (q1 == q2) = b := ⟨_, rfl⟩
  obtain ⟨b3, e3⟩ : ∃ b, dec (R = R2) = b := ⟨_, rfl⟩
  obtain ⟨b4, e4⟩ : ∃ b, dec (V = V2) = b := ⟨_, rfl⟩
  have key : (cond b1 (cond b2 (cond b3 (cond b4 (dec (P = P2)) false) false) false) false) = dec (passP x1 y1 q1 n1 A R V P x2 y2 q2 n2 A2 R2 V2 P2) := by
    refine bool_dec ?_
    subst e1 e2 e3 e4
    by_cases h1 : reqP x1 y1 n1 A x2 y2 n2 A2 <;> by_cases h2 : q1 = q2 <;> by_cases h3 : R = R2 <;> by_cases h4 : V = V2 <;> simp [passP, h1, h2, h3, h4, dec_iff, dec_t, dec_f]
  rw [← key]
  clear key
  rcases b1 with _ | _
  rotate_left
  rcases b2 with _ | _
  rotate_left
  rcases b3 with _ | _
  rotate_left
  rcases b4 with _ | _
  all_goals
    refine sndQ_body (K := K6) k6_ok mixed noNum (m := 0) Tryz.func26 ?_
    generalize hQ : retQ _ _ _ _ _ _ = Q0
    refine body_go (c := Tryz.f26.body.getD .skip) (n := 50) rfl rfl (by simp only [↓reduceIte, T.setList, T.set_e, T.set_n, Nat.reduceDiv, Nat.reduceMod, Nat.reduceEqDiff, Nat.zero_add] <;> rfl) ?_
    simp only [Tryz.f26, Option.getD_some]
    repeat' (first
    | with_reducible refine r_seq ?_
    | with_reducible refine r_next ?_
    | with_reducible refine r_block ?_
    | with_reducible refine r_seq_exit ?_
    | with_reducible refine r_seq_ret ?_
    | with_reducible refine r_blk_n ?_
    | with_reducible refine r_blk_ret ?_
    | with_reducible refine r_blk_hit ?_
    | with_reducible refine r_blk_miss rfl ?_
    | with_reducible refine r_skip ?_
    | with_reducible refine r_exit ?_
    | with_reducible refine r_ret ?_
    | with_reducible refine r_rq_exit ?_
    | with_reducible refine r_rq_ret ?_
    | ((with_reducible apply r_regA); (focus (simp only [List.append_eq, List.cons_append, List.nil_append] <;> rfl)); (focus (first | exact Nat.le_of_ble_eq_true rfl | (simp only [List.length_cons, List.length_nil]; omega))))
    | ((with_reducible refine r_reg (List.toList_toArray) ?_ ?_); focus (first | exact Nat.le_of_ble_eq_true rfl | (simp only [List.length_cons, List.length_nil]; omega)))
    | ((with_reducible apply r_end); focus (simp only [Nat.reduceAdd, Nat.zero_add] <;> rfl))
    | ((with_reducible (first | apply r_any | apply r_cond)); focus (simp only [↓reduceIte, wantedA_eq, gBool_t, clsOf, clsCall, newBlk, allocOp, Fr.ev, evs, ofV, ofA, ofS, nVar, AV.cells, rowOf_mk, put_mk, upd_mk, keyOf_mk, ky_inj, pureOp, readOp, pFA, pFA1, pFA2, rLd, rdAB_row, oneCell_one, someAgg_s, hget_same, hget_hset_ite, pBin, binA, intOp_eql, pPick, List.length_cons, List.length_nil, List.getElem?_cons_zero, List.getElem?_cons_succ, List.drop_zero, List.drop_succ_cons, List.take_succ_cons, List.take_zero, Nat.zero_add, Nat.add_zero, Nat.reduceAdd, Nat.reduceLT, Nat.reduceLeDiff, Nat.reduceEqDiff, Nat.reduceSub, Nat.add_eq, loadA_w, loadW_a, loadW_s, callTo_s, heavyCall, target, List.nil_append, List.append_nil, binA, stepOp, stHeavy, stV_mk, stB_mk, stO_mk, T.get_n, T.set_n, T.set_e, Nat.reduceDiv, Nat.reduceMod, sz3, ag3, sz26, ag26, sz27, ag27, sz37, ag37, sz39, Tryz.underlying39, sz41, Tryz.underlying41, Tryz.underlying43, stepAny, wantedA_none, K6f, k6_fn, K5f, lstOf_same hA, lstOf_same hA2, lstOf_same hR, lstOf_same hR2, lstOf_same hV, lstOf_same hV2, lstOf_same hP, lstOf_same hP2, sameT, sameS hw, e1, e2, e3, e4] <;> rfl))
    | (with_reducible rw [ifQ_t])
    | (with_reducible rw [ifQ_f])
    | (with_reducible refine ifQ_intro ?_ ?_ <;> intro hb))
    subst hQ
    refine ret_back (by simp only [Tryz.results26, resultOf, resultsA, resultA, List.toList_toArray, Fr.ev, T.get_n, Nat.reduceDiv, Nat.reduceMod, Nat.reduceSub, Nat.reduceEqDiff, ↓reduceIte] <;> rfl) ⟨_, rfl, ?_⟩
    repeat (first | exact Same.base _ _ _ | exact Same.refl _ | refine Same.hset hw ?_ (ky_le _ _))


end Go.Proofs.YtneoghpfbgjaiaaGreatDoor

