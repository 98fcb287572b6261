/- A part of the proof of the law ShardParts. CONDITIONS: those that each theorem names. -/
import Derived.Test.YtdcindnnbmilaaaGreatDoorP11
namespace Go.Proofs.YtdcindnnbmilaaaGreatDoor
open Go Go.Ai
set_option maxRecDepth 100000

theorem sndQ_wf {f : FuncId} {args : List AV} {s : St} {Q : Out → Prop} (h : Wf s → SndQ Tryz.prog [] f args s Q) : SndQ Tryz.prog [] f args s Q := by
  by_cases hw : Wf s
  · exact h hw
  · exact ⟨[], snd_wf fun h1 => absurd h1 hw, by simp⟩
theorem wf_nk {H : Heap} {m : Nat} {b : AB} (hw : Wf ⟨H, m⟩) : Wf ⟨hset H (nk m) b, m + 1⟩ := by
  intro i ab hi hd
  simp only at hi ⊢
  rw [hget_hset] at hi
  have h1 : ky m 0 < ky (m + 1) 0 := by unfold ky; omega
  split at hi
  · rename_i e; rw [e, nk_eq]; exact h1
  · have h2 := hw i ab hi hd
    simp only at h2
    omega
theorem same_nk {H : Heap} {m : Nat} {b : AB} (hw : Wf ⟨H, m⟩) : SameH H (hset H (nk m) b) := by
  rw [nk_eq]; exact SameH.hset hw (SameH.refl _) (Nat.le_refl _)
theorem sameN {h h' : Heap} {F m : Nat} {b : AB} (hw : Wf ⟨h, F⟩) (hm : F ≤ m) : SameH h (hset h' (nk m) b) = SameH h h' := by
  have hk : ky F 0 ≤ nk m := by rw [nk_eq]; unfold ky; omega
  apply propext
  constructor
  · intro hs i ab hi hd
    have := hs i ab hi hd
    have hl := hw i ab hi hd
    simp only at hl
    rw [hget_hset, if_neg (by omega)] at this
    exact this
  · intro hs; exact SameH.hset hw hs hk
theorem box_nk {F m : Nat} (hm : F < m) : (ky F 0 = nk m) = False := eq_false (by rw [nk_eq]; unfold ky; omega)

set_option maxHeartbeats 4000000 in
theorem law3_big (h : Heap) (F : Nat) (ra rb : AV) (A B : List (List AV)) (hA : LstP h ksT ra A) (hB : LstP h ksT rb B) (n : Int) (hsum : A.length + B.length ≤ maxLen) (hbig : ¬ (A.length + B.length ≤ 500 ∧ n ≤ 200)) : SndQ Tryz.prog [] 3 [.agg [ra, rb], .int .i64 n] ⟨h, F⟩ (fun o => ∃ s', o = .val (.bool true) s') := by
  have mxl : maxLen = 9223372036854775807 := by decide
  have ha : intOp Tryz.prog .add 3 .i64 .i64 (A.length : Int) (B.length : Int) = some (.int .i64 ((A.length + B.length : Nat) : Int)) := by rw [intOp_add (by unfold inR; omega)]; rfl
  obtain ⟨b1, e1⟩ : ∃ b, decide ((500 : Int) < ((A.length + B.length : Nat) : Int)) = b := ⟨_, rfl⟩
  obtain ⟨b2, e2⟩ : ∃ b, decide ((200 : Int) < n) = b := ⟨_, rfl⟩
  rcases b1 with _ | _
  rcases b2 with _ | _
  · simp at e1 e2
    exact absurd ⟨by omega, by omega⟩ hbig
  all_goals
    refine sndQ_body (K := KL) kl_ok mixed noNum (m := 0) Tryz.func3 ?_
    generalize hQ : retQ _ _ _ _ _ _ = Q0
    refine body_go (c := Tryz.f3.body.getD .skip) (n := 37) rfl rfl (by simp only [↓reduceIte, T.setList, T.set_e, T.set_n, Nat.reduceDiv, Nat.reduceMod, Nat.reduceEqDiff, Nat.zero_add] <;> rfl) ?_
    simp only [Tryz.f3, Option.getD_some]
    repeat' (first
    | with_reducible refine r_seq ?_
    | with_reducible refine r_next ?_
    | with_reducible refine r_block ?_
    | with_reducible refine r_seq_exit ?_
    | with_reducible refine r_seq_ret ?_
    | with_reducible refine r_blk_n ?_
    | with_reducible refine r_blk_ret ?_
    | with_reducible refine r_blk_hit ?_
    | with_reducible refine r_blk_miss rfl ?_
    | with_reducible refine r_skip ?_
    | with_reducible refine r_exit ?_
    | with_reducible refine r_ret ?_
    | with_reducible refine r_rq_exit ?_
    | with_reducible refine r_rq_ret ?_
    | ((with_reducible apply r_regA); (focus (simp only [List.append_eq, List.cons_append, List.nil_append] <;> rfl)); (focus (first | exact Nat.le_of_ble_eq_true rfl | (simp only [List.length_cons, List.length_nil]; omega))))
    | ((with_reducible refine r_reg (List.toList_toArray) ?_ ?_); focus (first | exact Nat.le_of_ble_eq_true rfl | (simp only [List.length_cons, List.length_nil]; omega)))
    | ((with_reducible apply r_end); focus (simp only [Nat.reduceAdd, Nat.zero_add] <;> rfl))
    | ((with_reducible (first | apply r_any | apply r_cond)); focus (simp only [↓reduceIte, wantedA_eq, gBool_f, Bool.not_true, Bool.not_false, clsOf, clsCall, newBlk, allocOp, Fr.ev, evs, ofV, ofA, ofS, nVar, AV.cells, rowOf_mk, put_mk, upd_mk, keyOf_mk, pureOp, readOp, pFA, pFA1, pFA2, rLd, rdAB_row, oneCell_one, hget_same, pBin, binA, intOp_gtr, pPick, List.length_cons, List.length_nil, List.getElem?_cons_zero, List.getElem?_cons_succ, List.drop_zero, List.drop_succ_cons, List.take_succ_cons, List.take_zero, Nat.zero_add, Nat.add_zero, Nat.reduceAdd, Nat.reduceLT, Nat.reduceLeDiff, Nat.reduceEqDiff, Nat.reduceSub, Nat.add_eq, loadA_w, loadW_s, callTo_s, heavyCall, target, List.append_nil, binA, stepOp, stHeavy, stV_mk, stB_mk, stO_mk, T.get_n, T.set_n, T.set_e, Nat.reduceDiv, Nat.reduceMod, sz22, ag22, Tryz.underlying24, stepAny, wantedA_none, rCall, rLen, KLf, kl_fn, ha, e1, e2, rLen1_L Tryz.underlying22 hA, rLen1_L Tryz.underlying22 hB, intOp_gtr] <;> rfl))
    | (with_reducible rw [ifQ_t])
    | (with_reducible rw [ifQ_f])
    | (with_reducible refine ifQ_intro ?_ ?_ <;> intro hb))
    subst hQ
    refine ret_back (by simp only [↓reduceIte, Fr.ev, Nat.reduceEqDiff, Nat.reduceSub, List.toList_toArray, T.get_n, Nat.reduceDiv, Nat.reduceMod, Tryz.results3, resultOf, resultsA, resultA] <;> rfl) ⟨_, rfl⟩

set_option maxHeartbeats 8000000 in
theorem law3_pos (h : Heap) (F : Nat) (ra rb : AV) (A B : List (List AV)) (hA : LstP h ksT ra A) (hB : LstP h ksT rb B) (n : Int) (hsum : A.length + B.length ≤ maxLen) (hsm : A.length + B.length ≤ 500 ∧ n ≤ 200) (hn : okN n) : SndQ Tryz.prog [] 3 [.agg [ra, rb], .int .i64 n] ⟨h, F⟩ (fun o => ∃ s', o = .val (.bool true) s') := by
  refine sndQ_wf fun hw => ?_
  have mxl : maxLen = 9223372036854775807 := by decide
  obtain ⟨hm5, hn2⟩ := hsm
  have hn3 : n ≤ 1000 := by omega
  have hm : A.length + B.length ≤ 1000 := by omega
  have ha : intOp Tryz.prog .add 3 .i64 .i64 (A.length : Int) (B.length : Int) = some (.int .i64 ((A.length + B.length : Nat) : Int)) := by rw [intOp_add (by unfold inR; omega)]; rfl
  have e1 : decide ((500 : Int) < ((A.length + B.length : Nat) : Int)) = false := decide_eq_false (by omega)
  have e2 : decide ((200 : Int) < n) = false := decide_eq_false (by omega)
  have hwb : Wf ⟨hset h (ky F 0) (mkRow [ra, rb] 0), F + 1⟩ := wf_hset (wf_up hw (Nat.le_succ F)) (Nat.zero_le _)
  have n1 := fun (h' : Heap) (b : AB) => sameN (h' := h') (b := b) (m := F + 1) hw (by omega)
  have n2 := fun (h' : Heap) (b : AB) => sameN (h' := h') (b := b) (m := F + 1 + 1) hw (by omega)
  have n3 := fun (h' : Heap) (b : AB) => sameN (h' := h') (b := b) (m := F + 1 + 1 + 1) hw (by omega)
  have n4 := fun (h' : Heap) (b : AB) => sameN (h' := h') (b := b) (m := F + 1 + 1 + 1 + 1) hw (by omega)
  have k1 := box_nk (F := F) (m := F + 1) (by omega)
  have k2 := box_nk (F := F) (m := F + 1 + 1) (by omega)
  have k3 := box_nk (F := F) (m := F + 1 + 1 + 1) (by omega)
  have k4 := box_nk (F := F) (m := F + 1 + 1 + 1 + 1) (by omega)
  have hE1 := fun (H : Heap) => eq_true (eq_parts (H := H) (F := F) hn hn3 (c := capZ (A ++ B)) (c' := refC n (A ++ B)) (A ++ B))
  have hE2 := fun (H : Heap) => eq_true (eq_acts (H := H) (F := F + 1 + 1) hn hn3 (c := actC A B) (c' := racC n A B) A B)
  refine sndQ_body (K := KL) kl_ok mixed noNum (m := 0) Tryz.func3 ?_
  generalize hQ : retQ _ _ _ _ _ _ = Q0
  refine body_go (c := Tryz.f3.body.getD .skip) (n := 37) rfl rfl (by simp only [↓reduceIte, T.setList, T.set_e, T.set_n, Nat.reduceDiv, Nat.reduceMod, Nat.reduceEqDiff, Nat.zero_add] <;> rfl) ?_
  simp only [Tryz.f3, Option.getD_some]
  repeat' (first
  | with_reducible refine r_seq ?_
  | with_reducible refine r_next ?_
  | with_reducible refine r_block ?_
  | with_reducible refine r_seq_exit ?_
  | with_reducible refine r_seq_ret ?_
  | with_reducible refine r_blk_n ?_
  | with_reducible refine r_blk_ret ?_
  | with_reducible refine r_blk_hit ?_
  | with_reducible refine r_blk_miss rfl ?_
  | with_reducible refine r_skip ?_
  | with_reducible refine r_exit ?_
  | with_reducible refine r_ret ?_
  | with_reducible refine r_rq_exit ?_
  | with_reducible refine r_rq_ret ?_
  | ((with_reducible apply r_regA); (focus (simp only [List.append_eq, List.cons_append, List.nil_append] <;> rfl)); (focus (first | exact Nat.le_of_ble_eq_true rfl | (simp only [List.length_cons, List.length_nil]; omega))))
  | ((with_reducible refine r_reg (List.toList_toArray) ?_ ?_); focus (first | exact Nat.le_of_ble_eq_true rfl | (simp only [List.length_cons, List.length_nil]; omega)))
  | ((with_reducible apply r_end); focus (simp only [Nat.reduceAdd, Nat.zero_add] <;> rfl))
  | ((with_reducible (first | apply r_any | apply r_cond)); focus (simp only [↓reduceIte, wantedA_eq, gBool_f, Bool.not_false, clsOf, clsCall, newBlk, allocOp, Fr.ev, ofV, ofA, ofS, nVar, AV.cells, rowOf_mk, put_mk, upd_mk, keyOf_mk, pureOp, readOp, pFA, pFA1, pFA2, rLd, rdAB_row, oneCell_one, hget_same, pBin, binA, intOp_gtr, pPick, List.length_cons, List.length_nil, List.getElem?_cons_zero, List.getElem?_cons_succ, List.drop_zero, List.drop_succ_cons, List.take_succ_cons, List.take_zero, Nat.zero_add, Nat.add_zero, Nat.reduceAdd, Nat.reduceLT, Nat.reduceLeDiff, Nat.reduceEqDiff, Nat.reduceSub, Nat.add_eq, loadA_w, loadW_s, binA, stepOp, stV_mk, stB_mk, T.get_n, T.set_n, T.set_e, Nat.reduceDiv, Nat.reduceMod, sz22, ag22, Tryz.underlying24, stepAny, wantedA_none, rCall, rLen, ha, e1, e2, rLen1_L Tryz.underlying22 hA, rLen1_L Tryz.underlying22 hB, intOp_gtr] <;> rfl))
  | (with_reducible rw [ifQ_t])
  | (with_reducible rw [ifQ_f])
  | ((with_reducible apply (r_drawW (js := [0, 1, 3, 4, 2, 5, 6, 7, 8, 9, 11, 12, 10, 13, 14, 15, 16, 17, 18, 19]))); (focus kernel_rfl); (focus kernel_rfl); (focus (first | exact Nat.le_of_ble_eq_true rfl | (simp only [List.length_cons, List.length_nil]; omega))))
  | ((with_reducible apply d_end); (focus (simp only [List.length_cons, List.length_nil, Nat.reduceAdd, Nat.zero_add] <;> rfl)))
  | ((with_reducible apply d_any); (focus rfl); (iterate 2 (focus (simp only [↓reduceIte, wantedA_eq, gBool_t, clsOf, clsCall, Fr.ev, evs, put_mk, pureOp, readOp, rLd, rdAB_row, someAgg_s, hget_same, hget_hset_ite, pPick, List.length_cons, List.length_nil, List.getElem?_cons_zero, List.getElem?_cons_succ, List.drop_zero, List.take_succ_cons, List.take_zero, Nat.zero_add, Nat.reduceAdd, Nat.reduceLT, Nat.reduceLeDiff, Nat.reduceEqDiff, Nat.reduceSub, and_self, loadA_w, loadW_a, callTo_s, heavyCall, target, List.nil_append, List.append_nil, Bool.and_true, stepOp, stHeavy, stV_mk, stO_mk, T.get_n, T.set_n, T.set_e, Nat.reduceDiv, Nat.reduceMod, sz24, ag24, stepAny, wantedA_none, readSelf, av_agg, avs_nil, avs_cons, KLf, kl_fn, lstOf_same hA, lstOf_same hB, sameT, sameS hw, n1, n2, n3, k1, k2, hn, hn3, hm, hE1, hE2, av_self_L hA, av_self_L hB] <;> rfl))); (focus (first | exact SameH.refl _ | (refine same_nk ?_; repeat (first | exact hwb | refine wf_nk ?_)))))
  | (with_reducible refine ifQ_intro ?_ ?_ <;> intro hb))
  subst hQ
  refine ret_back (by simp only [↓reduceIte, Fr.ev, Nat.reduceEqDiff, Nat.reduceSub, List.toList_toArray, T.get_n, Nat.reduceDiv, Nat.reduceMod, Tryz.results3, resultOf, resultsA, resultA] <;> rfl) ⟨_, rfl⟩

set_option maxHeartbeats 8000000 in
theorem law3_neg (h : Heap) (F : Nat) (ra rb : AV) (A B : List (List AV)) (hA : LstP h ksT ra A) (hB : LstP h ksT rb B) (n : Int) (hsum : A.length + B.length ≤ maxLen) (hsm : A.length + B.length ≤ 500 ∧ n ≤ 200) (hn : ¬ okN n) : SndQ Tryz.prog [] 3 [.agg [ra, rb], .int .i64 n] ⟨h, F⟩ (fun o => ∃ s', o = .val (.bool true) s') := by
  refine sndQ_wf fun hw => ?_
  have mxl : maxLen = 9223372036854775807 := by decide
  obtain ⟨hm5, hn2⟩ := hsm
  have hn3 : n ≤ 1000 := by omega
  have hm : A.length + B.length ≤ 1000 := by omega
  have ha : intOp Tryz.prog .add 3 .i64 .i64 (A.length : Int) (B.length : Int) = some (.int .i64 ((A.length + B.length : Nat) : Int)) := by rw [intOp_add (by unfold inR; omega)]; rfl
  have e1 : decide ((500 : Int) < ((A.length + B.length : Nat) : Int)) = false := decide_eq_false (by omega)
  have e2 : decide ((200 : Int) < n) = false := decide_eq_false (by omega)
  have hwb : Wf ⟨hset h (ky F 0) (mkRow [ra, rb] 0), F + 1⟩ := wf_hset (wf_up hw (Nat.le_succ F)) (Nat.zero_le _)
  have n1 := fun (h' : Heap) (b : AB) => sameN (h' := h') (b := b) (m := F + 1) hw (by omega)
  have n2 := fun (h' : Heap) (b : AB) => sameN (h' := h') (b := b) (m := F + 1 + 1) hw (by omega)
  have n3 := fun (h' : Heap) (b : AB) => sameN (h' := h') (b := b) (m := F + 1 + 1 + 1) hw (by omega)
  have n4 := fun (h' : Heap) (b : AB) => sameN (h' := h') (b := b) (m := F + 1 + 1 + 1 + 1) hw (by omega)
  have k1 := box_nk (F := F) (m := F + 1) (by omega)
  have k2 := box_nk (F := F) (m := F + 1 + 1) (by omega)
  have k3 := box_nk (F := F) (m := F + 1 + 1 + 1) (by omega)
  have k4 := box_nk (F := F) (m := F + 1 + 1 + 1 + 1) (by omega)
  have hE := fun (H : Heap) => eq_true (let ⟨zs, h1, _⟩ := eq_nils H; (⟨zs, h1⟩ : ∃ zs, LstP H ksN .nils (iL zs)))
  refine sndQ_body (K := KL) kl_ok mixed noNum (m := 0) Tryz.func3 ?_
  generalize hQ : retQ _ _ _ _ _ _ = Q0
  refine body_go (c := Tryz.f3.body.getD .skip) (n := 37) rfl rfl (by simp only [↓reduceIte, T.setList, T.set_e, T.set_n, Nat.reduceDiv, Nat.reduceMod, Nat.reduceEqDiff, Nat.zero_add] <;> rfl) ?_
  simp only [Tryz.f3, Option.getD_some]
  repeat' (first
  | with_reducible refine r_seq ?_
  | with_reducible refine r_next ?_
  | with_reducible refine r_block ?_
  | with_reducible refine r_seq_exit ?_
  | with_reducible refine r_seq_ret ?_
  | with_reducible refine r_blk_n ?_
  | with_reducible refine r_blk_ret ?_
  | with_reducible refine r_blk_hit ?_
  | with_reducible refine r_blk_miss rfl ?_
  | with_reducible refine r_skip ?_
  | with_reducible refine r_exit ?_
  | with_reducible refine r_ret ?_
  | with_reducible refine r_rq_exit ?_
  | with_reducible refine r_rq_ret ?_
  | ((with_reducible apply r_regA); (focus (simp only [List.append_eq, List.cons_append, List.nil_append] <;> rfl)); (focus (first | exact Nat.le_of_ble_eq_true rfl | (simp only [List.length_cons, List.length_nil]; omega))))
  | ((with_reducible refine r_reg (List.toList_toArray) ?_ ?_); focus (first | exact Nat.le_of_ble_eq_true rfl | (simp only [List.length_cons, List.length_nil]; omega)))
  | ((with_reducible apply r_end); focus (simp only [Nat.reduceAdd, Nat.zero_add] <;> rfl))
  | ((with_reducible (first | apply r_any | apply r_cond)); focus (simp only [↓reduceIte, wantedA_eq, gBool_f, Bool.not_false, clsOf, clsCall, newBlk, allocOp, Fr.ev, ofV, ofA, ofS, nVar, AV.cells, rowOf_mk, put_mk, upd_mk, keyOf_mk, pureOp, readOp, pFA, pFA1, pFA2, rLd, rdAB_row, oneCell_one, hget_same, pBin, binA, intOp_gtr, pPick, List.length_cons, List.length_nil, List.getElem?_cons_zero, List.getElem?_cons_succ, List.drop_zero, List.drop_succ_cons, List.take_succ_cons, List.take_zero, Nat.zero_add, Nat.add_zero, Nat.reduceAdd, Nat.reduceLT, Nat.reduceLeDiff, Nat.reduceEqDiff, Nat.reduceSub, Nat.add_eq, loadA_w, loadW_s, binA, stepOp, stV_mk, stB_mk, T.get_n, T.set_n, T.set_e, Nat.reduceDiv, Nat.reduceMod, sz22, ag22, Tryz.underlying24, stepAny, wantedA_none, rCall, rLen, ha, e1, e2, rLen1_L Tryz.underlying22 hA, rLen1_L Tryz.underlying22 hB, intOp_gtr] <;> rfl))
  | (with_reducible rw [ifQ_t])
  | (with_reducible rw [ifQ_f])
  | ((with_reducible apply (r_drawW (js := [0, 1, 3, 4, 2, 5, 6, 7, 8, 9, 11, 12, 10, 13, 14, 15, 16, 17, 18, 19]))); (focus kernel_rfl); (focus kernel_rfl); (focus (first | exact Nat.le_of_ble_eq_true rfl | (simp only [List.length_cons, List.length_nil]; omega))))
  | ((with_reducible apply d_end); (focus (simp only [List.length_cons, List.length_nil, Nat.reduceAdd, Nat.zero_add] <;> rfl)))
  | ((with_reducible apply d_any); (focus rfl); (iterate 2 (focus (simp only [↓reduceIte, wantedA_eq, gBool_t, clsOf, clsCall, Fr.ev, evs, put_mk, pureOp, readOp, rLd, rdAB_row, someAgg_s, hget_same, pPick, List.length_cons, List.length_nil, List.getElem?_cons_zero, List.getElem?_cons_succ, List.drop_zero, List.take_succ_cons, List.take_zero, Nat.zero_add, Nat.reduceAdd, Nat.reduceLT, Nat.reduceLeDiff, Nat.reduceEqDiff, Nat.reduceSub, and_self, loadA_w, loadW_a, callTo_s, heavyCall, target, List.nil_append, List.append_nil, Bool.and_true, stepOp, stHeavy, stV_mk, stO_mk, T.get_n, T.set_n, T.set_e, Nat.reduceDiv, Nat.reduceMod, sz24, ag24, stepAny, wantedA_none, readSelf, av_agg, avs_nil, avs_cons, KLf, kl_fn, lstOf_same hA, lstOf_same hB, sameT, sameS hw, hn, hn3, hm, hE, av_self_L hA, av_self_L hB] <;> rfl))); (focus (first | exact SameH.refl _ | (refine same_nk ?_; repeat (first | exact hwb | refine wf_nk ?_)))))
  | (with_reducible refine ifQ_intro ?_ ?_ <;> intro hb))
  subst hQ
  refine ret_back (by simp only [↓reduceIte, Fr.ev, Nat.reduceEqDiff, Nat.reduceSub, List.toList_toArray, T.get_n, Nat.reduceDiv, Nat.reduceMod, Tryz.results3, resultOf, resultsA, resultA] <;> rfl) ⟨_, rfl⟩

theorem law3 (h : Heap) (F : Nat) (ra rb : AV) (A B : List (List AV)) (hA : LstP h ksT ra A) (hB : LstP h ksT rb B) (n : Int) (hsum : A.length + B.length ≤ maxLen) : SndQ Tryz.prog [] 3 [.agg [ra, rb], .int .i64 n] ⟨h, F⟩ (fun o => ∃ s', o = .val (.bool true) s') := by
  by_cases hs : A.length + B.length ≤ 500 ∧ n ≤ 200
  · by_cases hn : okN n
    · exact law3_pos h F ra rb A B hA hB n hsum hs hn
    · exact law3_neg h F ra rb A B hA hB n hsum hs hn
  · exact law3_big h F ra rb A B hA hB n hsum hs


end Go.Proofs.YtdcindnnbmilaaaGreatDoor

