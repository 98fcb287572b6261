/- A part of the proof of the law ReconFresh. CONDITIONS: those that each theorem names. -/
import Derived.Test.YtneoghpfbgjaiaaGreatDoorG12
namespace Go.Proofs.YtneoghpfbgjaiaaGreatDoor
open Go Go.Ai
set_option maxRecDepth 100000

set_option maxHeartbeats 2000000 in
theorem equal18_in (h : Heap) (F : Nat) (x1 x2 y1 y2 q1 : Int) (n1 n2 : List UInt8) (a a2 r r2 v v2 p p2 : AV) (A A2 R R2 V V2 P P2 : List (List AV)) (hA : LstP h ksV a A) (hA2 : LstP h ksV a2 A2) (hR : LstP h ksT r R) (hR2 : LstP h ksT r2 R2) (hV : LstP h ksT v V) (hV2 : LstP h ksT v2 V2) (hP : LstP h ksI p P) (hP2 : LstP h ksI p2 P2) (hLM : P.length = P2.length) (e1 : dec (reqP x1 y1 n1 A x2 y2 n2 A2) = true) (e3 : dec (R = R2 ∧ V = V2) = true) : Snd Tryz.prog [] 18 [.agg [.int .i64 x1, .int .u64 y1, .str n1, a, .int .i64 q1, r, v, p], .agg [.int .i64 x2, .int .u64 y2, .str n2, a2, .int .i64 q1, r2, v2, p2]] ⟨h, F⟩ [.val (.bool (dec (P = P2))) ⟨h, F⟩] := by
  have mxl : maxLen = 9223372036854775807 := by decide
  refine snd_val (by simp [Kin]) fun hw => ?_
  have hs := hP.len
  have hne : ((P.length : Int) != (P2.length : Int)) = false := by simp [hLM]
  refine sndQ_body (K := K6) k6_ok mixed noNum (m := P.length + 1) Tryz.func18 ?_
  generalize hQ : retQ _ _ _ _ _ _ = Q0
  refine body_go (c := Tryz.f18.body.getD .skip) (n := 60) rfl rfl (by simp only [↓reduceIte, T.setList, T.set_e, T.set_n, Nat.reduceDiv, Nat.reduceMod, Nat.reduceEqDiff, Nat.zero_add] <;> rfl) ?_
  simp only [Tryz.f18, Option.getD_some]
  repeat' (first
  | with_reducible refine r_seq ?_
  | with_reducible refine r_next ?_
  | with_reducible refine r_block ?_
  | with_reducible refine r_seq_exit ?_
  | with_reducible refine r_seq_ret ?_
  | with_reducible refine r_blk_n ?_
  | with_reducible refine r_blk_ret ?_
  | with_reducible refine r_blk_hit ?_
  | with_reducible refine r_blk_miss rfl ?_
  | with_reducible refine r_skip ?_
  | with_reducible refine r_exit ?_
  | with_reducible refine r_ret ?_
  | with_reducible refine r_rq_exit ?_
  | with_reducible refine r_rq_ret ?_
  | ((with_reducible apply r_regA); (focus (simp only [List.append_eq, List.cons_append, List.nil_append] <;> rfl)); (focus (first | exact Nat.le_of_ble_eq_true rfl | (simp only [List.length_cons, List.length_nil]; omega))))
  | ((with_reducible refine r_reg (List.toList_toArray) ?_ ?_); focus (first | exact Nat.le_of_ble_eq_true rfl | (simp only [List.length_cons, List.length_nil]; omega)))
  | ((with_reducible apply r_end); focus (simp only [Nat.reduceAdd, Nat.zero_add] <;> rfl))
  | ((with_reducible (first | apply r_any | apply r_cond)); focus (simp only [↓reduceIte, wantedA_eq, gBool_f, Bool.not_true, Bool.not_false, clsOf, clsCall, newBlk, allocOp, Fr.ev, evs, ofV, ofA, ofS, nVar, AV.cells, rowOf_mk, put_mk, upd_mk, keyOf_mk, ky_inj, pureOp, readOp, pFA, pFA1, pFA2, rLd, rdAB_row, oneCell_one, someAgg_s, hget_same, hget_hset_ite, pBin, binA, intOp_neq, pPick, List.length_cons, List.length_nil, List.getElem?_cons_zero, List.getElem?_cons_succ, List.drop_zero, List.drop_succ_cons, List.take_succ_cons, List.take_zero, Nat.zero_add, Nat.add_zero, Nat.reduceAdd, Nat.reduceLT, Nat.reduceLeDiff, Nat.reduceEqDiff, Nat.reduceSub, Nat.add_eq, loadA_w, loadW_a, loadW_s, pUn_not, callTo_s, heavyCall, target, List.nil_append, List.append_nil, binA, bne_self_eq_false, stepOp, stHeavy, stV_mk, stB_mk, stO_mk, T.get_n, T.set_n, T.set_e, Nat.reduceDiv, Nat.reduceMod, sz3, ag3, sz26, ag26, sz27, ag27, sz39, ag39, sz41, Tryz.underlying41, Tryz.underlying43, stepAny, wantedA_none, rCall, rLen, K6f, k6_fn, rLen1_L Tryz.underlying27 hP, rLen1_L Tryz.underlying27 hP2, intOp_neq, hne, e1, e3, lstOf_same hA, lstOf_same hA2, lstOf_same hR, lstOf_same hR2, lstOf_same hV, lstOf_same hV2, sameT, sameS hw] <;> rfl))
  | (with_reducible rw [ifQ_t])
  | (with_reducible rw [ifQ_f])
  | (with_reducible refine ifQ_intro ?_ ?_ <;> intro hb))
  · refine r_loop (I := fun nn fr s1 => ∃ lc tt h1 i, fr = ⟨F, lc, 60, tt, [], .no⟩ ∧ s1 = ⟨h1, F + 1⟩ ∧ i ≤ P.length ∧ nn = P.length - i ∧ 2 ≤ lc ∧ lc + nn * 1000 ≤ 100000000000000000000000000 ∧ SameH h h1 ∧ tt.get 2 = some (.ptr (ky F 0) 0) ∧ tt.get 3 = some (.ptr (ky F 1) 0) ∧ tt.get 5 = some (.int .i64 i) ∧ hget h1 (ky F 0) = some (mkRow [.int .i64 x1, .int .u64 y1, .str n1, a, .int .i64 q1, r, v, p] 0) ∧ hget h1 (ky F 1) = some (mkRow [.int .i64 x2, .int .u64 y2, .str n2, a2, .int .i64 q1, r2, v2, p2] 0) ∧ (∀ j (hj : j < i) (h1 : j < P.length) (h2 : j < P2.length), P[j] = P2[j])) (n := P.length) ?_ ?_ ?_
    · omega
    · exact ⟨_, _, _, 0, rfl, rfl, Nat.zero_le _, (Nat.sub_zero _).symm, by first | omega | exact Nat.le_of_ble_eq_true rfl, by omega, (by repeat (first | exact SameH.refl _ | refine SameH.hset hw ?_ (ky_le _ _))), (by first | rfl | (simp only [Nat.reduceLT, Tget_set, T.get_n, T.get_e, Nat.reduceEqDiff, Nat.reduceDiv, Nat.reduceMod, Nat.reduceSub, ↓reduceIte, if_true, if_false, hget_same, hget_hset_ite, ky_inj, Nat.reduceAdd, Nat.zero_add, rLen1_L Tryz.underlying27 hP, rLen1_L Tryz.underlying27 hP2, intOp_neq, strOp, hne, e1, e3, lstOf_same hA, lstOf_same hA2, lstOf_same hR, lstOf_same hR2, lstOf_same hV, lstOf_same hV2, lstOf_same hP, lstOf_same hP2, sameT, sameS hw] <;> rfl)), (by first | rfl | (simp only [Nat.reduceLT, Tget_set, T.get_n, T.get_e, Nat.reduceEqDiff, Nat.reduceDiv, Nat.reduceMod, Nat.reduceSub, ↓reduceIte, if_true, if_false, hget_same, hget_hset_ite, ky_inj, Nat.reduceAdd, Nat.zero_add, rLen1_L Tryz.underlying27 hP, rLen1_L Tryz.underlying27 hP2, intOp_neq, strOp, hne, e1, e3, lstOf_same hA, lstOf_same hA2, lstOf_same hR, lstOf_same hR2, lstOf_same hV, lstOf_same hV2, lstOf_same hP, lstOf_same hP2, sameT, sameS hw] <;> rfl)), (by first | rfl | (simp only [Nat.reduceLT, Tget_set, T.get_n, T.get_e, Nat.reduceEqDiff, Nat.reduceDiv, Nat.reduceMod, Nat.reduceSub, ↓reduceIte, if_true, if_false, hget_same, hget_hset_ite, ky_inj, Nat.reduceAdd, Nat.zero_add, rLen1_L Tryz.underlying27 hP, rLen1_L Tryz.underlying27 hP2, intOp_neq, strOp, hne, e1, e3, lstOf_same hA, lstOf_same hA2, lstOf_same hR, lstOf_same hR2, lstOf_same hV, lstOf_same hV2, lstOf_same hP, lstOf_same hP2, sameT, sameS hw] <;> rfl)), (by first | rfl | (simp only [Nat.reduceEqDiff, ↓reduceIte, hget_same, hget_hset_ite, ky_inj] <;> rfl)), (by first | rfl | (simp only [hget_same] <;> rfl)), fun j hj => absurd hj (Nat.not_lt_zero _)⟩
    rintro nn fr s1 ⟨lc, tt, h1, i, rfl, rfl, hi, rfl, hl0, hlc, hS, ht2, ht3, ht5, hc0, hc1, hI⟩
    by_cases hil : i < P.length
    · have hil2 : i < P2.length := by omega
      obtain ⟨b, o, eo, cap, s0, k0, n0, t0, rfl, hb0, hLi, _, _, r0, _, _⟩ := item_at hw hP hS hil
      obtain ⟨b2, o2, eo2, cap2, s1, k1, n3, t1, rfl, hb1, hMi, _, _, r2, _, _⟩ := item_at hw hP2 hS hil2
      repeat' (first
      | with_reducible refine r_seq ?_
      | with_reducible refine r_next ?_
      | with_reducible refine r_block ?_
      | with_reducible refine r_seq_exit ?_
      | with_reducible refine r_seq_ret ?_
      | with_reducible refine r_blk_n ?_
      | with_reducible refine r_blk_ret ?_
      | with_reducible refine r_blk_hit ?_
      | with_reducible refine r_blk_miss rfl ?_
      | with_reducible refine r_skip ?_
      | with_reducible refine r_exit ?_
      | with_reducible refine r_ret ?_
      | with_reducible refine r_rq_exit ?_
      | with_reducible refine r_rq_ret ?_
      | ((with_reducible apply r_regA); (focus (simp only [List.append_eq, List.cons_append, List.nil_append] <;> rfl)); (focus (first | exact Nat.le_of_ble_eq_true rfl | (simp only [List.length_cons, List.length_nil]; omega))))
      | ((with_reducible refine r_reg (List.toList_toArray) ?_ ?_); focus (first | exact Nat.le_of_ble_eq_true rfl | (simp only [List.length_cons, List.length_nil]; omega)))
      | ((with_reducible apply r_end); focus (simp only [Nat.add_assoc, Nat.reduceAdd, Nat.zero_add] <;> rfl))
      | ((with_reducible (first | apply r_any | apply r_cond)); focus (simp only [↓reduceIte, clsOf, clsCall, Fr.ev, ofV, ofA, ofS, put_mk, pureOp, readOp, pFA, pFA1, pFA2, rLd, rdAB_row, oneCell_one, pBin, binA, intOp_lss, List.length_cons, List.length_nil, List.getElem?_cons_zero, List.getElem?_cons_succ, List.drop_zero, List.drop_succ_cons, List.take_succ_cons, List.take_zero, Nat.zero_add, Nat.reduceAdd, Nat.reduceLT, Nat.reduceLeDiff, Nat.reduceEqDiff, Nat.add_eq, loadA_w, loadW_s, binA, stepOp, stV_mk, sz27, ag27, Tryz.underlying27, Tryz.underlying43, stepAny, wantedA_none, rCall, rLen, rLen1_sl, lenA, Tget_set, ht2, ht5, hc0, lt_t hil, intOp_add (inR_succ hil hs)] <;> rfl))
      | (with_reducible rw [ifQ_t])
      | (with_reducible rw [ifQ_f])
      | ((with_reducible apply (r_drawW (js := [0, 1, 2, 3, 4, 5, 6, 7, 8, 9, 10]))); (focus kernel_rfl); (focus kernel_rfl); (focus (first | exact Nat.le_of_ble_eq_true rfl | (simp only [List.length_cons, List.length_nil]; omega))))
      | ((with_reducible apply d_end); (focus (simp only [List.length_cons, List.length_nil, Nat.add_assoc, Nat.reduceAdd, Nat.zero_add] <;> rfl)))
      | ((with_reducible apply d_any); (focus rfl); (iterate 2 (focus (simp only [↓reduceIte, Bool.not_false, clsOf, Fr.ev, put_mk, pureOp, readOp, pFA, pFA1, pFA2, rLd, rdAB_row, oneCell_one, someAgg_s, pBin, binA, List.length_cons, List.length_nil, List.getElem?_cons_zero, List.getElem?_cons_succ, List.drop_zero, List.drop_succ_cons, List.take_succ_cons, List.take_zero, Nat.zero_add, Nat.reduceAdd, Nat.reduceLT, Nat.reduceLeDiff, Nat.reduceEqDiff, Nat.add_eq, loadA_w, loadW_a, loadW_s, binA, eqGuardOk, Bool.and_true, stepOp, stV_mk, sz27, ag27, Tryz.underlying43, sz117, ag117, stepAny, wantedA_none, readSelf, av_str, av_int, av_agg, avs_nil, avs_cons, pIA_s Tryz.underlying27 sz117 hil, pIA_s Tryz.underlying27 sz117 hil2, r0, r2, eqI100, eg117, Tget_set, ht2, ht3, ht5, hc0, hc1, av_self_L hP, av_self_L hP2] <;> rfl))); (focus (first | exact SameH.refl _ | (simp only [sameT, sameS hw]; done))))
      | (with_reducible refine ifQ_intro ?_ ?_ <;> intro hb))
      · have hx : [AV.str s0, .int .i64 k0, .int .i64 n0, .str t0] ≠ [.str s1, .int .i64 k1, .int .i64 n3, .str t1] := fun hx => by rw [dec_t hx] at hb; cases hb
        subst hQ
        refine ret_back (by simp only [Tryz.results18, resultOf, resultsA, resultA, List.toList_toArray, Fr.ev, Tget_set, ↓reduceIte] <;> rfl) ⟨_, out_f ?_, ?_⟩
        · exact ne_idx hil hil2 (by rw [hLi, hMi]; exact hx)
        repeat (first | exact Same.base _ _ _ | exact hS | refine Same.hset hw ?_ (ky_le _ _))
      · have hx : [AV.str s0, .int .i64 k0, .int .i64 n0, .str t0] = [.str s1, .int .i64 k1, .int .i64 n3, .str t1] := dec_iff.1 (by simpa using hb)
        have hp : P[i] = P2[i] := by rw [hLi, hMi]; exact hx
        refine r_rq_n (k := P.length - (i + 1)) (by omega) ⟨_, _, _, i + 1, rfl, rfl, by omega, rfl, by omega, by omega, hS, (by simp only [Tget_set, Nat.reduceEqDiff, ↓reduceIte, Tget_set, ht2] <;> rfl), (by simp only [Tget_set, Nat.reduceEqDiff, ↓reduceIte, Tget_set, ht3] <;> rfl), (by simp only [Tget_set, ↓reduceIte, Tget_set] <;> rfl), (by simp only [hc0] <;> rfl), (by simp only [hc1] <;> rfl), fun j hj h1 h2 => by rcases Nat.lt_or_ge j i with hji | hji; exact hI j hji h1 h2; obtain rfl : j = i := (by omega); exact hp⟩
    · have hend : i = P.length := by omega
      repeat' (first
      | with_reducible refine r_seq ?_
      | with_reducible refine r_next ?_
      | with_reducible refine r_block ?_
      | with_reducible refine r_seq_exit ?_
      | with_reducible refine r_seq_ret ?_
      | with_reducible refine r_blk_n ?_
      | with_reducible refine r_blk_ret ?_
      | with_reducible refine r_blk_hit ?_
      | with_reducible refine r_blk_miss rfl ?_
      | with_reducible refine r_skip ?_
      | with_reducible refine r_exit ?_
      | with_reducible refine r_ret ?_
      | with_reducible refine r_rq_exit ?_
      | with_reducible refine r_rq_ret ?_
      | ((with_reducible apply r_regA); (focus (simp only [List.append_eq, List.cons_append, List.nil_append] <;> rfl)); (focus (first | exact Nat.le_of_ble_eq_true rfl | (simp only [List.length_cons, List.length_nil]; omega))))
      | ((with_reducible refine r_reg (List.toList_toArray) ?_ ?_); focus (first | exact Nat.le_of_ble_eq_true rfl | (simp only [List.length_cons, List.length_nil]; omega)))
      | ((with_reducible apply r_end); focus (simp only [Nat.add_assoc, Nat.reduceAdd, Nat.zero_add] <;> rfl))
      | ((with_reducible (first | apply r_any | apply r_cond)); focus (simp only [↓reduceIte, clsOf, clsCall, Fr.ev, ofV, ofA, ofS, put_mk, pureOp, readOp, pFA, pFA1, pFA2, rLd, rdAB_row, oneCell_one, pBin, binA, intOp_lss, List.length_cons, List.length_nil, List.getElem?_cons_zero, List.getElem?_cons_succ, List.drop_zero, List.drop_succ_cons, List.take_succ_cons, List.take_zero, Nat.zero_add, Nat.reduceAdd, Nat.reduceLT, Nat.reduceLeDiff, Nat.reduceEqDiff, Nat.add_eq, loadA_w, loadW_s, binA, stepOp, stV_mk, sz27, ag27, Tryz.underlying43, stepAny, wantedA_none, rCall, rLen, Tget_set, ht2, ht5, hc0, lt_f hil, rLen1_L Tryz.underlying27 hP] <;> rfl))
      | (with_reducible rw [ifQ_t])
      | (with_reducible rw [ifQ_f])
      | (with_reducible refine ifQ_intro ?_ ?_ <;> intro hb))
      · subst hQ
        refine ret_back (by simp only [Tryz.results18, resultOf, resultsA, resultA, List.toList_toArray, Fr.ev, Tget_set, ↓reduceIte] <;> rfl) ⟨_, out_t ?_, ?_⟩
        · exact eq_idx hLM fun j h1 h2 => hI j (by omega) h1 h2
        repeat (first | exact Same.base _ _ _ | exact hS | refine Same.hset hw ?_ (ky_le _ _))

set_option maxHeartbeats 2000000 in
theorem equal18 (h : Heap) (F : Nat) (x1 x2 y1 y2 q1 q2 : Int) (n1 n2 : List UInt8) (a a2 r r2 v v2 p p2 : AV) (A A2 R R2 V V2 P P2 : List (List AV)) (hA : LstP h ksV a A) (hA2 : LstP h ksV a2 A2) (hR : LstP h ksT r R) (hR2 : LstP h ksT r2 R2) (hV : LstP h ksT v V) (hV2 : LstP h ksT v2 V2) (hP : LstP h ksI p P) (hP2 : LstP h ksI p2 P2) : Snd Tryz.prog [] 18 [.agg [.int .i64 x1, .int .u64 y1, .str n1, a, .int .i64 q1, r, v, p], .agg [.int .i64 x2, .int .u64 y2, .str n2, a2, .int .i64 q2, r2, v2, p2]] ⟨h, F⟩ [.val (.bool (dec (passP x1 y1 q1 n1 A R V P x2 y2 q2 n2 A2 R2 V2 P2))) ⟨h, F⟩] := by
  by_cases hall : reqP x1 y1 n1 A x2 y2 n2 A2 ∧ q1 = q2 ∧ (R = R2 ∧ V = V2) ∧ P.length = P2.length
  · obtain ⟨h1, rfl, h3, hLM⟩ := hall
    rw [dec_congr (p := passP x1 y1 q1 n1 A R V P x2 y2 q1 n2 A2 R2 V2 P2) (q := P = P2) (by simp [passP, h1, h3])]
    exact equal18_in h F x1 x2 y1 y2 q1 n1 n2 a a2 r r2 v v2 p p2 A A2 R R2 V V2 P P2 hA hA2 hR hR2 hV hV2 hP hP2 hLM (dec_t h1) (dec_t h3)
  rw [dec_f (p := passP x1 y1 q1 n1 A R V P x2 y2 q2 n2 A2 R2 V2 P2) (fun hr => hall ⟨hr.1, hr.2.1, ⟨hr.2.2.1, hr.2.2.2.1⟩, by rw [hr.2.2.2.2]⟩)]
  refine snd_val (by simp [Kin]) fun hw => ?_
  obtain ⟨b1, e1⟩ : ∃ b, dec (reqP x1 y1 n1 A x2 y2 n2 A2) = b := ⟨_, rfl⟩
  obtain ⟨b2, e2⟩ : ∃ b, (q1 != q2) = b := ⟨_, rfl⟩
  obtain ⟨b3, e3⟩ : ∃ b, dec (R = R2 ∧ V = V2) = b := ⟨_, rfl⟩
  obtain ⟨b4, e4⟩ : ∃ b, ((P.length : Int) != (P2.length : Int)) = b := ⟨_, rfl⟩
  rcases b1 with _ | _
  rotate_left
  rcases b2 with _ | _
  rcases b3 with _ | _
  rotate_left
  rcases b4 with _ | _
  · simp at e2 e4
    exact absurd ⟨dec_iff.1 e1, e2, dec_iff.1 e3, by omega⟩ hall
  all_goals
    refine sndQ_body (K := K6) k6_ok mixed noNum (m := 0) Tryz.func18 ?_
    generalize hQ : retQ _ _ _ _ _ _ = Q0
    refine body_go (c := Tryz.f18.body.getD .skip) (n := 60) rfl rfl (by simp only [↓reduceIte, T.setList, T.set_e, T.set_n, Nat.reduceDiv, Nat.reduceMod, Nat.reduceEqDiff, Nat.zero_add] <;> rfl) ?_
    simp only [Tryz.f18, Option.getD_some]
    repeat' (first
    | with_reducible refine r_seq ?_
    | with_reducible refine r_next ?_
    | with_reducible refine r_block ?_
    | with_reducible refine r_seq_exit ?_
    | with_reducible refine r_seq_ret ?_
    | with_reducible refine r_blk_n ?_
    | with_reducible refine r_blk_ret ?_
    | with_reducible refine r_blk_hit ?_
    | with_reducible refine r_blk_miss rfl ?_
    | with_reducible refine r_skip ?_
    | with_reducible refine r_exit ?_
    | with_reducible refine r_ret ?_
    | with_reducible refine r_rq_exit ?_
    | with_reducible refine r_rq_ret ?_
    | ((with_reducible apply r_regA); (focus (simp only [List.append_eq, List.cons_append, List.nil_append] <;> rfl)); (focus (first | exact Nat.le_of_ble_eq_true rfl | (simp only [List.length_cons, List.length_nil]; omega))))
    | ((with_reducible refine r_reg (List.toList_toArray) ?_ ?_); focus (first | exact Nat.le_of_ble_eq_true rfl | (simp only [List.length_cons, List.length_nil]; omega)))
    | ((with_reducible apply r_end); focus (simp only [Nat.reduceAdd, Nat.zero_add] <;> rfl))
    | ((with_reducible (first | apply r_any | apply r_cond)); focus (simp only [↓reduceIte, wantedA_eq, gBool_f, Bool.not_true, Bool.not_false, clsOf, clsCall, newBlk, allocOp, Fr.ev, evs, ofV, ofA, ofS, nVar, AV.cells, rowOf_mk, put_mk, upd_mk, keyOf_mk, ky_inj, pureOp, readOp, pFA, pFA1, pFA2, rLd, rdAB_row, oneCell_one, someAgg_s, hget_same, hget_hset_ite, pBin, binA, intOp_neq, pPick, List.length_cons, List.length_nil, List.getElem?_cons_zero, List.getElem?_cons_succ, List.drop_zero, List.drop_succ_cons, List.take_succ_cons, List.take_zero, Nat.zero_add, Nat.add_zero, Nat.reduceAdd, Nat.reduceLT, Nat.reduceLeDiff, Nat.reduceEqDiff, Nat.reduceSub, Nat.add_eq, loadA_w, loadW_a, loadW_s, pUn_not, callTo_s, heavyCall, target, List.nil_append, List.append_nil, binA, stepOp, stHeavy, stV_mk, stB_mk, stO_mk, T.get_n, T.set_n, T.set_e, Nat.reduceDiv, Nat.reduceMod, sz3, ag3, sz26, ag26, sz27, ag27, sz39, ag39, sz41, Tryz.underlying41, Tryz.underlying43, stepAny, wantedA_none, rCall, rLen, K6f, k6_fn, lstOf_same hA, lstOf_same hA2, lstOf_same hR, lstOf_same hR2, lstOf_same hV, lstOf_same hV2, sameT, sameS hw, e1, e2, e3, e4, rLen1_L Tryz.underlying27 hP, rLen1_L Tryz.underlying27 hP2, intOp_neq] <;> rfl))
    | (with_reducible rw [ifQ_t])
    | (with_reducible rw [ifQ_f])
    | (with_reducible refine ifQ_intro ?_ ?_ <;> intro hb))
    subst hQ
    refine ret_back (by simp only [Tryz.results18, resultOf, resultsA, resultA, List.toList_toArray, Fr.ev, T.get_n, Nat.reduceDiv, Nat.reduceMod, Nat.reduceSub, Nat.reduceEqDiff, ↓reduceIte] <;> rfl) ⟨_, rfl, ?_⟩
    repeat (first | exact Same.base _ _ _ | exact Same.refl _ | refine Same.hset hw ?_ (ky_le _ _))


end Go.Proofs.YtneoghpfbgjaiaaGreatDoor

