/- A part of the proof of the law ShardParts. CONDITIONS: those that each theorem names. -/
import Derived.Test.YtdcindnnbmilaaaGreatDoorP9
namespace Go.Proofs.YtdcindnnbmilaaaGreatDoor
open Go Go.Ai
set_option maxRecDepth 100000

theorem ref7z (h : Heap) (F : Nat) (ra rb : AV) (A B : List (List AV)) (hA : LstP h ksT ra A) (hB : LstP h ksT rb B) (n : Int) (hn : okN n) (hn3 : n ≤ 1000) (hm : A.length + B.length ≤ 1000) : Snd Tryz.prog [] 7 [.agg [ra, rb], .int .i64 n] ⟨h, F⟩ [.val (.slice (ky F 0) 0 0 (refZ n (A ++ B)).length (refC n (A ++ B))) ⟨hset h (ky F 0) (mkRow (ints (refZ n (A ++ B))) 1), F + 1⟩] := by
  refine snd_sweep (outs := fun h => [.val (.slice (ky F 0) 0 0 (refZ n (A ++ B)).length (refC n (A ++ B))) ⟨hset h (ky F 0) (mkRow (ints (refZ n (A ++ B))) 1), F + 1⟩]) (fun h1 h2 al v s hm => ?_) (fun h1 v s hm => by cases List.mem_singleton.1 hm) fun hcl hs => ?_
  · cases List.mem_singleton.1 hm
    exact ⟨_, List.mem_singleton.2 rfl, rfl, al.hset _ _⟩
  · unfold refZ refC
    by_cases hp : 0 < (belowP n (A ++ B)).length
    · rw [if_pos hp, if_pos hp]
      exact ref7a _ F ra rb A B (hA.same hs) (hB.same hs) n hn hn3 hm hp fun c => hcl _ (ky_le F c)
    · rw [if_neg hp, if_neg hp]
      exact ref7b _ F ra rb A B (hA.same hs) (hB.same hs) n hn hn3 hm hp fun c => hcl _ (ky_le F c)

theorem ref7c (h : Heap) (F : Nat) (ra rb : AV) (n : Int) (hn : decide (n < 1) = true) : Snd Tryz.prog [] 7 [.agg [ra, rb], .int .i64 n] ⟨h, F⟩ [.val .nils ⟨h, F⟩] := by
  refine snd_val (by simp [Kin]) fun hw => ?_
  refine sndQ_body (K := K0) kok0 mixed noNum (m := 0) Tryz.func7 ?_
  generalize hQ : retQ _ _ _ _ _ _ = Q0
  refine body_go (c := Tryz.f7.body.getD .skip) (n := 22) rfl rfl (by simp only [↓reduceIte, T.setList, T.set_e, T.set_n, Nat.reduceDiv, Nat.reduceMod, Nat.reduceEqDiff, Nat.zero_add] <;> rfl) ?_
  simp only [Tryz.f7, Option.getD_some]
  repeat' (first
  | with_reducible refine r_seq ?_
  | with_reducible refine r_next ?_
  | with_reducible refine r_block ?_
  | with_reducible refine r_seq_exit ?_
  | with_reducible refine r_seq_ret ?_
  | with_reducible refine r_blk_n ?_
  | with_reducible refine r_blk_ret ?_
  | with_reducible refine r_blk_hit ?_
  | with_reducible refine r_blk_miss rfl ?_
  | with_reducible refine r_skip ?_
  | with_reducible refine r_exit ?_
  | with_reducible refine r_ret ?_
  | with_reducible refine r_rq_exit ?_
  | with_reducible refine r_rq_ret ?_
  | ((with_reducible apply r_regA); (focus (simp only [List.append_eq, List.cons_append, List.nil_append] <;> rfl)); (focus (first | exact Nat.le_of_ble_eq_true rfl | (simp only [List.length_cons, List.length_nil]; omega))))
  | ((with_reducible refine r_reg (List.toList_toArray) ?_ ?_); focus (first | exact Nat.le_of_ble_eq_true rfl | (simp only [List.length_cons, List.length_nil]; omega)))
  | ((with_reducible apply r_end); focus (simp only [Nat.reduceAdd, Nat.zero_add] <;> rfl))
  | ((with_reducible (first | apply r_any | apply r_cond)); focus (simp only [↓reduceIte, clsOf, newBlk, allocOp, Fr.ev, ofV, ofA, ofS, nVar, AV.cells, rowOf_mk, put_mk, upd_mk, keyOf_mk, pureOp, pBin, binA, intOp_lss, Nat.add_zero, Nat.reduceLT, Nat.reduceEqDiff, Nat.reduceSub, binA, stepOp, stV_mk, stB_mk, T.get_n, T.set_n, T.set_e, Nat.reduceDiv, Nat.reduceMod, stepAny, wantedA_none, hn] <;> rfl))
  | (with_reducible rw [ifQ_t])
  | (with_reducible rw [ifQ_f])
  | (with_reducible refine ifQ_intro ?_ ?_ <;> intro hb))
  subst hQ
  refine ret_back (by simp only [Tryz.results7, resultOf, resultsA, resultA, List.toList_toArray, Fr.ev, T.get_n, Nat.reduceDiv, Nat.reduceMod, Nat.reduceSub, Nat.reduceEqDiff, ↓reduceIte] <;> rfl) ⟨_, rfl, ?_⟩
  repeat (first | exact Same.base _ _ _ | exact Same.refl _ | refine Same.hset hw ?_ (ky_le _ _))

noncomputable def KQf : FuncId → List AV → St → Outs := fun f args z => match f, args with
  | 7, [.agg [ra, rb], .int .i64 n] => match lstOf z.h ksT ra, lstOf z.h ksT rb with
    | some A, some B => open Classical in if n ≤ 1000 ∧ A.length + B.length ≤ 1000 then (if okN n then some [.val (.slice (nk z.fc) 0 0 (refZ n (A ++ B)).length (refC n (A ++ B))) ⟨hset z.h (nk z.fc) (mkRow (ints (refZ n (A ++ B))) 1), z.fc + 1⟩] else some [.val .nils z]) else none
    | _, _ => none
  | f, args => KRf f args z
noncomputable def KQ : CallF := ⟨KQf, fun _ _ _ => none⟩
theorem kq_fn (f : FuncId) (args : List AV) (s : St) : CallF.fn KQ f args s = KQf f args s := rfl
theorem kq_ok : KOK Tryz.prog [] KQ := KOK.table fun f args s outs h => by
  obtain ⟨h0, F⟩ := s
  unfold KQf at h
  split at h
  · split at h
    · rename_i hA hB
      have hA := lstOf_p hA
      have hB := lstOf_p hB
      split at h
      · rename_i hc
        split at h
        · rename_i hn
          cases h
          rw [nk_eq]
          exact ref7z _ _ _ _ _ _ hA hB _ hn hc.1 hc.2
        · rename_i hn
          cases h
          exact ref7c _ _ _ _ _ (n_lt hn (by omega))
      · cases h
    · cases h
  · exact kr_ok.fn _ _ _ _ h
theorem refZ_pos (n : Int) (L : List (List AV)) : 1 ≤ (refZ n L).length := by
  unfold refZ
  split
  · rename_i hp; exact hp
  · exact Nat.le_refl _
theorem refC_ok (n : Int) (L : List (List AV)) : ∀ c, refC n L = some c → 1 ≤ c := by
  unfold refC
  intro c hc
  split at hc
  · cases hc
  · cases hc; exact Nat.le_refl _
noncomputable def racM (n : Int) (A B : List (List AV)) : Nat := open Classical in if 0 < (belowP n B).length then (belowP n B).length else 1
noncomputable def racC (n : Int) (A B : List (List AV)) : Option Nat := open Classical in if 0 < (belowP n B).length then none else refC n (A ++ B)
noncomputable def racR (n : Int) (A B : List (List AV)) : List Int := open Classical in if 0 < (belowP n B).length then belowP n B else refZ n (A ++ B)

set_option maxHeartbeats 1000000 in
theorem rac9a (h : Heap) (F : Nat) (ra rb : AV) (A B : List (List AV)) (hA : LstP h ksT ra A) (hB : LstP h ksT rb B) (n : Int) (hn : okN n) (hn3 : n ≤ 1000) (hm : A.length + B.length ≤ 1000) (hp : 0 < (belowP n B).length) : Snd Tryz.prog [] 9 [.agg [ra, rb], .int .i64 n] ⟨h, F⟩ [.val (.slice (ky F 0) 0 0 (belowP n B).length none) ⟨hset h (ky F 0) (mkRow (ints (belowP n B)) 1), F + 1⟩] := by
  refine snd_block (ints_flat _) fun hw => ?_
  have hlt := okN_lt hn
  have hN0 := hp
  have hmB : B.length ≤ 1000 := by omega
  have hm2 : (((belowP n B).length : Int) == 0) = false := by have : ¬ ((belowP n B).length : Int) = 0 := (by omega); simpa using this
  refine sndQ_body (K := KQ) kq_ok mixed noNum (m := 0) Tryz.func9 ?_
  generalize hQ : retQ _ _ _ _ _ _ = Q0
  refine body_go (c := Tryz.f9.body.getD .skip) (n := 20) rfl rfl (by simp only [↓reduceIte, T.setList, T.set_e, T.set_n, Nat.reduceDiv, Nat.reduceMod, Nat.reduceEqDiff, Nat.zero_add] <;> rfl) ?_
  simp only [Tryz.f9, Option.getD_some]
  repeat' (first
  | with_reducible refine r_seq ?_
  | with_reducible refine r_next ?_
  | with_reducible refine r_block ?_
  | with_reducible refine r_seq_exit ?_
  | with_reducible refine r_seq_ret ?_
  | with_reducible refine r_blk_n ?_
  | with_reducible refine r_blk_ret ?_
  | with_reducible refine r_blk_hit ?_
  | with_reducible refine r_blk_miss rfl ?_
  | with_reducible refine r_skip ?_
  | with_reducible refine r_exit ?_
  | with_reducible refine r_ret ?_
  | with_reducible refine r_rq_exit ?_
  | with_reducible refine r_rq_ret ?_
  | ((with_reducible apply r_regA); (focus (simp only [List.append_eq, List.cons_append, List.nil_append] <;> rfl)); (focus (first | exact Nat.le_of_ble_eq_true rfl | (simp only [List.length_cons, List.length_nil]; omega))))
  | ((with_reducible refine r_reg (List.toList_toArray) ?_ ?_); focus (first | exact Nat.le_of_ble_eq_true rfl | (simp only [List.length_cons, List.length_nil]; omega)))
  | ((with_reducible apply r_end); focus (simp only [Nat.reduceAdd, Nat.zero_add] <;> rfl))
  | ((with_reducible (first | apply r_any | apply r_cond)); focus (simp only [↓reduceIte, clsOf, clsCall, newBlk, allocOp, Fr.ev, evs, ofV, ofA, ofS, nVar, AV.cells, rowOf_mk, put_mk, upd_mk, keyOf_mk, pureOp, readOp, pFA, pFA1, pFA2, rLd, rdAB_row, oneCell_one, hget_same, pBin, binA, intOp_eql, intOp_lss, List.length_cons, List.length_nil, List.getElem?_cons_zero, List.getElem?_cons_succ, List.drop_zero, List.drop_succ_cons, List.take_succ_cons, List.take_zero, Nat.zero_add, Nat.add_zero, Nat.reduceAdd, Nat.reduceLT, Nat.reduceLeDiff, Nat.reduceEqDiff, Nat.reduceSub, and_self, Nat.add_eq, loadA_w, loadW_s, callTo_s, heavyCall, target, List.nil_append, List.append_nil, binA, stepOp, stHeavy, stV_mk, stB_mk, stO_mk, T.get_n, T.set_n, T.set_e, Nat.reduceDiv, Nat.reduceMod, sz22, ag22, Tryz.underlying24, Tryz.underlying27, stepAny, wantedA_none, rCall, rLen, rLen1_sl, lenA, lstOf_same hB, sameT, sameS hw, hn, hn3, hlt, hmB, hN0, hm2, KQf, kq_fn, KRf] <;> rfl))
  | (with_reducible rw [ifQ_t])
  | (with_reducible rw [ifQ_f])
  | (with_reducible refine ifQ_intro ?_ ?_ <;> intro hb))
  subst hQ
  refine ret_back (by simp only [Tryz.results9, resultOf, resultsA, resultA, List.toList_toArray, Fr.ev, T.get_n, Nat.reduceDiv, Nat.reduceMod, Nat.reduceSub, Nat.reduceEqDiff, ↓reduceIte] <;> rfl) ⟨_, _, _, rfl, ?_, nk_low F, hget_same _ _ _⟩
  intro i ab hi hd
  have h1 := hw i ab hi hd
  simp only at h1
  have h2 := nk_low F
  have h5 := ky_le F
  rw [hget_hset, if_neg (by omega), hget_hset, if_neg (by omega)]
  exact hi

set_option maxHeartbeats 1000000 in
theorem rac9b (h : Heap) (F : Nat) (ra rb : AV) (A B : List (List AV)) (hA : LstP h ksT ra A) (hB : LstP h ksT rb B) (n : Int) (hn : okN n) (hn3 : n ≤ 1000) (hm : A.length + B.length ≤ 1000) (hp : ¬ 0 < (belowP n B).length) : Snd Tryz.prog [] 9 [.agg [ra, rb], .int .i64 n] ⟨h, F⟩ [.val (.slice (ky F 0) 0 0 1 (refC n (A ++ B))) ⟨hset h (ky F 0) (mkRow (ints (refZ n (A ++ B))) 1), F + 1⟩] := by
  refine snd_block (ints_flat _) fun hw => ?_
  have hlt := okN_lt hn
  have hN0 := hp
  have hmB : B.length ≤ 1000 := by omega
  have hso := fun (id : Nat) => sl_one (id := id) (refZ_pos n (A ++ B)) (refC_ok n (A ++ B))
  refine sndQ_body (K := KQ) kq_ok mixed noNum (m := 0) Tryz.func9 ?_
  generalize hQ : retQ _ _ _ _ _ _ = Q0
  refine body_go (c := Tryz.f9.body.getD .skip) (n := 20) rfl rfl (by simp only [↓reduceIte, T.setList, T.set_e, T.set_n, Nat.reduceDiv, Nat.reduceMod, Nat.reduceEqDiff, Nat.zero_add] <;> rfl) ?_
  simp only [Tryz.f9, Option.getD_some]
  repeat' (first
  | with_reducible refine r_seq ?_
  | with_reducible refine r_next ?_
  | with_reducible refine r_block ?_
  | with_reducible refine r_seq_exit ?_
  | with_reducible refine r_seq_ret ?_
  | with_reducible refine r_blk_n ?_
  | with_reducible refine r_blk_ret ?_
  | with_reducible refine r_blk_hit ?_
  | with_reducible refine r_blk_miss rfl ?_
  | with_reducible refine r_skip ?_
  | with_reducible refine r_exit ?_
  | with_reducible refine r_ret ?_
  | with_reducible refine r_rq_exit ?_
  | with_reducible refine r_rq_ret ?_
  | ((with_reducible apply r_regA); (focus (simp only [List.append_eq, List.cons_append, List.nil_append] <;> rfl)); (focus (first | exact Nat.le_of_ble_eq_true rfl | (simp only [List.length_cons, List.length_nil]; omega))))
  | ((with_reducible refine r_reg (List.toList_toArray) ?_ ?_); focus (first | exact Nat.le_of_ble_eq_true rfl | (simp only [List.length_cons, List.length_nil]; omega)))
  | ((with_reducible apply r_end); focus (simp only [Nat.reduceAdd, Nat.zero_add] <;> rfl))
  | ((with_reducible (first | apply r_any | apply r_cond)); focus (simp only [↓reduceIte, clsOf, clsCall, newBlk, allocOp, Fr.ev, evs, ofV, ofA, ofS, nVar, AV.cells, rowOf_mk, put_mk, upd_mk, keyOf_mk, pureOp, readOp, pFA, pFA1, pFA2, rLd, rdAB_row, oneCell_one, someAgg_s, hget_same, pBin, binA, intOp_eql, intOp_lss, List.length_cons, List.length_nil, List.getElem?_cons_zero, List.getElem?_cons_succ, List.drop_zero, List.drop_succ_cons, List.take_succ_cons, List.take_zero, Nat.zero_add, Nat.add_zero, Nat.reduceAdd, Nat.reduceLT, Nat.reduceLeDiff, Nat.reduceEqDiff, Nat.reduceSub, and_self, Nat.add_eq, loadA_w, loadW_a, loadW_s, callTo_s, heavyCall, target, List.nil_append, List.append_nil, binA, beq_self_eq_true, stepOp, stHeavy, stV_mk, stB_mk, stO_mk, T.get_n, T.set_n, T.set_e, Nat.reduceDiv, Nat.reduceMod, sz22, ag22, sz24, ag24, Tryz.underlying24, Tryz.underlying27, stepAny, wantedA_none, rCall, rLen, lenA, lstOf_same hA, lstOf_same hB, sameT, sameS hw, hn, hn3, hlt, hm, hmB, hN0, KQf, kq_fn, KRf, rSl, pSlice, evO, hso, rLen1_nils] <;> rfl))
  | (with_reducible rw [ifQ_t])
  | (with_reducible rw [ifQ_f])
  | (with_reducible refine ifQ_intro ?_ ?_ <;> intro hb))
  subst hQ
  refine ret_back (by simp only [Tryz.results9, resultOf, resultsA, resultA, List.toList_toArray, Fr.ev, T.get_n, Nat.reduceDiv, Nat.reduceMod, Nat.reduceSub, Nat.reduceEqDiff, ↓reduceIte] <;> rfl) ⟨_, _, _, rfl, ?_, nk_low F, hget_same _ _ _⟩
  intro i ab hi hd
  have h1 := hw i ab hi hd
  simp only at h1
  have h2 := nk_low F
  have h5 := ky_le F
  rw [hget_hset, if_neg (by omega), hget_hset, if_neg (by omega)]
  exact hi

theorem rac9c (h : Heap) (F : Nat) (ra rb : AV) (n : Int) (hn : decide (n < 1) = true) : Snd Tryz.prog [] 9 [.agg [ra, rb], .int .i64 n] ⟨h, F⟩ [.val .nils ⟨h, F⟩] := by
  refine snd_val (by simp [Kin]) fun hw => ?_
  refine sndQ_body (K := K0) kok0 mixed noNum (m := 0) Tryz.func9 ?_
  generalize hQ : retQ _ _ _ _ _ _ = Q0
  refine body_go (c := Tryz.f9.body.getD .skip) (n := 20) rfl rfl (by simp only [↓reduceIte, T.setList, T.set_e, T.set_n, Nat.reduceDiv, Nat.reduceMod, Nat.reduceEqDiff, Nat.zero_add] <;> rfl) ?_
  simp only [Tryz.f9, Option.getD_some]
  repeat' (first
  | with_reducible refine r_seq ?_
  | with_reducible refine r_next ?_
  | with_reducible refine r_block ?_
  | with_reducible refine r_seq_exit ?_
  | with_reducible refine r_seq_ret ?_
  | with_reducible refine r_blk_n ?_
  | with_reducible refine r_blk_ret ?_
  | with_reducible refine r_blk_hit ?_
  | with_reducible refine r_blk_miss rfl ?_
  | with_reducible refine r_skip ?_
  | with_reducible refine r_exit ?_
  | with_reducible refine r_ret ?_
  | with_reducible refine r_rq_exit ?_
  | with_reducible refine r_rq_ret ?_
  | ((with_reducible apply r_regA); (focus (simp only [List.append_eq, List.cons_append, List.nil_append] <;> rfl)); (focus (first | exact Nat.le_of_ble_eq_true rfl | (simp only [List.length_cons, List.length_nil]; omega))))
  | ((with_reducible refine r_reg (List.toList_toArray) ?_ ?_); focus (first | exact Nat.le_of_ble_eq_true rfl | (simp only [List.length_cons, List.length_nil]; omega)))
  | ((with_reducible apply r_end); focus (simp only [Nat.reduceAdd, Nat.zero_add] <;> rfl))
  | ((with_reducible (first | apply r_any | apply r_cond)); focus (simp only [↓reduceIte, clsOf, newBlk, allocOp, Fr.ev, ofV, ofA, ofS, nVar, AV.cells, rowOf_mk, put_mk, upd_mk, keyOf_mk, pureOp, pBin, binA, intOp_lss, Nat.add_zero, Nat.reduceLT, Nat.reduceEqDiff, Nat.reduceSub, binA, stepOp, stV_mk, stB_mk, T.get_n, T.set_n, T.set_e, Nat.reduceDiv, Nat.reduceMod, stepAny, wantedA_none, hn] <;> rfl))
  | (with_reducible rw [ifQ_t])
  | (with_reducible rw [ifQ_f])
  | (with_reducible refine ifQ_intro ?_ ?_ <;> intro hb))
  subst hQ
  refine ret_back (by simp only [Tryz.results9, resultOf, resultsA, resultA, List.toList_toArray, Fr.ev, T.get_n, Nat.reduceDiv, Nat.reduceMod, Nat.reduceSub, Nat.reduceEqDiff, ↓reduceIte] <;> rfl) ⟨_, rfl, ?_⟩
  repeat (first | exact Same.base _ _ _ | exact Same.refl _ | refine Same.hset hw ?_ (ky_le _ _))

theorem rac9z (h : Heap) (F : Nat) (ra rb : AV) (A B : List (List AV)) (hA : LstP h ksT ra A) (hB : LstP h ksT rb B) (n : Int) (hn : okN n) (hn3 : n ≤ 1000) (hm : A.length + B.length ≤ 1000) : Snd Tryz.prog [] 9 [.agg [ra, rb], .int .i64 n] ⟨h, F⟩ [.val (.slice (ky F 0) 0 0 (racM n A B) (racC n A B)) ⟨hset h (ky F 0) (mkRow (ints (racR n A B)) 1), F + 1⟩] := by
  unfold racM racC racR
  by_cases hp : 0 < (belowP n B).length
  · rw [if_pos hp, if_pos hp, if_pos hp]; exact rac9a h F ra rb A B hA hB n hn hn3 hm hp
  · rw [if_neg hp, if_neg hp, if_neg hp]; exact rac9b h F ra rb A B hA hB n hn hn3 hm hp


end Go.Proofs.YtdcindnnbmilaaaGreatDoor

