/- A part of the proof of the law ShardParts. CONDITIONS: those that each theorem names. -/
import Derived.Test.YtdcindnnbmilaaaGreatDoorP7
namespace Go.Proofs.YtdcindnnbmilaaaGreatDoor
open Go Go.Ai
set_option maxRecDepth 100000

theorem lst_nils (h : Heap) : lstOf h ksT .nils = some [] := lstOf_eq ⟨by simp, by simp, .inl ⟨rfl, rfl⟩⟩
theorem rLen1_nils {P : Program} {h : Heap} {t : TypeId} : rLen1 P h t (some .nils) = lenA P t .nils := rfl
theorem n_lt {n : Int} (h : ¬ okN n) (h2 : n ≤ 1000000) : decide (n < 1) = true := decide_eq_true (by unfold okN at h; omega)
noncomputable def partsZ (n : Int) (L : List (List AV)) : List Int := open Classical in if 0 < L.length then ofZ n L else [0]
noncomputable def capZ (L : List (List AV)) : Option Nat := open Classical in if 0 < L.length then none else some 1
noncomputable def rowZ (n : Int) (L : List (List AV)) : List Int := open Classical in if 0 < L.length then padded (sorted (parts n L)) else [0]

theorem c00 : ((0 : Nat) : Int) = 0 := rfl
theorem parts6b (h : Heap) (F : Nat) (ra rb : AV) (A B : List (List AV)) (hA : LstP h ksT ra A) (hB : LstP h ksT rb B) (n : Int) (hn : okN n) (h0 : A.length + B.length = 0) : Snd Tryz.prog [] 6 [.agg [ra, rb], .int .i64 n] ⟨h, F⟩ [.val (.slice (ky F 0) 0 0 1 (some 1)) ⟨hset h (ky F 0) (mkRow (ints [0]) 1), F + 1⟩] := by
  refine snd_block (ints_flat _) fun hw => ?_
  have hlt := okN_lt hn
  have hm : A.length + B.length ≤ 1000 := by omega
  have hN0 : ¬ 0 < A.length + B.length := by omega
  have hz : (0 : Nat) ≤ 1000 := by omega
  refine sndQ_body (K := KC) kc_ok mixed noNum (m := 0) Tryz.func6 ?_
  generalize hQ : retQ _ _ _ _ _ _ = Q0
  refine body_go (c := Tryz.f6.body.getD .skip) (n := 21) rfl rfl (by simp only [↓reduceIte, T.setList, T.set_e, T.set_n, Nat.reduceDiv, Nat.reduceMod, Nat.reduceEqDiff, Nat.zero_add] <;> rfl) ?_
  simp only [Tryz.f6, Option.getD_some]
  repeat' (first
  | with_reducible refine r_seq ?_
  | with_reducible refine r_next ?_
  | with_reducible refine r_block ?_
  | with_reducible refine r_seq_exit ?_
  | with_reducible refine r_seq_ret ?_
  | with_reducible refine r_blk_n ?_
  | with_reducible refine r_blk_ret ?_
  | with_reducible refine r_blk_hit ?_
  | with_reducible refine r_blk_miss rfl ?_
  | with_reducible refine r_skip ?_
  | with_reducible refine r_exit ?_
  | with_reducible refine r_ret ?_
  | with_reducible refine r_rq_exit ?_
  | with_reducible refine r_rq_ret ?_
  | ((with_reducible apply r_regA); (focus (simp only [List.append_eq, List.cons_append, List.nil_append] <;> rfl)); (focus (first | exact Nat.le_of_ble_eq_true rfl | (simp only [List.length_cons, List.length_nil]; omega))))
  | ((with_reducible refine r_reg (List.toList_toArray) ?_ ?_); focus (first | exact Nat.le_of_ble_eq_true rfl | (simp only [List.length_cons, List.length_nil]; omega)))
  | ((with_reducible apply r_end); focus (simp only [Nat.reduceAdd, Nat.zero_add] <;> rfl))
  | ((with_reducible (first | apply r_any | apply r_cond)); focus (simp only [↓reduceIte, clsOf, clsCall, newBlk, allocOp, Fr.ev, evs, evParts, ofV, ofA, ofS, nVar, AV.cells, rowOf_mk, put_mk, upd_mk, keyOf_mk, pureOp, readOp, pFA, pFA1, pFA2, rLd, rdAB_row, oneCell_one, hget_same, pBin, binA, intOp_lss, intOp_gtr, List.length_cons, List.length_nil, List.getElem?_cons_zero, List.getElem?_cons_succ, List.drop_zero, List.drop_succ_cons, List.take_succ_cons, List.take_zero, Nat.zero_add, Nat.add_zero, Nat.reduceAdd, Nat.reduceLT, Nat.reduceLeDiff, Nat.reduceEqDiff, Nat.reduceSub, and_self, Nat.add_eq, loadA_w, loadW_s, callTo_s, heavyCall, target, List.nil_append, List.append_nil, binA, decide_false, stepOp, stHeavy, stV_mk, stB_mk, stO_mk, T.get_n, T.set_n, T.set_e, Nat.reduceDiv, Nat.reduceMod, sz22, ag22, Tryz.underlying24, Tryz.underlying27, Tryz.underlying108, stepAny, wantedA_none, rCall, rLen, lenA, KCf, kc_fn, lstOf_same hA, lstOf_same hB, sameT, sameS hw, lst_nils, hn, hlt, nBS108 (cells_L hA) (cells_L hB), nBS27, hm, hN0, rLen1_nils, Nat.lt_irrefl, List.length_nil, hz, Int.lt_irrefl] <;> rfl))
  | (with_reducible rw [ifQ_t])
  | (with_reducible rw [ifQ_f])
  | (with_reducible refine ifQ_intro ?_ ?_ <;> intro hb))
  subst hQ
  refine ret_back (by simp only [Tryz.results6, resultOf, resultsA, resultA, List.toList_toArray, Fr.ev, T.get_n, Nat.reduceDiv, Nat.reduceMod, Nat.reduceSub, Nat.reduceEqDiff, ↓reduceIte] <;> rfl) ⟨_, _, _, rfl, ?_, ky_le _ _, hget_same _ _ _⟩
  repeat (first | exact SameH.refl _ | refine SameH.hset hw ?_ (ky_le _ _))

theorem parts6c (h : Heap) (F : Nat) (ra rb : AV) (n : Int) (hn : decide (n < 1) = true) : Snd Tryz.prog [] 6 [.agg [ra, rb], .int .i64 n] ⟨h, F⟩ [.val .nils ⟨h, F⟩] := by
  refine snd_val (by simp [Kin]) fun hw => ?_
  refine sndQ_body (K := K0) kok0 mixed noNum (m := 0) Tryz.func6 ?_
  generalize hQ : retQ _ _ _ _ _ _ = Q0
  refine body_go (c := Tryz.f6.body.getD .skip) (n := 21) rfl rfl (by simp only [↓reduceIte, T.setList, T.set_e, T.set_n, Nat.reduceDiv, Nat.reduceMod, Nat.reduceEqDiff, Nat.zero_add] <;> rfl) ?_
  simp only [Tryz.f6, Option.getD_some]
  repeat' (first
  | with_reducible refine r_seq ?_
  | with_reducible refine r_next ?_
  | with_reducible refine r_block ?_
  | with_reducible refine r_seq_exit ?_
  | with_reducible refine r_seq_ret ?_
  | with_reducible refine r_blk_n ?_
  | with_reducible refine r_blk_ret ?_
  | with_reducible refine r_blk_hit ?_
  | with_reducible refine r_blk_miss rfl ?_
  | with_reducible refine r_skip ?_
  | with_reducible refine r_exit ?_
  | with_reducible refine r_ret ?_
  | with_reducible refine r_rq_exit ?_
  | with_reducible refine r_rq_ret ?_
  | ((with_reducible apply r_regA); (focus (simp only [List.append_eq, List.cons_append, List.nil_append] <;> rfl)); (focus (first | exact Nat.le_of_ble_eq_true rfl | (simp only [List.length_cons, List.length_nil]; omega))))
  | ((with_reducible refine r_reg (List.toList_toArray) ?_ ?_); focus (first | exact Nat.le_of_ble_eq_true rfl | (simp only [List.length_cons, List.length_nil]; omega)))
  | ((with_reducible apply r_end); focus (simp only [Nat.reduceAdd, Nat.zero_add] <;> rfl))
  | ((with_reducible (first | apply r_any | apply r_cond)); focus (simp only [↓reduceIte, clsOf, newBlk, allocOp, Fr.ev, ofV, ofA, ofS, nVar, AV.cells, rowOf_mk, put_mk, upd_mk, keyOf_mk, pureOp, pBin, binA, intOp_lss, Nat.add_zero, Nat.reduceLT, Nat.reduceEqDiff, Nat.reduceSub, binA, stepOp, stV_mk, stB_mk, T.get_n, T.set_n, T.set_e, Nat.reduceDiv, Nat.reduceMod, stepAny, wantedA_none, hn] <;> rfl))
  | (with_reducible rw [ifQ_t])
  | (with_reducible rw [ifQ_f])
  | (with_reducible refine ifQ_intro ?_ ?_ <;> intro hb))
  subst hQ
  refine ret_back (by simp only [Tryz.results6, resultOf, resultsA, resultA, List.toList_toArray, Fr.ev, T.get_n, Nat.reduceDiv, Nat.reduceMod, Nat.reduceSub, Nat.reduceEqDiff, ↓reduceIte] <;> rfl) ⟨_, rfl, ?_⟩
  repeat (first | exact Same.base _ _ _ | exact Same.refl _ | refine Same.hset hw ?_ (ky_le _ _))

theorem parts6z (h : Heap) (F : Nat) (ra rb : AV) (A B : List (List AV)) (hA : LstP h ksT ra A) (hB : LstP h ksT rb B) (n : Int) (hn : okN n) (hm : A.length + B.length ≤ 1000) : Snd Tryz.prog [] 6 [.agg [ra, rb], .int .i64 n] ⟨h, F⟩ [.val (.slice (ky F 0) 0 0 (partsZ n (A ++ B)).length (capZ (A ++ B))) ⟨hset h (ky F 0) (mkRow (ints (rowZ n (A ++ B))) 1), F + 1⟩] := by
  by_cases hp : 0 < (A ++ B).length
  · unfold partsZ capZ rowZ
    rw [if_pos hp, if_pos hp, if_pos hp]
    rw [List.length_append] at hp
    exact parts6 h F ra rb A B hA hB n hn hm hp
  · unfold partsZ capZ rowZ
    rw [if_neg hp, if_neg hp, if_neg hp]
    rw [List.length_append] at hp
    exact parts6b h F ra rb A B hA hB n hn (by omega)

noncomputable def KDf : FuncId → List AV → St → Outs := fun f args z => match f, args with
  | 6, [.agg [ra, rb], .int .i64 n] => match lstOf z.h ksT ra, lstOf z.h ksT rb with
    | some A, some B => open Classical in if n ≤ 1000000 ∧ A.length + B.length ≤ 1000 then (if okN n then some [.val (.slice (nk z.fc) 0 0 (partsZ n (A ++ B)).length (capZ (A ++ B))) ⟨hset z.h (nk z.fc) (mkRow (ints (rowZ n (A ++ B))) 1), z.fc + 1⟩] else some [.val .nils z]) else none
    | _, _ => none
  | f, args => KCf f args z
noncomputable def KD : CallF := ⟨KDf, fun _ _ _ => none⟩
theorem kd_fn (f : FuncId) (args : List AV) (s : St) : CallF.fn KD f args s = KDf f args s := rfl
theorem kd_ok : KOK Tryz.prog [] KD := KOK.table fun f args s outs h => by
  obtain ⟨h0, F⟩ := s
  unfold KDf at h
  split at h
  · split at h
    · rename_i hA hB
      have hA := lstOf_p hA
      have hB := lstOf_p hB
      split at h
      · rename_i hc
        split at h
        · rename_i hn
          cases h
          rw [nk_eq]
          exact parts6z _ _ _ _ _ _ hA hB _ hn hc.2
        · rename_i hn
          cases h
          exact parts6c _ _ _ _ _ (n_lt hn hc.1)
      · cases h
    · cases h
  · exact kc_ok.fn _ _ _ _ h
theorem sl_one {id m : Nat} {cap : Option Nat} (hm : 1 ≤ m) (hc : ∀ c, cap = some c → 1 ≤ c) : sliceA Tryz.prog 27 (.slice id 0 0 m cap) none (some (.int .i64 1)) none = some (.slice id 0 0 1 cap) := by
  obtain ⟨k, rfl⟩ : ∃ k, m = k + 1 := ⟨m - 1, by omega⟩
  simp only [sliceA, sliceD, Tryz.underlying27]
  cases cap with
  | none => simp only [boundsA]; rfl
  | some c =>
    obtain ⟨j, rfl⟩ : ∃ j, c = j + 1 := ⟨c - 1, by have := hc c rfl; omega⟩
    simp only [boundsA]; rfl
theorem partsZ_pos {n : Int} (hn : okN n) (L : List (List AV)) : 1 ≤ (partsZ n L).length := by
  unfold partsZ
  split
  · rename_i hp; exact ofZ_pos hn hp
  · exact Nat.le_refl _
theorem capZ_ok (L : List (List AV)) : ∀ c, capZ L = some c → 1 ≤ c := by
  unfold capZ
  intro c hc
  split at hc
  · cases hc
  · cases hc; exact Nat.le_refl _
/-- what Active hands back, as a list; its block's row -/
noncomputable def actM (n : Int) (A B : List (List AV)) : Nat := open Classical in if 0 < B.length then (ofZ n B).length else 1
noncomputable def actC (A B : List (List AV)) : Option Nat := open Classical in if 0 < B.length then none else capZ (A ++ B)
noncomputable def actR (n : Int) (A B : List (List AV)) : List Int := open Classical in if 0 < B.length then padded (sorted (parts n B)) else rowZ n (A ++ B)

set_option maxHeartbeats 1000000 in
theorem act8a (h : Heap) (F : Nat) (ra rb : AV) (A B : List (List AV)) (hA : LstP h ksT ra A) (hB : LstP h ksT rb B) (n : Int) (hn : okN n) (hm : A.length + B.length ≤ 1000) (hp : 0 < B.length) : Snd Tryz.prog [] 8 [.agg [ra, rb], .int .i64 n] ⟨h, F⟩ [.val (.slice (ky F 0) 0 0 (ofZ n B).length none) ⟨hset h (ky F 0) (mkRow (ints (padded (sorted (parts n B)))) 1), F + 1⟩] := by
  refine snd_block (ints_flat _) fun hw => ?_
  have hlt := okN_lt hn
  have hN0 := hp
  have hmB : B.length ≤ 1000 := by omega
  have hm2 : decide (0 < ((ofZ n B).length : Int)) = true := decide_eq_true (by have := ofZ_pos hn hp; omega)
  refine sndQ_body (K := KD) kd_ok mixed noNum (m := 0) Tryz.func8 ?_
  generalize hQ : retQ _ _ _ _ _ _ = Q0
  refine body_go (c := Tryz.f8.body.getD .skip) (n := 20) rfl rfl (by simp only [↓reduceIte, T.setList, T.set_e, T.set_n, Nat.reduceDiv, Nat.reduceMod, Nat.reduceEqDiff, Nat.zero_add] <;> rfl) ?_
  simp only [Tryz.f8, Option.getD_some]
  repeat' (first
  | with_reducible refine r_seq ?_
  | with_reducible refine r_next ?_
  | with_reducible refine r_block ?_
  | with_reducible refine r_seq_exit ?_
  | with_reducible refine r_seq_ret ?_
  | with_reducible refine r_blk_n ?_
  | with_reducible refine r_blk_ret ?_
  | with_reducible refine r_blk_hit ?_
  | with_reducible refine r_blk_miss rfl ?_
  | with_reducible refine r_skip ?_
  | with_reducible refine r_exit ?_
  | with_reducible refine r_ret ?_
  | with_reducible refine r_rq_exit ?_
  | with_reducible refine r_rq_ret ?_
  | ((with_reducible apply r_regA); (focus (simp only [List.append_eq, List.cons_append, List.nil_append] <;> rfl)); (focus (first | exact Nat.le_of_ble_eq_true rfl | (simp only [List.length_cons, List.length_nil]; omega))))
  | ((with_reducible refine r_reg (List.toList_toArray) ?_ ?_); focus (first | exact Nat.le_of_ble_eq_true rfl | (simp only [List.length_cons, List.length_nil]; omega)))
  | ((with_reducible apply r_end); focus (simp only [Nat.reduceAdd, Nat.zero_add] <;> rfl))
  | ((with_reducible (first | apply r_any | apply r_cond)); focus (simp only [↓reduceIte, clsOf, clsCall, newBlk, allocOp, Fr.ev, evs, ofV, ofA, ofS, nVar, AV.cells, rowOf_mk, put_mk, upd_mk, keyOf_mk, pureOp, readOp, pFA, pFA1, pFA2, rLd, rdAB_row, oneCell_one, hget_same, pBin, binA, intOp_lss, intOp_gtr, List.length_cons, List.length_nil, List.getElem?_cons_zero, List.getElem?_cons_succ, List.drop_zero, List.drop_succ_cons, List.take_succ_cons, List.take_zero, Nat.zero_add, Nat.add_zero, Nat.reduceAdd, Nat.reduceLT, Nat.reduceLeDiff, Nat.reduceEqDiff, Nat.reduceSub, and_self, Nat.add_eq, loadA_w, loadW_s, callTo_s, heavyCall, target, List.nil_append, List.append_nil, binA, stepOp, stHeavy, stV_mk, stB_mk, stO_mk, T.get_n, T.set_n, T.set_e, Nat.reduceDiv, Nat.reduceMod, sz22, ag22, Tryz.underlying24, Tryz.underlying27, stepAny, wantedA_none, rCall, rLen, rLen1_sl, lenA, lstOf_same hB, sameT, sameS hw, hn, hlt, hmB, hN0, hm2, KDf, kd_fn, KCf] <;> rfl))
  | (with_reducible rw [ifQ_t])
  | (with_reducible rw [ifQ_f])
  | (with_reducible refine ifQ_intro ?_ ?_ <;> intro hb))
  subst hQ
  refine ret_back (by simp only [Tryz.results8, resultOf, resultsA, resultA, List.toList_toArray, Fr.ev, T.get_n, Nat.reduceDiv, Nat.reduceMod, Nat.reduceSub, Nat.reduceEqDiff, ↓reduceIte] <;> rfl) ⟨_, _, _, rfl, ?_, nk_low F, hget_same _ _ _⟩
  intro i ab hi hd
  have h1 := hw i ab hi hd
  simp only at h1
  have h2 := nk_low F
  have h5 := ky_le F
  rw [hget_hset, if_neg (by omega), hget_hset, if_neg (by omega)]
  exact hi

set_option maxHeartbeats 1000000 in
theorem act8b (h : Heap) (F : Nat) (ra rb : AV) (A B : List (List AV)) (hA : LstP h ksT ra A) (hB : LstP h ksT rb B) (n : Int) (hn : okN n) (hm : A.length + B.length ≤ 1000) (hp : ¬ 0 < B.length) : Snd Tryz.prog [] 8 [.agg [ra, rb], .int .i64 n] ⟨h, F⟩ [.val (.slice (ky F 0) 0 0 1 (capZ (A ++ B))) ⟨hset h (ky F 0) (mkRow (ints (rowZ n (A ++ B))) 1), F + 1⟩] := by
  refine snd_block (ints_flat _) fun hw => ?_
  have hlt := okN_lt hn
  have hN0 := hp
  have hn6 : n ≤ 1000000 := hn.2
  have hmB : B.length ≤ 1000 := by omega
  have hso := fun (id : Nat) => sl_one (id := id) (partsZ_pos hn (A ++ B)) (capZ_ok (A ++ B))
  refine sndQ_body (K := KD) kd_ok mixed noNum (m := 0) Tryz.func8 ?_
  generalize hQ : retQ _ _ _ _ _ _ = Q0
  refine body_go (c := Tryz.f8.body.getD .skip) (n := 20) rfl rfl (by simp only [↓reduceIte, T.setList, T.set_e, T.set_n, Nat.reduceDiv, Nat.reduceMod, Nat.reduceEqDiff, Nat.zero_add] <;> rfl) ?_
  simp only [Tryz.f8, Option.getD_some]
  repeat' (first
  | with_reducible refine r_seq ?_
  | with_reducible refine r_next ?_
  | with_reducible refine r_block ?_
  | with_reducible refine r_seq_exit ?_
  | with_reducible refine r_seq_ret ?_
  | with_reducible refine r_blk_n ?_
  | with_reducible refine r_blk_ret ?_
  | with_reducible refine r_blk_hit ?_
  | with_reducible refine r_blk_miss rfl ?_
  | with_reducible refine r_skip ?_
  | with_reducible refine r_exit ?_
  | with_reducible refine r_ret ?_
  | with_reducible refine r_rq_exit ?_
  | with_reducible refine r_rq_ret ?_
  | ((with_reducible apply r_regA); (focus (simp only [List.append_eq, List.cons_append, List.nil_append] <;> rfl)); (focus (first | exact Nat.le_of_ble_eq_true rfl | (simp only [List.length_cons, List.length_nil]; omega))))
  | ((with_reducible refine r_reg (List.toList_toArray) ?_ ?_); focus (first | exact Nat.le_of_ble_eq_true rfl | (simp only [List.length_cons, List.length_nil]; omega)))
  | ((with_reducible apply r_end); focus (simp only [Nat.reduceAdd, Nat.zero_add] <;> rfl))
  | ((with_reducible (first | apply r_any | apply r_cond)); focus (simp only [↓reduceIte, clsOf, clsCall, newBlk, allocOp, Fr.ev, evs, ofV, ofA, ofS, nVar, AV.cells, rowOf_mk, put_mk, upd_mk, keyOf_mk, pureOp, readOp, pFA, pFA1, pFA2, rLd, rdAB_row, oneCell_one, someAgg_s, hget_same, pBin, binA, intOp_lss, intOp_gtr, List.length_cons, List.length_nil, List.getElem?_cons_zero, List.getElem?_cons_succ, List.drop_zero, List.drop_succ_cons, List.take_succ_cons, List.take_zero, Nat.zero_add, Nat.add_zero, Nat.reduceAdd, Nat.reduceLT, Nat.reduceLeDiff, Nat.reduceEqDiff, Nat.reduceSub, and_self, Nat.add_eq, loadA_w, loadW_a, loadW_s, callTo_s, heavyCall, target, List.nil_append, List.append_nil, binA, decide_false, stepOp, stHeavy, stV_mk, stB_mk, stO_mk, T.get_n, T.set_n, T.set_e, Nat.reduceDiv, Nat.reduceMod, sz22, ag22, sz24, ag24, Tryz.underlying24, Tryz.underlying27, stepAny, wantedA_none, rCall, rLen, lenA, lstOf_same hA, lstOf_same hB, sameT, sameS hw, hn, hlt, hm, hmB, hn6, hN0, KDf, kd_fn, KCf, rSl, pSlice, evO, hso, rLen1_nils, Int.lt_irrefl] <;> rfl))
  | (with_reducible rw [ifQ_t])
  | (with_reducible rw [ifQ_f])
  | (with_reducible refine ifQ_intro ?_ ?_ <;> intro hb))
  subst hQ
  refine ret_back (by simp only [Tryz.results8, resultOf, resultsA, resultA, List.toList_toArray, Fr.ev, T.get_n, Nat.reduceDiv, Nat.reduceMod, Nat.reduceSub, Nat.reduceEqDiff, ↓reduceIte] <;> rfl) ⟨_, _, _, rfl, ?_, nk_low F, hget_same _ _ _⟩
  intro i ab hi hd
  have h1 := hw i ab hi hd
  simp only at h1
  have h2 := nk_low F
  have h5 := ky_le F
  rw [hget_hset, if_neg (by omega), hget_hset, if_neg (by omega)]
  exact hi

theorem act8c (h : Heap) (F : Nat) (ra rb : AV) (n : Int) (hn : decide (n < 1) = true) : Snd Tryz.prog [] 8 [.agg [ra, rb], .int .i64 n] ⟨h, F⟩ [.val .nils ⟨h, F⟩] := by
  refine snd_val (by simp [Kin]) fun hw => ?_
  refine sndQ_body (K := K0) kok0 mixed noNum (m := 0) Tryz.func8 ?_
  generalize hQ : retQ _ _ _ _ _ _ = Q0
  refine body_go (c := Tryz.f8.body.getD .skip) (n := 20) rfl rfl (by simp only [↓reduceIte, T.setList, T.set_e, T.set_n, Nat.reduceDiv, Nat.reduceMod, Nat.reduceEqDiff, Nat.zero_add] <;> rfl) ?_
  simp only [Tryz.f8, Option.getD_some]
  repeat' (first
  | with_reducible refine r_seq ?_
  | with_reducible refine r_next ?_
  | with_reducible refine r_block ?_
  | with_reducible refine r_seq_exit ?_
  | with_reducible refine r_seq_ret ?_
  | with_reducible refine r_blk_n ?_
  | with_reducible refine r_blk_ret ?_
  | with_reducible refine r_blk_hit ?_
  | with_reducible refine r_blk_miss rfl ?_
  | with_reducible refine r_skip ?_
  | with_reducible refine r_exit ?_
  | with_reducible refine r_ret ?_
  | with_reducible refine r_rq_exit ?_
  | with_reducible refine r_rq_ret ?_
  | ((with_reducible apply r_regA); (focus (simp only [List.append_eq, List.cons_append, List.nil_append] <;> rfl)); (focus (first | exact Nat.le_of_ble_eq_true rfl | (simp only [List.length_cons, List.length_nil]; omega))))
  | ((with_reducible refine r_reg (List.toList_toArray) ?_ ?_); focus (first | exact Nat.le_of_ble_eq_true rfl | (simp only [List.length_cons, List.length_nil]; omega)))
  | ((with_reducible apply r_end); focus (simp only [Nat.reduceAdd, Nat.zero_add] <;> rfl))
  | ((with_reducible (first | apply r_any | apply r_cond)); focus (simp only [↓reduceIte, clsOf, newBlk, allocOp, Fr.ev, ofV, ofA, ofS, nVar, AV.cells, rowOf_mk, put_mk, upd_mk, keyOf_mk, pureOp, pBin, binA, intOp_lss, Nat.add_zero, Nat.reduceLT, Nat.reduceEqDiff, Nat.reduceSub, binA, stepOp, stV_mk, stB_mk, T.get_n, T.set_n, T.set_e, Nat.reduceDiv, Nat.reduceMod, stepAny, wantedA_none, hn] <;> rfl))
  | (with_reducible rw [ifQ_t])
  | (with_reducible rw [ifQ_f])
  | (with_reducible refine ifQ_intro ?_ ?_ <;> intro hb))
  subst hQ
  refine ret_back (by simp only [Tryz.results8, resultOf, resultsA, resultA, List.toList_toArray, Fr.ev, T.get_n, Nat.reduceDiv, Nat.reduceMod, Nat.reduceSub, Nat.reduceEqDiff, ↓reduceIte] <;> rfl) ⟨_, rfl, ?_⟩
  repeat (first | exact Same.base _ _ _ | exact Same.refl _ | refine Same.hset hw ?_ (ky_le _ _))

theorem act8z (h : Heap) (F : Nat) (ra rb : AV) (A B : List (List AV)) (hA : LstP h ksT ra A) (hB : LstP h ksT rb B) (n : Int) (hn : okN n) (hm : A.length + B.length ≤ 1000) : Snd Tryz.prog [] 8 [.agg [ra, rb], .int .i64 n] ⟨h, F⟩ [.val (.slice (ky F 0) 0 0 (actM n A B) (actC A B)) ⟨hset h (ky F 0) (mkRow (ints (actR n A B)) 1), F + 1⟩] := by
  unfold actM actC actR
  by_cases hp : 0 < B.length
  · rw [if_pos hp, if_pos hp, if_pos hp]; exact act8a h F ra rb A B hA hB n hn hm hp
  · rw [if_neg hp, if_neg hp, if_neg hp]; exact act8b h F ra rb A B hA hB n hn hm hp


end Go.Proofs.YtdcindnnbmilaaaGreatDoor

